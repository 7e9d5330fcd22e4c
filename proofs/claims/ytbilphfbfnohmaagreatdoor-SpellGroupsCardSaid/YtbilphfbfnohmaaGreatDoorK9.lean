/-
  Part K9 of the proofs of this seat, merged by a program out of 4 texts; remarks are struck.
-/
import Derived.Test.YtbilphfbfnohmaaGreatDoorK8
import Derived.Test.YtbilphfbfnohmaaGreatDoorK7
namespace Go.Proofs.YtbilphfbfnohmaaGreatDoor.Pz
open Go.RowKit
structure ChS (s:Str) (B q:Nat) (w W:World):Prop where
 num:B+2=q∧q+2≤W.heap.size
 pt:W.heap[B]? = some (.cells #[.int .i64 0] 3 (0,0))
 er:W.heap[B+1]? = some (.cells #[.int .i64 0] 22 (0,0))
 bs:W.heap[q]? = some (.cells #[.string ⟨s.toArray⟩] 9 (0,0))
 bq:W.heap[q+1]? = some (.cells #[.bool true] 4 (0,0))
 low:Below B w W
theorem ChS.own {s:Str} {B q M:Nat} {w:World} (hM:q+2≤M):OwnT convTs M (fun (_:Nat) W=>ChS s B q w W):=by
 intro k X Y h ht
 obtain ⟨n1,n2⟩:=h.num
 have o:∀ k,k<q+2→Y.heap[k]? = X.heap[k]?:=fun k hk=>by
  have hk2:k<X.heap.size:=by omega
  rw [Array.getElem?_eq_getElem hk2]
  exact ht.block k _ (Array.getElem?_eq_getElem hk2) (.inl (by omega))
 exact ⟨⟨n1,Nat.le_trans n2 ht.size⟩,(o _ (by omega)).trans h.pt,(o _ (by omega)).trans h.er,(o _ (by omega)).trans h.bs,(o _ (by omega)).trans h.bq,h.low.trans ⟨ht.os,ht.tape,ht.output,ht.size,fun k hk=>o k (by omega)⟩⟩
def ChkQ (w:World) (e:Ending) (w':World):Prop:=e=.returned (.tuple #[.int .i64 0,.int .i64 0])∧Below w.heap.size w w'
set_option maxRecDepth 100000 in
theorem check_end {b D:Nat} {w W:World} {T:Array Value} (hb:b=w.heap.size) (hD:b+1<D) (h0:W.heap[b]? = some (.cells #[.int .i64 0] 3 (0,0))) (h1:W.heap[b+1]? = some (.cells #[.int .i64 0] 22 (0,0)))
  (hK:W.heap[D]? = some (.deferred (some []))) (hlow:Below b w W) (t4:T[4]? = some (.pointer (some ⟨b,0,none⟩))) (t5:T[5]? = some (.pointer (some ⟨b+1,0,none⟩))) :
  bodyPostM Fence.wide 5 Tryz.prog Tryz.f53 (ChkQ w) Exit.ret { tmps:=T,defers:=[{ target:=.collected D,args:=#[] },{ target:=.fn (.func 44) #[],args:=#[.pointer (some ⟨b,0,none⟩),.pointer (some ⟨b+1,0,none⟩)] }] } W:=by
 have hlt:b+1<W.heap.size:=(Array.getElem?_eq_some_iff.1 h1).1
 refine ⟨by simp,.inl ⟨_,_,rfl,run_takeDeferred hK,?_⟩⟩
 obtain ⟨W1,hW1⟩:∃ W1,W1=W.putObj D (.deferred none):=⟨_,rfl⟩
 have g0:W1.heap[b]? = some (.cells #[.int .i64 0] 3 (0,0)):=by rw [hW1];exact (World.putObj_heap_other (by omega)).trans h0
 have g1:W1.heap[b+1]? = some (.cells #[.int .i64 0] 22 (0,0)):=by rw [hW1];exact (World.putObj_heap_other (by omega)).trans h1
 have hl1:Below b w W1:=by rw [hW1];exact hlow.trans ⟨rfl,rfl,rfl,by rw [World.putObj_size];exact Nat.le_refl _,fun k hk=>World.putObj_heap_other (by omega)⟩
 rw [← hW1]
 clear hW1 h0 h1 hK hlow hlt
 refine ⟨by simp,.inr ⟨fun _=>by decide,.func 44,#[],44,#[.pointer (some ⟨b,0,none⟩),.pointer (some ⟨b+1,0,none⟩)],rfl,?_,fun _ _=>trivial,?_⟩⟩
 ·simp [invoke,go_sem]
 refine (caught_idle _ _ _ _).mono ?_
 rintro e u' W2 ⟨rfl,rfl,hb2⟩
 have k0:=(hb2.block _ (Array.getElem?_eq_some_iff.1 g0).1).trans g0
 have k1:=(hb2.block _ (Array.getElem?_eq_some_iff.1 g1).1).trans g1
 have hl2:Below b w W2:=hl1.trans (hb2.mono (by have:=(Array.getElem?_eq_some_iff.1 g0).1;omega))
 clear g0 g1 hl1 hb2
 have c0:W2.cell? ⟨b,0,none⟩=some (.int .i64 0):=by rw [Lib.cell_of_heap k0];rfl
 have c1:W2.cell? ⟨b+1,0,none⟩=some (.int .i64 0):=by rw [Lib.cell_of_heap k1];rfl
 refine ⟨.tuple #[.int .i64 0,.int .i64 0],?_,rfl,by rw [← hb];exact hl2⟩
 simp [results,Tryz.results53,asAddr,go_sem,c0,c1,t4,t5]
set_option maxRecDepth 1000000 in
set_option maxHeartbeats 4000000 in
theorem check_fn {ps:List Pc} (hok:partsOk true ps=true) (w:World) (hs:(shwAll ps).length≤100000) :
  Calls Tryz.prog 53 #[.string ⟨(shwAll ps).toArray⟩,.bool true] w (ChkQ w):=by
 obtain ⟨s,hse⟩:∃ s,s=shwAll ps:=⟨_,rfl⟩
 rw [← hse] at hs ⊢
 obtain ⟨w0,hw0⟩:∃ w0,w0=(w.alloc (.cells #[.int .i64 0] 3)).alloc (.cells #[.int .i64 0] 22):=⟨_,rfl⟩
 have hz0:w0.heap.size=w.heap.size+1+1:=by rw [hw0];simp
 have hb0:Below w.heap.size w w0:=by rw [hw0];exact ((Below.refl _ _).alloc (Nat.le_refl _) _).alloc (by simp) _
 have h00:w0.heap[w.heap.size]? = some (.cells #[.int .i64 0] 3 (0,0)):=by
  rw [hw0,Below.heap_alloc _ _ _ (by simp)]
  exact heap_alloc_new _ _
 have h01:w0.heap[w.heap.size+1]? = some (.cells #[.int .i64 0] 22 (0,0)):=by
  rw [hw0]
  have h:=heap_alloc_new (w.alloc (.cells #[.int .i64 0] 3)) (.cells #[.int .i64 0] 22)
  rw [World.size_alloc] at h
  exact h
 have HW0:=hid hw0
 have HSE:=hid hse
 have HB0:=hid hb0
 have HZ0:=hid hz0
 have H00:=hid h00
 have H01:=hid h01
 have HCV:=hid (conversions_fn s true w0)
 clear hw0 hse hb0 hz0 h00 h01
 refine (callsIn_wide (n:=5)).1 ?_
 refine callsIn_of_wp_marks Tryz.func53 rfl trivial ?_ rfl
 simp only [Tryz.ntmps53,List.size_toArray,List.length_cons,List.length_nil,Nat.reduceAdd,Nat.reduceSub,Array.replicate_succ,Array.replicate_zero,List.push_toArray,List.append_toArray,List.nil_append,List.cons_append]
 gi_wp2_with (refine ⟨trivial,?_⟩;gi_at_call 47;rw [← HW0.out];refine (callsIn_wide.2 HCV.out).mono ?_;rintro e w1 ⟨rfl,hb1,hcs,hcq,hz1⟩)
 obtain ⟨q,hq⟩:∃ q,q=w0.heap.size:=⟨_,rfl⟩
 obtain ⟨B,hB⟩:∃ B,B=w.heap.size:=⟨_,rfl⟩
 have hz0:=HZ0.out
 rw [← hq] at hcs hcq hz1 hz0 ⊢
 rw [← hB] at hz0 ⊢
 have hF0:ChS s B q w w1:=by
  refine ⟨⟨by omega,by omega⟩,(hb1.block _ (by omega)).trans (by rw [hB];exact H00.out),(hb1.block _ (by omega)).trans (by rw [hB];exact H01.out),hcs,hcq,?_⟩
  rw [hB]
  exact HB0.out.trans (hb1.mono (by omega))
 have HF0:=hid hF0
 have HBB:=hid hB
 have hqB:B+2=q:=by omega
 clear hB hF0 hz0 HB0 HZ0 H00 H01 HW0 HCV hq hcs hcq hb1
 refine wpIn_range_n rfl (by omega) (gf:=87) (lb:=#[.pointer (some ⟨q,0,none⟩),.pointer (some ⟨q+1,0,none⟩)]) rfl trivial (enters_of Tryz.func87 (by kernel_rfl) rfl)
  (convs_n (scan:=true) hok (by rw [← HSE.out];omega) (b:=q) (B:=B) _ (by rw [← HSE.out];exact HF0.out.bs) HF0.out.bq) (by omega) (by simp;omega) (Below.refl _ _) (fun _=>rfl)
  (fun _ W=>ChS s B q w W) (ChS.own (by omega)) HF0.out
  (fun _ _ _=>True)
  ?hAx ?assign ?body ?done
 case hAx=>rintro k a' _ X Y row _ _ _;trivial
 case assign=>
  rintro lr k W K hi hlt hK
  gi_wp2
  exact hK _ _ (KeepsFrom.refl _ _) (KeepT.refl _ _ _ _) hi trivial
 case body=>
  rintro lr k a' W hi _ hlt
  gi_wp2
  exact ⟨KeepsFrom.refl _ _,KeepT.refl _ _ _ _,hi⟩
 case done=>
  rintro D W hD hi hK
  have r0:=Lib.cell_of_heap hi.pt 0
  have r1:=Lib.cell_of_heap hi.er 0
  have f0:=Lib.frozen_of_heap hi.pt 0
  have f1:=Lib.frozen_of_heap hi.er 0
  have HI:=hid hi
  have HK:=hid hK
  obtain ⟨n1,n2⟩:=hi.num
  clear hi hK
  gi_wp2
  have hD9:q+2≤D:=by omega
  refine check_end (b:=B) (w:=w) HBB.out (by omega) ?_ ?_ ?_ ?_ rfl rfl
  ·exact (heap_setO _ (by omega) _).trans (heap_set1 HI.out.pt _)
  ·exact heap_set1 ((heap_setO _ (by omega) _).trans HI.out.er) _
  ·exact (heap_setO _ (by omega) _).trans ((heap_setO _ (by omega) _).trans HK.out)
  ·exact (HI.out.low.setCell (by show B≤B;omega) _).setCell (by show B≤B+1;omega) _
end Go.Proofs.YtbilphfbfnohmaaGreatDoor.Pz
namespace Go.Proofs.YtbilphfbfnohmaaGreatDoor.Pz
open Go.RowKit
def scanK (ps:List Pc) (s:Str):Nat→List Str×Str
 | 0=>([],s)
 | k+1=>match ps.getD k .pct with
  | .txt l0=>((scanK ps s k).1,(plainE l0 (scanK ps s k).2).2)
  | .cnv _ _ c=>((scanK ps s k).1++[(readIn c (scanK ps s k).2).1],(readIn c (scanK ps s k).2).2)
  | .pct=>scanK ps s k
def ScanOk (ps:List Pc) (s:Str):Prop:=∀ k,k<ps.length→match ps.getD k .pct with
 | .txt l0=>(plainE l0 (scanK ps s k).2).1=true
 | .cnv _ _ c=>ReadOk c (scanK ps s k).2
 | .pct=>True
theorem scanK_len (ps:List Pc) (s:Str):∀ k,(scanK ps s k).1.length≤k
 | 0=>Nat.le_refl _
 | k+1=>by
  have h:=scanK_len ps s k
  rw [scanK]
  cases ps.getD k .pct with
  | txt l0=>exact Nat.le_succ_of_le h
  | pct=>exact Nat.le_succ_of_le h
  | cnv a b c=>simp only [List.length_append,List.length_cons,List.length_nil];omega
structure StepS (A:List Nat) (B M:Nat) (W W':World):Prop where
 low:Below B W W'
 keep:∀ (k:Nat) (o:Obj),W.heap[k]? = some o→k ∉ A→(k<M∨∀ c fz,o≠.cells c 9 fz)→W'.heap[k]? = some o
section
variable {A:List Nat} {B M:Nat} {X Y Z:World}
theorem StepS.refl (A:List Nat) (B M:Nat) (X:World):StepS A B M X X:=⟨Below.refl _ _,fun _ _ h _ _=>h⟩
theorem StepS.trans (h:StepS A B M X Y) (k:StepS A B M Y Z):StepS A B M X Z:=⟨h.low.trans k.low,fun i o hi hA hu=>k.keep i o (h.keep i o hi hA hu) hA hu⟩
theorem StepS.of_below (h:Below X.heap.size X Y) (hB:B≤X.heap.size):StepS A B M X Y:=⟨h.mono hB,fun k _ hk _ _=>(h.block k (Array.getElem?_eq_some_iff.1 hk).1).trans hk⟩
theorem StepS.of_only {A':List Nat} (h:OnlyS A' X Y) (hA:∀ k∈A',k∈A) (hB:∀ k∈A',B≤k) (hX:B≤X.heap.size):StepS A B M X Y:=
 ⟨h.low hX hB,fun k _ hk hn _=>(h.block k (Array.getElem?_eq_some_iff.1 hk).1 fun e=>hn (hA k e)).trans hk⟩
theorem StepS.keeps {N:Nat} (h:StepS A B M X Y) (hA:∀ k∈A,∃ cs t fz,X.heap[k]? = some (.cells cs t fz)∧t ∉ convTs):KeepsFrom N X Y:=
 ⟨h.low.size,fun k o _ hk ho=>h.keep k o hk (fun e=>by
  obtain ⟨cs,t,fz,h1,_⟩:=hA k e
  rw [hk] at h1
  cases h1
  cases ho) (.inr fun c fz e=>by rw [e] at ho;cases ho)⟩
theorem StepS.keepT {Bx:List Nat} (h:StepS A B M X Y) (hA:∀ k∈A,∃ cs t fz,X.heap[k]? = some (.cells cs t fz)∧t ∉ convTs) (hx:∀ k∈Bx,k ∉ A∧k<M∧k<X.heap.size):KeepT B convTs Bx X Y:=
 ⟨h.low,fun k cs t fz hk ht=>h.keep k _ hk (fun e=>by
  obtain ⟨cs',t',fz',h1,h2⟩:=hA k e
  rw [hk] at h1
  cases h1
  exact h2 ht) (.inr fun c f e=>by cases e;exact absurd ht (by decide)),fun k hk=>by
  obtain ⟨h1,h2,h3⟩:=hx k hk
  rw [Array.getElem?_eq_getElem h3]
  exact h.keep k _ (Array.getElem?_eq_getElem h3) h1 (.inl h2)⟩
end
structure SSt (sp s:Str) (B m:Nat) (w:World) (told:List Str) (i:Nat) (W:World):Prop where
 num:B+3≤m∧m+5≤W.heap.size
 ls:∃ v,W.heap[B]? = some (.cells #[v] 26 (0,0))∧RowS (m+5) W v told
 dn:W.heap[B+1]? = some (.cells #[.int .i64 (told.length:Nat)] 3 (0,0))
 er:W.heap[B+1+1]? = some (.cells #[.int .i64 0] 22 (0,0))
 pt:W.heap[m]? = some (.cells #[.int .i64 0] 3 (0,0))
 inp:SIn W (m+1) s i
 pb:W.heap[m+2]? = some (.cells #[.pointer (some ⟨m+1,0,none⟩)] 94 (0,0))
 bs:W.heap[m+3]? = some (.cells #[.string ⟨sp.toArray⟩] 9 (0,0))
 bq:W.heap[m+4]? = some (.cells #[.bool true] 4 (0,0))
 low:Below B w W
section
variable {sp s:Str} {B m i:Nat} {w:World} {told:List Str} {W W':World}
theorem RowS.keep {C:Nat} {W W':World} {v:Value} {l:List Str} (h:RowS C W v l) (hk:∀ k cs fz,C≤k→W.heap[k]? = some (.cells cs 9 fz)→W'.heap[k]? = some (.cells cs 9 fz)):RowS C W' v l:=by
 refine ⟨h.1,?_⟩
 rcases h.2 with hn | ⟨g,cap,cur,hv,hg,hc,rest⟩
 ·exact .inl hn
 ·exact .inr ⟨g,cap,cur,hv,hg,hk g cur (0,0) hg hc,rest⟩
theorem SSt.below (h:SSt sp s B m w told i W) (hb:Below W.heap.size W W'):SSt sp s B m w told i W':=by
 obtain ⟨n1,n2⟩:=h.num
 obtain ⟨v,hv,hr⟩:=h.ls
 have o:∀ k,k<m+5→W'.heap[k]? = W.heap[k]?:=fun k hk=>hb.block k (by omega)
 exact ⟨⟨n1,Nat.le_trans n2 hb.size⟩,⟨v,(o _ (by omega)).trans hv,hr.keep fun k cs fz _ hk=>(hb.block k (Array.getElem?_eq_some_iff.1 hk).1).trans hk⟩,(o _ (by omega)).trans h.dn,(o _ (by omega)).trans h.er,(o _ (by omega)).trans h.pt,(o _ (by omega)).trans h.inp,(o _ (by omega)).trans h.pb,
  (o _ (by omega)).trans h.bs,(o _ (by omega)).trans h.bq,h.low.trans (hb.mono (by omega))⟩
theorem SSt.read {j:Nat} (h:SSt sp s B m w told i W) (ho:OnlyS [m+1] W W') (hi:SIn W' (m+1) s j):SSt sp s B m w told j W':=by
 obtain ⟨n1,n2⟩:=h.num
 obtain ⟨v,hv,hr⟩:=h.ls
 have o:∀ k,k<W.heap.size→k≠m+1→W'.heap[k]? = W.heap[k]?:=fun k hk hn=>ho.block k hk (by simpa using hn)
 exact ⟨⟨n1,Nat.le_trans n2 ho.size⟩,⟨v,(o _ (by omega) (by omega)).trans hv,hr.keep fun k cs fz hC hk=>(o k (Array.getElem?_eq_some_iff.1 hk).1 (by omega)).trans hk⟩,(o _ (by omega) (by omega)).trans h.dn,(o _ (by omega) (by omega)).trans h.er,(o _ (by omega) (by omega)).trans h.pt,hi,(o _ (by omega) (by omega)).trans h.pb,
  (o _ (by omega) (by omega)).trans h.bs,(o _ (by omega) (by omega)).trans h.bq,h.low.trans (ho.low (by omega) (by simp;omega))⟩
theorem SSt.own {M:Nat} (hM:m+5≤M) (f:Nat→List Str) (g:Nat→Str):OwnT convTs M (fun (k:Nat) W=>∃ i,SSt sp s B m w (f k) i W∧At s (g k) i):=by
 rintro k X Y ⟨i,h,ha⟩ ht
 refine ⟨i,?_,ha⟩
 obtain ⟨n1,n2⟩:=h.num
 obtain ⟨v,hv,hr⟩:=h.ls
 have o:∀ k,k<m+5→Y.heap[k]? = X.heap[k]?:=fun k hk=>by
  have hk2:k<X.heap.size:=by omega
  rw [Array.getElem?_eq_getElem hk2]
  exact ht.block k _ (Array.getElem?_eq_getElem hk2) (.inl (by omega))
 exact ⟨⟨n1,Nat.le_trans n2 ht.size⟩,⟨v,(o _ (by omega)).trans hv,hr.keep fun k cs fz _ hk=>ht.block k _ hk (.inr ⟨cs,_,fz,rfl,by decide⟩)⟩,(o _ (by omega)).trans h.dn,(o _ (by omega)).trans h.er,(o _ (by omega)).trans h.pt,(o _ (by omega)).trans h.inp,(o _ (by omega)).trans h.pb,
  (o _ (by omega)).trans h.bs,(o _ (by omega)).trans h.bq,h.low.trans ⟨ht.os,ht.tape,ht.output,ht.size,fun k hk=>o k (by omega)⟩⟩
end
structure EndS (B D:Nat) (w:World) (v:Value) (told:List Str) (W:World):Prop where
 num:B+3≤D
 ls:W.heap[B]? = some (.cells #[v] 26 (0,0))
 row:RowS (B+3) W v told
 dn:W.heap[B+1]? = some (.cells #[.int .i64 (told.length:Nat)] 3 (0,0))
 er:W.heap[B+1+1]? = some (.cells #[.int .i64 0] 22 (0,0))
 df:W.heap[D]? = some (.deferred (some []))
 low:Below B w W
section
variable {B D:Nat} {w W:World} {v:Value} {told:List Str}
theorem EndS.s0 (h:EndS B D w v told W):EndS B D w v told (W.setCell ⟨B,0,none⟩ v):=by
 have hn:=h.num
 exact ⟨hn,heap_set1 h.ls _,h.row.keep fun k cs fz hk hc=>(heap_setO _ (by omega) _).trans hc,(heap_setO _ (by omega) _).trans h.dn,(heap_setO _ (by omega) _).trans h.er,(heap_setO _ (by omega) _).trans h.df,h.low.setCell (by show B≤B;omega) _⟩
theorem EndS.s1 (h:EndS B D w v told W):EndS B D w v told (W.setCell ⟨B+1,0,none⟩ (.int .i64 (told.length:Nat))):=by
 have hn:=h.num
 exact ⟨hn,(heap_setO _ (by omega) _).trans h.ls,h.row.keep fun k cs fz hk hc=>(heap_setO _ (by omega) _).trans hc,heap_set1 h.dn _,(heap_setO _ (by omega) _).trans h.er,(heap_setO _ (by omega) _).trans h.df,h.low.setCell (by show B≤B+1;omega) _⟩
theorem EndS.s2 (h:EndS B D w v told W):EndS B D w v told (W.setCell ⟨B+1+1,0,none⟩ (.int .i64 0)):=by
 have hn:=h.num
 exact ⟨hn,(heap_setO _ (by omega) _).trans h.ls,h.row.keep fun k cs fz hk hc=>(heap_setO _ (by omega) _).trans hc,(heap_setO _ (by omega) _).trans h.dn,heap_set1 h.er _,(heap_setO _ (by omega) _).trans h.df,h.low.setCell (by show B≤B+1+1;omega) _⟩
theorem EndS.drew (h:EndS B D w v told W):EndS B D w v told W.drew:=⟨h.num,h.ls,h.row.keep fun _ _ _ _ hc=>hc,h.dn,h.er,h.df,h.low.trans ⟨rfl,rfl,rfl,Nat.le_refl _,fun _ _=>rfl⟩⟩
end
theorem scan1_idle (n:Nat) {q:Nat} (p r:Addr) {u:FrameMode} {w:World} (h:w.heap[q]? = some (.cells #[.int .i64 0] 22 (0,0))) :
  CallsDIn Fence.wide n Tryz.prog 54 #[.pointer (some ⟨q,0,none⟩),.pointer (some p),.pointer (some r)] u w fun e u' w'=>u'=u∧(e=.returned (.tuple #[])∧w'=w):=by
 have c0:w.cell? ⟨q,0,none⟩=some (.int .i64 0):=by rw [Lib.cell_of_heap h];rfl
 refine callsDIn_of_wp Tryz.func54 rfl trivial ?_
 simp only [Tryz.ntmps54,List.size_toArray,List.length_cons,List.length_nil,Nat.reduceAdd,Nat.reduceSub,Array.replicate_succ,Array.replicate_zero,List.push_toArray,List.append_toArray,List.nil_append,List.cons_append]
 gi_wp2
 go_end0
 exact ⟨rfl,rfl⟩
def ScnQ (told:List Str) (w:World) (e:Ending) (w':World):Prop:=∃ v,e=.returned (.tuple #[v,.int .i64 (told.length:Nat),.int .i64 0])∧StrsAt w' v told∧Below w.heap.size w w'
set_option maxRecDepth 100000 in
theorem scan_end {told:List Str} {b D m:Nat} {v:Value} {w W:World} {T:Array Value} (hb:b=w.heap.size) (hE:EndS b D w v told W) (t4:T[4]? = some (.pointer (some ⟨b,0,none⟩))) (t5:T[5]? = some (.pointer (some ⟨b+1,0,none⟩))) (t6:T[6]? = some (.pointer (some ⟨b+1+1,0,none⟩))) :
  bodyPostM Fence.wide 5 Tryz.prog Tryz.f15 (ScnQ told w) Exit.ret { tmps:=T,defers:=[{ target:=.collected D,args:=#[] },{ target:=.fn (.func 44) #[],args:=#[.pointer (some ⟨m,0,none⟩),.pointer (some ⟨b+1+1,0,none⟩)] },
   { target:=.fn (.func 54) #[.pointer (some ⟨b+1+1,0,none⟩),.pointer (some ⟨b,0,none⟩),.pointer (some ⟨b+1,0,none⟩)],args:=#[] }] } W:=by
 have hD:=hE.num
 refine ⟨by simp,.inl ⟨_,_,rfl,run_takeDeferred hE.df,?_⟩⟩
 obtain ⟨W1,hW1⟩:∃ W1,W1=W.putObj D (.deferred none):=⟨_,rfl⟩
 have hDW:D<W.heap.size:=(Array.getElem?_eq_some_iff.1 hE.df).1
 have o1:∀ k,k≠D→W1.heap[k]? = W.heap[k]?:=fun k hk=>by rw [hW1];exact World.putObj_heap_other (by omega)
 have g0:=(o1 b (by omega)).trans hE.ls
 have g1:=(o1 (b+1) (by omega)).trans hE.dn
 have g2:=(o1 (b+1+1) (by omega)).trans hE.er
 have gr:RowS (b+3) W1 v told:=hE.row.keep fun k cs fz _ hk=>(o1 k (fun e=>by rw [e,hE.df] at hk;cases hk)).trans hk
 have hl1:Below b w W1:=by rw [hW1];exact hE.low.trans ⟨rfl,rfl,rfl,by rw [World.putObj_size];exact Nat.le_refl _,fun k hk=>World.putObj_heap_other (by omega)⟩
 rw [← hW1]
 clear hW1 hE o1
 refine ⟨by simp,.inr ⟨fun _=>by decide,.func 44,#[],44,#[.pointer (some ⟨m,0,none⟩),.pointer (some ⟨b+1+1,0,none⟩)],rfl,?_,fun _ _=>trivial,?_⟩⟩
 ·simp [invoke,go_sem]
 refine (caught_idle _ _ _ _).mono ?_
 rintro e u' W2 ⟨rfl,rfl,hb2⟩
 have k0:=(hb2.block _ (Array.getElem?_eq_some_iff.1 g0).1).trans g0
 have k1:=(hb2.block _ (Array.getElem?_eq_some_iff.1 g1).1).trans g1
 have k2:=(hb2.block _ (Array.getElem?_eq_some_iff.1 g2).1).trans g2
 have kr:RowS (b+3) W2 v told:=gr.keep fun k cs fz _ hk=>(hb2.block k (Array.getElem?_eq_some_iff.1 hk).1).trans hk
 have hl2:Below b w W2:=hl1.trans (hb2.mono (by have:=(Array.getElem?_eq_some_iff.1 g0).1;omega))
 clear g0 g1 g2 gr hl1 hb2
 refine ⟨by simp [settle],.inr ⟨fun _=>by decide,.func 54,#[.pointer (some ⟨b+1+1,0,none⟩),.pointer (some ⟨b,0,none⟩),.pointer (some ⟨b+1,0,none⟩)],54,#[.pointer (some ⟨b+1+1,0,none⟩),.pointer (some ⟨b,0,none⟩),.pointer (some ⟨b+1,0,none⟩)],rfl,?_,fun _ _=>trivial,?_⟩⟩
 ·simp [invoke,go_sem]
 refine (scan1_idle _ _ _ k2).mono ?_
 rintro e u' W3 ⟨rfl,rfl,rfl⟩
 have c0:W3.cell? ⟨b,0,none⟩=some v:=by rw [Lib.cell_of_heap k0];rfl
 have c1:W3.cell? ⟨b+1,0,none⟩=some (.int .i64 (told.length:Nat)):=by rw [Lib.cell_of_heap k1];rfl
 have c2:W3.cell? ⟨b+1+1,0,none⟩=some (.int .i64 0):=by rw [Lib.cell_of_heap k2];rfl
 refine ⟨.tuple #[v,.int .i64 (told.length:Nat),.int .i64 0],?_,v,rfl,kr.strs,by rw [← hb];exact hl2⟩
 simp [results,Tryz.results15,asAddr,go_sem,c0,c1,c2,t4,t5,t6]
end Go.Proofs.YtbilphfbfnohmaaGreatDoor.Pz
namespace Go.Proofs.YtbilphfbfnohmaaGreatDoor.Pz
open Go.RowKit Go.Shelf
attribute [local go_sem] Oper.semAt_some
theorem app_oneS {F:Fence} {nF:Nat} {w:World} {N:Nat} (hN:w.heap.size=N) {ops:Array Oper} {rest:List Oper} {o:Oper} {a:Act} {Q:Exit→Act→World→Prop} (hgd:o.guard=none) (s x:Operand)
  (ho:o.op=.call { callee:=.builtin .append,args:=#[s,x],argTypes:=#[26,26] }) (B:Nat) (v:Value) (l:List Str) (q:Str)
  (hs:a.eval s=v) (hown:RowS B w v l) (hx:a.eval x=.slice (some ⟨N,0,none⟩) 1 1) (hB:B≤w.heap.size) (hl:l.length≤10000000)
  (h:∀ v' w',RowS B w' v' (l++[q])→w.grownBy w' v.ownBlock→(∀ g,v'.ownBlock=some g→v.ownBlock=some g∨w.heap.size≤g)→wpListIn F nF Tryz.prog ops Q rest (a.put o.dst v') w') :
  wpListIn F nF Tryz.prog ops Q (o::rest) a (w.alloc (.cells #[.string ⟨q.toArray⟩] 9)):=by
 obtain ⟨i0,hi,hz0,hz1,hz2⟩:=info_parts Tryz.infoS
 subst hN
 have hown':(w.alloc (.cells #[.string ⟨q.toArray⟩] 9)).ownsRow B 9 1 v l.length (strCells l):=World.ownsRow.alloc hown _
 refine wpListIn_append_own_at _ hgd s x 26 ho B 9 i0 (.string ⟨#[]⟩) 1 16 Tryz.underlying26 hi hz0 hz1 hz2 rfl (by decide) v l.length (strCells l) hs hown' ⟨w.heap.size,0,none⟩ 1 1 [.string ⟨q.toArray⟩] hx rfl (cell_one_new _ _ _) (strCells_one [q]) ?_ ?_ ?_ ?_
 ·unfold maxLen;omega
 ·omega
 ·simp;omega
 ·intro v' w' hrow hg _ hat
  refine h v' w' ?_ ?_ ?_
  ·show w'.ownsRow B 9 1 v' (l++[q]).length (strCells (l++[q]))
   rw [strCells_app,List.length_append]
   exact hrow
  ·refine ⟨hg.os,hg.tape,hg.output,?_,fun k hk hr=>?_⟩
   ·have:=hg.size;simp at this;omega
   ·rw [hg.block k (by simp;omega) hr]
    exact Below.heap_alloc _ _ _ (by omega)
  ·intro g hgv
   rcases hat with h2 | h2
   ·exact .inl (by rw [← h2];exact hgv)
   ·rw [h2] at hgv
    have:=Option.some.inj hgv
    simp at this
    exact .inr (by omega)
theorem EndS.facts {B D:Nat} {w X:World} {v:Value} {told:List Str} (h:EndS B D w v told X):X.cell? ⟨B,0,none⟩=some v∧X.cell? ⟨B+1,0,none⟩=some (.int .i64 (told.length:Nat))∧X.cell? ⟨B+1+1,0,none⟩=some (.int .i64 0)∧
  X.frozen? ⟨B,0,none⟩=false∧X.frozen? ⟨B+1,0,none⟩=false∧X.frozen? ⟨B+1+1,0,none⟩=false:=
 ⟨(Lib.cell_of_heap h.ls 0).trans rfl,(Lib.cell_of_heap h.dn 0).trans rfl,(Lib.cell_of_heap h.er 0).trans rfl,Lib.frozen_of_heap h.ls 0,Lib.frozen_of_heap h.dn 0,Lib.frozen_of_heap h.er 0⟩
theorem SSt.more {sp s:Str} {B m i:Nat} {w W W9:World} {told:List Str} {v v9:Value} {x:Str} (h:SSt sp s B m w told i W) (hls:W.heap[B]? = some (.cells #[v] 26 (0,0))) (hrow:RowS (m+5) W v told)
  (hr9:RowS (m+5) W9 v9 (told++[x])) (hg:(W.setCell ⟨B+1,0,none⟩ (.int .i64 ((told.length:Nat)+1))).grownBy W9 v.ownBlock) :
  SSt sp s B m w (told++[x]) i (W9.setCell ⟨B,0,none⟩ v9)∧StepS [B,B+1,m+1] B (m+5) W (W9.setCell ⟨B,0,none⟩ v9):=by
 obtain ⟨n1,n2⟩:=h.num
 have hvb:∀ k,k<m+5→some k≠v.ownBlock:=fun k hk e=>by have:=(hrow.lt k e.symm).2;omega
 have o:∀ k,k<m+5→W9.heap[k]? = (W.setCell ⟨B+1,0,none⟩ (.int .i64 ((told.length:Nat)+1))).heap[k]?:=fun k hk=>hg.block k (by simp [World.setCell];omega) (hvb k hk)
 have o2:∀ k,k<m+5→k≠B→k≠B+1→(W9.setCell ⟨B,0,none⟩ v9).heap[k]? = W.heap[k]?:=fun k hk h1 h2=>(heap_setO _ h1 _).trans ((o k hk).trans (heap_setO _ h2 _))
 have hz:W.heap.size≤W9.heap.size:=by have:=hg.size;simpa [World.setCell] using this
 have hz2:(W9.setCell ⟨B,0,none⟩ v9).heap.size=W9.heap.size:=by simp [World.setCell]
 have hd9:(W9.setCell ⟨B,0,none⟩ v9).heap[B+1]? = some (.cells #[.int .i64 (((told++[x]).length:Nat):Int)] 3 (0,0)):=by
  rw [heap_setO _ (by omega),o (B+1) (by omega),heap_set1 h.dn]
  simp
 have hlow:Below B W (W9.setCell ⟨B,0,none⟩ v9):=⟨hg.os,hg.tape,hg.output,by omega,fun k hk=>o2 k (by omega) (by omega) (by omega)⟩
 refine ⟨⟨⟨n1,by omega⟩,⟨v9,heap_set1 ((o B (by omega)).trans ((heap_setO _ (by omega) _).trans hls)) _,hr9.keep fun k cs fz hk hc=>(heap_setO _ (by omega) _).trans hc⟩,hd9,(o2 _ (by omega) (by omega) (by omega)).trans h.er,(o2 _ (by omega) (by omega) (by omega)).trans h.pt,(o2 _ (by omega) (by omega) (by omega)).trans h.inp,
  (o2 _ (by omega) (by omega) (by omega)).trans h.pb,(o2 _ (by omega) (by omega) (by omega)).trans h.bs,(o2 _ (by omega) (by omega) (by omega)).trans h.bq,h.low.trans hlow⟩,hlow,?_⟩
 intro k ob hk hA hu
 simp only [List.mem_cons,List.mem_nil_iff,or_false,not_or] at hA
 have hkz:k<W.heap.size:=(Array.getElem?_eq_some_iff.1 hk).1
 rw [heap_setO _ hA.1,hg.block k (by simp [World.setCell];omega) ?_,heap_setO _ hA.2.1]
 ·exact hk
 ·intro e
  rcases hrow.2 with ⟨hv,_⟩ | ⟨g,cap,cur,hv,hg2,hc,_⟩
  ·rw [hv] at e;cases e
  ·rw [hv] at e
   obtain rfl:k=g:=Option.some.inj e
   rw [hk] at hc
   cases hc
   rcases hu with hu | hu
   ·omega
   ·exact hu _ _ rfl
def stepP (pc:Pc) (st:List Str×Str):List Str×Str:=match pc with
 | .txt l0=>(st.1,(plainE l0 st.2).2)
 | .cnv _ _ c=>(st.1++[(readIn c st.2).1],(readIn c st.2).2)
 | .pct=>st
theorem scanK_succ (ps:List Pc) (s:Str) (k:Nat):scanK ps s (k+1)=stepP (ps.getD k .pct) (scanK ps s k):=by
 rw [scanK]
 cases ps.getD k .pct<;>rfl
theorem shw_le:∀ {ps:List Pc} {p:Pc},p∈ps→p.shw.length≤(shwAll ps).length
 | q::ps,p,h=>by
  rw [shwAll,List.length_append]
  rcases List.mem_cons.1 h with rfl | h
  ·omega
  ·have:=shw_le h;omega
theorem three_new (X:World) (o0 o1 o2:Obj) {Y:World} (hY:Y=((X.alloc o0).alloc o1).alloc o2) :
  Y.heap[X.heap.size]? = some o0∧Y.heap[X.heap.size+1]? = some o1∧Y.heap[X.heap.size+2]? = some o2∧Y.heap.size=X.heap.size+3∧Below X.heap.size X Y:=by
 subst hY
 have z0:=heap_alloc_new X o0
 have z1:=heap_alloc_new (X.alloc o0) o1
 have z2:=heap_alloc_new ((X.alloc o0).alloc o1) o2
 simp only [World.size_alloc] at z1 z2
 refine ⟨?_,?_,z2,by simp,((((Below.refl _ _).alloc (Nat.le_refl _) _).alloc (by simp) _).alloc (by simp;omega) _)⟩
 ·rw [Below.heap_alloc _ _ _ (by simp;omega),Below.heap_alloc _ _ _ (by simp)]
  exact z0
 ·rw [Below.heap_alloc _ _ _ (by simp)]
  exact z1
set_option maxRecDepth 1000000 in
set_option maxHeartbeats 4000000 in
theorem scan_fn {ps:List Pc} (hok:partsOk true ps=true) {s:Str} (w:World) (hs:(shwAll ps).length≤100000) (hl:s.length≤1000000) (hsc:ScanOk ps s) (hpl9:ps.length≤100000) :
  Calls Tryz.prog 15 #[.string ⟨s.toArray⟩,.string ⟨(shwAll ps).toArray⟩] w (ScnQ (scanK ps s ps.length).1 w):=by
 have hmf:∀ (fn:Fn) (first cap:Array Value) (w:World),(Instr.makeFunc fn first cap).run Tryz.prog w=.ok (.func fn first cap) w:=fun _ _ _ _=>rfl
 obtain ⟨sp,hse⟩:∃ sp,sp=shwAll ps:=⟨_,rfl⟩
 obtain ⟨w0,hw0⟩:∃ w0,w0=((w.alloc (.cells #[.slice none 0 0] 26)).alloc (.cells #[.int .i64 0] 3)).alloc (.cells #[.int .i64 0] 22):=⟨_,rfl⟩
 obtain ⟨h00,h01,h02,hz0,hb0⟩:=three_new w _ _ _ hw0
 have HCK:=hid (check_fn hok w0 hs)
 rw [← hse] at hs HCK ⊢
 have HW0:=hid hw0
 have HSE:=hid hse
 have HB0:=hid hb0
 have HZ0:=hid hz0
 have H00:=hid h00
 have H01:=hid h01
 have H02:=hid h02
 clear hw0 hse hb0 hz0 h00 h01 h02
 refine (callsIn_wide (n:=5)).1 ?_
 refine callsIn_of_wp_marks Tryz.func15 rfl trivial ?_ rfl
 simp only [Tryz.ntmps15,List.size_toArray,List.length_cons,List.length_nil,Nat.reduceAdd,Nat.reduceSub,Array.replicate_succ,Array.replicate_zero,List.push_toArray,List.append_toArray,List.nil_append,List.cons_append]
 gi_wp2_with (refine ⟨trivial,?_⟩;gi_at_call 53;rw [← HW0.out];refine (callsIn_wide.2 HCK.out).mono ?_;rintro e w1 ⟨rfl,hb1⟩)
 refine ⟨trivial,at_callsIn fun w3 hw3=>?_⟩
 obtain ⟨k0,k1,k2,hz3,hb3⟩:=three_new w1 _ _ _ hw3
 clear hw3
 refine (callsIn_wide.2 (conversions_fn sp true w3)).mono ?_
 rintro e w4 ⟨rfl,hb4,hcs,hcq,hz4⟩
 obtain ⟨m,hm⟩:∃ m,m=w1.heap.size:=⟨_,rfl⟩
 obtain ⟨B,hB⟩:∃ B,B=w.heap.size:=⟨_,rfl⟩
 have hz0:=HZ0.out
 have hs1:=hb1.size
 rw [← hm] at k0 k1 k2 hz3 hb3
 rw [hz3] at hcs hcq hz4 ⊢
 rw [← hm,← hB]
 have o4:∀ k,k<w3.heap.size→w4.heap[k]? = w3.heap[k]?:=fun k hk=>hb4.block k hk
 have o1:∀ k,k<w0.heap.size→w4.heap[k]? = w0.heap[k]?:=fun k hk=>(o4 k (by omega)).trans ((hb3.block k (by omega)).trans (hb1.block k hk))
 have hF0:SSt sp s B m w [] 0 w4:=by
  refine ⟨⟨by omega,by omega⟩,⟨_,(o1 _ (by omega)).trans (by rw [hB];exact H00.out),World.ownsRow_nil _ _ _ _⟩,(o1 _ (by omega)).trans (by rw [hB];exact H01.out),(o1 _ (by omega)).trans (by rw [hB];exact H02.out),(o4 _ (by omega)).trans k0,
   (o4 _ (by omega)).trans k1,(o4 _ (by omega)).trans k2,hcs,hcq,?_⟩
  rw [hB]
  exact (HB0.out.trans (hb1.mono (by omega))).trans ((hb3.mono (by omega)).trans (hb4.mono (by omega)))
 have hz4q:w4.heap.size=m+5:=by omega
 have HF0:=hid hF0
 have HBB:=hid hB
 have hqB:B+3≤m:=by omega
 clear hB hF0 o1 o4 k0 k1 k2 hb1 hb3 hb4 hz0 hs1 HB0 HZ0 H00 H01 H02 HW0 HCK hm hz3 hz4 hcs hcq
 gi_wp2
 refine wpIn_range_n rfl (by omega) (gf:=87) (lb:=#[.pointer (some ⟨m+3,0,none⟩),.pointer (some ⟨m+3+1,0,none⟩)]) rfl trivial (enters_of Tryz.func87 (by kernel_rfl) rfl)
  (convs_n (scan:=true) hok (by rw [← HSE.out];omega) (b:=m+3) (B:=B) _ (by rw [← HSE.out];exact HF0.out.bs) HF0.out.bq) (by omega) (by simp;omega) (Below.refl _ _) (fun _=>rfl)
  (fun k W=>∃ i,SSt sp s B m w (scanK ps s k).1 i W∧At s (scanK ps s k).2 i) (SSt.own (by omega) _ _) ⟨0,HF0.out,At.start s⟩
  (fun k a' W=>∃ Bx,W.heap[Bx]? = some (.cells (pcCells true (offP ps k) (ps.getD k .pct)) 78 (0,0))∧a' = { tmps:=#[.string ⟨s.toArray⟩,.string ⟨sp.toArray⟩,undef,undef,.pointer (some ⟨B,0,none⟩),.pointer (some ⟨B+1,0,none⟩),.pointer (some ⟨B+1+1,0,none⟩),.int .i64 0,.int .i64 0,.pointer (some ⟨m,0,none⟩),.pointer (some ⟨m+1+1,0,none⟩),.pointer (some ⟨Bx,0,none⟩),undef,undef,.tuple #[.int .i64 0,.int .i64 0],.string ⟨sp.toArray⟩,.tuple #[.int .i64 0,.int .i64 0],.int .i64 0,.int .i64 0,.int .i64 0,.bool false,undef,.func (.func 54) #[] #[.pointer (some ⟨B+1+1,0,none⟩),.pointer (some ⟨B,0,none⟩),.pointer (some ⟨B+1,0,none⟩)],.string ⟨s.toArray⟩,.agg #[.string ⟨s.toArray⟩,.int .i64 0],.pointer (some ⟨m+1,0,none⟩),.string ⟨sp.toArray⟩,.func (.func 87) #[] #[.pointer (some ⟨m+3,0,none⟩),.pointer (some ⟨m+3+1,0,none⟩)],.agg (pcCells true (offP ps k) (ps.getD k .pct)),undef,undef,undef,undef,undef,undef,undef,undef,undef,undef,undef,undef,undef,undef,undef,undef,undef,undef,undef,undef,undef,undef,undef,undef,undef,undef,undef,undef,undef,undef],defers:=[] })
  ?hAx ?assign ?body ?done
 case hAx=>
  rintro k a' _ X Y row ⟨Bx,h1,h2⟩ hg hr
  refine ⟨Bx,?_,h2⟩
  rw [hg.block Bx (Array.getElem?_eq_some_iff.1 h1).1 fun e=>?_]
  ·exact h1
  ·obtain ⟨_,o,ho,hc⟩:=hr Bx e.symm
   rw [h1] at ho
   cases ho
   cases hc
 case assign=>
  rintro lr k W K hi hlt hK
  obtain ⟨pc,hpc⟩:∃ pc,pc=ps.getD k .pct:=⟨_,rfl⟩
  obtain ⟨tx,htx⟩:∃ tx,tx=pc.text:=⟨_,rfl⟩
  obtain ⟨fl,hfl⟩:∃ fl,fl=pc.flags:=⟨_,rfl⟩
  obtain ⟨wi,hwi⟩:∃ wi,wi=pc.width:=⟨_,rfl⟩
  obtain ⟨pr,hpr⟩:∃ pr,pr=pc.prec true:=⟨_,rfl⟩
  obtain ⟨lt,hlt9⟩:∃ lt,lt=pc.letter:=⟨_,rfl⟩
  obtain ⟨oi,hi9⟩:∃ oi,oi=offP ps k:=⟨_,rfl⟩
  have hcells:pcCells true (offP ps k) (ps.getD k .pct)=#[.int .i64 (oi:Nat),.string ⟨tx.toArray⟩,.int .i64 0,.string ⟨fl.toArray⟩,.int .i64 wi,.int .i64 pr,.bool false,.bool false,.int .u8 (lt.toNat:Nat),.bool false,.string ⟨#[]⟩]:=by
   rw [← hpc,htx,hfl,hwi,hpr,hlt9,hi9]
   rfl
  have henc:encP true ps k=#[.agg (pcCells true (offP ps k) (ps.getD k .pct))]:=rfl
  rw [henc]
  rw [hcells] at hK ⊢
  clear hpc htx hfl hwi hpr hlt9 hi9 henc
  obtain ⟨i,hi,ha⟩:=hi
  have hI:=hid hi
  have HA:=hid ha
  obtain ⟨n1,n2⟩:=hi.num
  clear hi ha
  gi_wp2
  refine hK _ _ ((KeepsOthers.alloc _ _).from _) (KeepT.of_below (belowN _ _) (by omega) (by simp;omega)) ⟨i,hI.out.below (belowN _ _),HA.out⟩ ⟨W.heap.size,heap_alloc_new _ _,rfl⟩
 case body=>
  rintro lr k a' W ⟨i,hi,hat⟩ ⟨Bx,hX,rfl⟩ hlt
  obtain ⟨n1,n2⟩:=hi.num
  have hgd:ps.getD k .pct=ps[k]:=by rw [List.getD_eq_getElem?_getD,List.getElem?_eq_getElem hlt,Option.getD_some]
  have hpok:(ps[k]).ok true=true:=(partsOk_at hok hlt).1
  have hsk:=hsc k hlt
  have hshw:=shw_le (List.getElem_mem hlt)
  rw [← HSE.out] at hshw
  have hshw:(ps[k]).shw.length≤1000000:=by omega
  rw [← hgd] at hpok hshw
  have hA:∀ g∈[B,B+1,m+1],∃ cs t fz,W.heap[g]? = some (Obj.cells cs t fz)∧t ∉ convTs:=by
   intro g hg
   obtain ⟨v,hv,_⟩:=hi.ls
   simp only [List.mem_cons,List.mem_nil_iff,or_false] at hg
   rcases hg with rfl | rfl | rfl
   ·exact ⟨_,_,_,hv,by decide⟩
   ·exact ⟨_,_,_,hi.dn,by decide⟩
   ·exact ⟨_,_,_,hi.inp,by decide⟩
  have hx:∀ g∈[m+3,m+3+1],g ∉ [B,B+1,m+1]∧g<m+5∧g<W.heap.size:=by
   intro g hg
   simp only [List.mem_cons,List.mem_nil_iff,or_false] at hg
   rcases hg with rfl | rfl
   ·exact ⟨by simp;omega,by omega,by omega⟩
   ·exact ⟨by simp;omega,by omega,by omega⟩
  have FIN:=hid (show ∀ (a9:Act) (j:Nat) W',StepS [B,B+1,m+1] B (m+5) W W'→SSt sp s B m w (scanK ps s (k+1)).1 j W'→At s (scanK ps s (k+1)).2 j→endPost w4.heap.size B convTs [m+3,m+3+1] (fun k W=>∃ i,SSt sp s B m w (scanK ps s k).1 i W∧At s (scanK ps s k).2 i) (k+1) W Exit.normal a9 W' from
   fun _ j W' h1 h2 h3=>⟨h1.keeps hA,h1.keepT hA hx,j,h2,h3⟩)
  have hBA:Bx ∉ [B,B+1,m+1]:=fun e=>by
   obtain ⟨cs,t,fz,h1,h2⟩:=hA Bx e
   rw [hX] at h1
   cases h1
   exact h2 (by simp)
  clear hA hx
  obtain ⟨pc,hpc⟩:∃ pc,pc=ps.getD k .pct:=⟨_,rfl⟩
  obtain ⟨oi,hi9⟩:∃ oi,oi=offP ps k:=⟨_,rfl⟩
  have hsuc:=scanK_succ ps s k
  rw [← hpc] at hsuc
  rw [← hpc] at hpok hsk hX hshw ⊢
  rw [← hi9] at hX ⊢
  obtain ⟨told,htold⟩:∃ told,told=(scanK ps s k).1:=⟨_,rfl⟩
  obtain ⟨rest,hrest⟩:∃ rest,rest=(scanK ps s k).2:=⟨_,rfl⟩
  have htk:told.length≤ps.length:=by rw [htold];exact Nat.le_trans (scanK_len ps s k) (by omega)
  rw [show scanK ps s k=(told,rest) from Prod.ext htold.symm hrest.symm] at hsuc
  rw [← htold] at hi
  rw [← hrest] at hat hsk
  have p0:W.cell? ⟨m+1+1,0,none⟩=some (.pointer (some ⟨m+1,0,none⟩)):=(Lib.cell_of_heap hi.pb 0).trans rfl
  have HI:=hid hi
  have HAT:=hid hat
  clear hgd hpc hi9 hi htold hrest hat
  cases pc with
  | txt l0=>
   have hX:W.heap[Bx]? = some (.cells #[.int .i64 (oi:Nat),.string ⟨l0.toArray⟩,.int .i64 0,.string ⟨#[]⟩,.int .i64 0,.int .i64 0,.bool false,.bool false,.int .u8 0,.bool false,.string ⟨#[]⟩] 78 (0,0)):=hX
   have x0:W.cell? ⟨Bx,0,none⟩=some (.int .i64 (oi:Nat)):=(Lib.cell_of_heap hX 0).trans rfl
   have x1:W.cell? ⟨Bx,1,none⟩=some (.string ⟨l0.toArray⟩):=(Lib.cell_of_heap hX 1).trans rfl
   have x2:W.cell? ⟨Bx,2,none⟩=some (.int .i64 0):=(Lib.cell_of_heap hX 2).trans rfl
   have x3:W.cell? ⟨Bx,3,none⟩=some (.string ⟨#[]⟩):=(Lib.cell_of_heap hX 3).trans rfl
   have x4:W.cell? ⟨Bx,4,none⟩=some (.int .i64 0):=(Lib.cell_of_heap hX 4).trans rfl
   have x5:W.cell? ⟨Bx,5,none⟩=some (.int .i64 0):=(Lib.cell_of_heap hX 5).trans rfl
   have x6:W.cell? ⟨Bx,6,none⟩=some (.bool false):=(Lib.cell_of_heap hX 6).trans rfl
   have x7:W.cell? ⟨Bx,7,none⟩=some (.bool false):=(Lib.cell_of_heap hX 7).trans rfl
   have x8:W.cell? ⟨Bx,8,none⟩=some (.int .u8 0):=(Lib.cell_of_heap hX 8).trans rfl
   have x9:W.cell? ⟨Bx,9,none⟩=some (.bool false):=(Lib.cell_of_heap hX 9).trans rfl
   have x10:W.cell? ⟨Bx,10,none⟩=some (.string ⟨#[]⟩):=(Lib.cell_of_heap hX 10).trans rfl
   have hl0:l0.length≤1000000:=hshw
   have hpl:=plain_in HI.out.inp HAT.out hl l0 hl0
   have hsk:(plainE l0 rest).1=true:=hsk
   rw [hsk] at hpl
   have HPL:=hid hpl
   have HSUC:=hid (show scanK ps s (k+1)=(told,(plainE l0 rest).2) from hsuc)
   clear hpl hsk hsuc hX hpok hshw hl0
   gi_wp2_with (((with_reducible refine And.intro ?_ ?_);exact trivial;gi_at_call 55;refine (calls_round HPL.out).mono ?_;rintro e W1 ⟨rfl,⟨j,hin1,hat1⟩,ho1⟩;have hi1:=HI.out.read ho1 hin1;have HI1:=hid hi1;have HAT1:=hid hat1;have HO1:=hid ho1;clear hi1 hat1 ho1 hin1))
   exact FIN.out ⟨#[],[]⟩ _ _ (StepS.of_only HO1.out (by simp) (by simp;omega) (by omega)) (by rw [HSUC.out];exact HI1.out) (by rw [HSUC.out];exact HAT1.out)
  | pct=>exact absurd hpok (by decide)
  | cnv fl wd c=>
   have hcp:=cnvOk_p (scan:=true) (fl:=fl) (wd:=wd) (c:=c) hpok
   obtain ⟨rfl,rfl⟩:=hcp.bare rfl
   obtain ⟨hl1,hl2,hl3,hl4,hl5,hl6,hl7⟩:=isLet_dig hcp.letter
   have n0:=byte_ne 0 hl7 rfl
   have n37:=byte_ne 37 hl4 rfl
   have hX:W.heap[Bx]? = some (.cells #[.int .i64 (oi:Nat),.string ⟨#[]⟩,.int .i64 0,.string ⟨#[]⟩,.int .i64 (-1),.int .i64 0,.bool false,.bool false,.int .u8 (c.toNat:Nat),.bool false,.string ⟨#[]⟩] 78 (0,0)):=hX
   have x0:W.cell? ⟨Bx,0,none⟩=some (.int .i64 (oi:Nat)):=(Lib.cell_of_heap hX 0).trans rfl
   have x1:W.cell? ⟨Bx,1,none⟩=some (.string ⟨#[]⟩):=(Lib.cell_of_heap hX 1).trans rfl
   have x2:W.cell? ⟨Bx,2,none⟩=some (.int .i64 0):=(Lib.cell_of_heap hX 2).trans rfl
   have x3:W.cell? ⟨Bx,3,none⟩=some (.string ⟨#[]⟩):=(Lib.cell_of_heap hX 3).trans rfl
   have x4:W.cell? ⟨Bx,4,none⟩=some (.int .i64 (-1)):=(Lib.cell_of_heap hX 4).trans rfl
   have x5:W.cell? ⟨Bx,5,none⟩=some (.int .i64 0):=(Lib.cell_of_heap hX 5).trans rfl
   have x6:W.cell? ⟨Bx,6,none⟩=some (.bool false):=(Lib.cell_of_heap hX 6).trans rfl
   have x7:W.cell? ⟨Bx,7,none⟩=some (.bool false):=(Lib.cell_of_heap hX 7).trans rfl
   have x8:W.cell? ⟨Bx,8,none⟩=some (.int .u8 (c.toNat:Nat)):=(Lib.cell_of_heap hX 8).trans rfl
   have x9:W.cell? ⟨Bx,9,none⟩=some (.bool false):=(Lib.cell_of_heap hX 9).trans rfl
   have x10:W.cell? ⟨Bx,10,none⟩=some (.string ⟨#[]⟩):=(Lib.cell_of_heap hX 10).trans rfl
   have hrd:=read_in (A:=(oi:Nat)) HI.out.inp HAT.out hl hcp.letter hsk
   obtain ⟨x,hx9⟩:∃ x,x=(readIn c rest).1:=⟨_,rfl⟩
   rw [← hx9] at hrd
   have HSUC:=hid (show scanK ps s (k+1)=(told++[x],(readIn c rest).2) by rw [hx9];exact hsuc)
   have HRD:=hid hrd
   have HX:=hid hX
   clear hshw hrd hsk hsuc hX hpok hcp hl1 hl2 hl3 hl4 hl5 hl6 hl7 hx9
   gi_wp2_with fail
   refine ⟨trivial,(calls_round HRD.out).mono ?_⟩
   rintro e W1 ⟨rfl,⟨j,hin1,hat1⟩,ho1⟩
   have hi1:=HI.out.read ho1 hin1
   have hBx1:Bx ∉ [m+1]:=fun e=>hBA (by simp at e;simp [e])
   have hX1:=ho1.cells HX.out hBx1
   obtain ⟨v,hv,hrow⟩:=hi1.ls
   have hB1:Bx≠B+1:=fun e=>hBA (by simp [e])
   have hBB1:B≠B+1:=by omega
   have y8:W1.cell? ⟨Bx,8,none⟩=some (.int .u8 (c.toNat:Nat)):=(Lib.cell_of_heap hX1 8).trans rfl
   have yd:W1.cell? ⟨B+1,0,none⟩=some (.int .i64 (told.length:Nat)):=(Lib.cell_of_heap hi1.dn 0).trans rfl
   have fd:=Lib.frozen_of_heap hi1.dn 0
   have y9:(W1.setCell ⟨B+1,0,none⟩ (.int .i64 ((told.length:Nat)+1))).cell? ⟨Bx,9,none⟩=some (.bool false):=(Lib.cell_of_heap ((heap_setO _ hB1 _).trans hX1) 9).trans rfl
   have yl:(W1.setCell ⟨B+1,0,none⟩ (.int .i64 ((told.length:Nat)+1))).cell? ⟨B,0,none⟩=some v:=(Lib.cell_of_heap ((heap_setO _ hBB1 _).trans hv) 0).trans rfl
   have hrow2:RowS (m+5) (W1.setCell ⟨B+1,0,none⟩ (.int .i64 ((told.length:Nat)+1))) v told:=hrow.keep fun k cs fz hk hc=>(heap_setO _ (by omega) _).trans hc
   have hn5:m+5≤(W1.setCell ⟨B+1,0,none⟩ (.int .i64 ((told.length:Nat)+1))).heap.size:=by have:=hi1.num;simp [World.setCell];omega
   have hnl:told.length≤10000000:=by omega
   obtain ⟨nt,hnt⟩:∃ nt,nt=told.length:=⟨_,rfl⟩
   rw [← hnt] at yd y9 yl hrow2 hn5
   have HNT:=hid hnt
   have HV:=hid hv
   have HROW:=hid hrow
   have HROW2:=hid hrow2
   have HI1:=hid hi1
   have HAT1:=hid hat1
   have HO1:=hid ho1
   have HN5:=hid hn5
   have hnt9:nt≤100000:=by omega
   clear hnt hv hrow hrow2 hi1 hat1 ho1 hin1 hX1 hn5 x0 x1 x2 x3 x4 x5 x6 x7 x8 x9 x10 p0 HRD
   gi_wp2_with (gi_at_builtin;refine app_oneS (N:=W1.heap.size) (by simp [World.setCell]) rfl (.tmp 53) (.tmp 55) rfl (m+5) _ _ x rfl HROW2.out rfl HN5.out hnl ?_;intro v9 w9 hr9 hg9 hv9;obtain ⟨a9,c9,h9⟩:=hr9.shape;obtain ⟨n9,hn9⟩:∃ n9,n9=(told++[x]).length:=⟨_,rfl⟩;rw [← hn9] at h9;subst h9;clear hn9;have e9:=(hg9.block B (by have:=HN5.out;omega) (fun e=>by have:=(HROW2.out.lt _ e.symm).2;omega)).trans ((heap_setO _ hBB1 _).trans HV.out);have k9:=Lib.cell_of_heap e9 0;have f9:=Lib.frozen_of_heap e9 0;have HR9:=hid hr9;have HG9:=hid hg9;clear hr9 hg9 hv9 e9)
   obtain ⟨hm1,hm2⟩:=SSt.more HI1.out HV.out HROW.out HR9.out (by rw [← HNT.out];exact HG9.out)
   exact FIN.out ⟨#[],[]⟩ j _ ((StepS.of_only HO1.out (by simp) (by simp;omega) (by omega)).trans hm2) (by rw [HSUC.out];exact hm1) (by rw [HSUC.out];exact HAT1.out)
 case done=>
  rintro D W hD ⟨i,hi,hat⟩ hK
  obtain ⟨n1,n2⟩:=hi.num
  obtain ⟨v,hv,hrow⟩:=hi.ls
  obtain ⟨told,htold⟩:∃ told,told=(scanK ps s ps.length).1:=⟨_,rfl⟩
  rw [← htold] at hi hrow ⊢
  obtain ⟨a9,c9,h9⟩:=hrow.shape
  obtain ⟨n9,hn9⟩:∃ n9,n9=told.length:=⟨_,rfl⟩
  rw [← hn9] at h9
  subst h9
  clear hn9
  have hE:EndS B D w (.slice a9 n9 c9) told W:=⟨by omega,hv,hrow.mono (by omega),hi.dn,hi.er,hK,hi.low⟩
  have HE:=hid hE
  have HTOLD:=hid htold
  clear hi hv hrow hE hK hat htold
  have hE:=HE.out.drew
  clear HE
  gi_wp2
  refine wpIn_wide.2 (U_begin (late:=fun _=>true) (S:=fun _=>True) (by kernel_rfl) ?_)
  generalize W.drew=X at hE ⊢
  obtain ⟨c0,c1,c2,f0,f1,f2⟩:=hE.facts
  refine U_two (j1:=0) (j2:=1) (by kernel_rfl) rfl rfl (fun K9 hK9=>?_) (fun K9 hK9=>?_)
  ·go_simp
   refine hK9.out _ _ (.inl rfl) ?_
   clear hK9 K9
   refine U_two (j1:=1) (j2:=2) (by kernel_rfl) rfl rfl (fun K9 hK9=>?_) (fun K9 hK9=>?_)
   ·go_simp
    refine hK9.out _ _ (.inl rfl) ?_
    clear hK9 K9
    refine U_step (j:=2) (by kernel_rfl) rfl (fun K9 hK9=>?_)
    go_simp
    refine hK9.out _ _ (.inl rfl) ?_
    clear hK9 K9
    replace hE:=hE.s0
    generalize X.setCell ⟨B,0,none⟩ (.slice a9 n9 c9)=X1 at hE ⊢
    clear c0 c1 c2 f0 f1 f2
    obtain ⟨c0,c1,c2,f0,f1,f2⟩:=hE.facts
    refine U_step (j:=3) (by kernel_rfl) rfl (fun K9 hK9=>?_)
    go_simp
    refine hK9.out _ _ (.inl rfl) ?_
    clear hK9 K9
    replace hE:=hE.s1
    generalize X1.setCell ⟨B+1,0,none⟩ (.int .i64 (told.length:Nat))=X2 at hE ⊢
    clear c0 c1 c2 f0 f1 f2
    obtain ⟨c0,c1,c2,f0,f1,f2⟩:=hE.facts
    refine U_step (j:=4) (by kernel_rfl) rfl (fun K9 hK9=>?_)
    go_simp
    refine hK9.out _ _ (.inl rfl) ?_
    clear hK9 K9
    replace hE:=hE.s2
    generalize X2.setCell ⟨B+1+1,0,none⟩ (.int .i64 0)=X3 at hE ⊢
    clear c0 c1 c2 f0 f1 f2
    obtain ⟨c0,c1,c2,f0,f1,f2⟩:=hE.facts
    refine U_done (by kernel_rfl) ?_ _
    gi_wp2
    first | exact scan_end HBB.out hE rfl rfl rfl|(rw [← HTOLD.out];exact scan_end HBB.out hE rfl rfl rfl)
   ·go_simp
    refine hK9.out _ _ (.inl rfl) ?_
    clear hK9 K9
    replace hE:=hE.s0
    generalize X.setCell ⟨B,0,none⟩ (.slice a9 n9 c9)=X1 at hE ⊢
    clear c0 c1 c2 f0 f1 f2
    obtain ⟨c0,c1,c2,f0,f1,f2⟩:=hE.facts
    refine U_step (j:=1) (by kernel_rfl) rfl (fun K9 hK9=>?_)
    go_simp
    refine hK9.out _ _ (.inl rfl) ?_
    clear hK9 K9
    refine U_step (j:=3) (by kernel_rfl) rfl (fun K9 hK9=>?_)
    go_simp
    refine hK9.out _ _ (.inl rfl) ?_
    clear hK9 K9
    replace hE:=hE.s1
    generalize X1.setCell ⟨B+1,0,none⟩ (.int .i64 (told.length:Nat))=X2 at hE ⊢
    clear c0 c1 c2 f0 f1 f2
    obtain ⟨c0,c1,c2,f0,f1,f2⟩:=hE.facts
    refine U_step (j:=4) (by kernel_rfl) rfl (fun K9 hK9=>?_)
    go_simp
    refine hK9.out _ _ (.inl rfl) ?_
    clear hK9 K9
    replace hE:=hE.s2
    generalize X2.setCell ⟨B+1+1,0,none⟩ (.int .i64 0)=X3 at hE ⊢
    clear c0 c1 c2 f0 f1 f2
    obtain ⟨c0,c1,c2,f0,f1,f2⟩:=hE.facts
    refine U_done (by kernel_rfl) ?_ _
    gi_wp2
    first | exact scan_end HBB.out hE rfl rfl rfl|(rw [← HTOLD.out];exact scan_end HBB.out hE rfl rfl rfl)
  ·go_simp
   refine hK9.out _ _ (.inl rfl) ?_
   clear hK9 K9
   refine U_step (j:=0) (by kernel_rfl) rfl (fun K9 hK9=>?_)
   go_simp
   refine hK9.out _ _ (.inl rfl) ?_
   clear hK9 K9
   refine U_step (j:=2) (by kernel_rfl) rfl (fun K9 hK9=>?_)
   go_simp
   refine hK9.out _ _ (.inl rfl) ?_
   clear hK9 K9
   replace hE:=hE.s0
   generalize X.setCell ⟨B,0,none⟩ (.slice a9 n9 c9)=X1 at hE ⊢
   clear c0 c1 c2 f0 f1 f2
   obtain ⟨c0,c1,c2,f0,f1,f2⟩:=hE.facts
   refine U_step (j:=3) (by kernel_rfl) rfl (fun K9 hK9=>?_)
   go_simp
   refine hK9.out _ _ (.inl rfl) ?_
   clear hK9 K9
   replace hE:=hE.s1
   generalize X1.setCell ⟨B+1,0,none⟩ (.int .i64 (told.length:Nat))=X2 at hE ⊢
   clear c0 c1 c2 f0 f1 f2
   obtain ⟨c0,c1,c2,f0,f1,f2⟩:=hE.facts
   refine U_step (j:=4) (by kernel_rfl) rfl (fun K9 hK9=>?_)
   go_simp
   refine hK9.out _ _ (.inl rfl) ?_
   clear hK9 K9
   replace hE:=hE.s2
   generalize X2.setCell ⟨B+1+1,0,none⟩ (.int .i64 0)=X3 at hE ⊢
   clear c0 c1 c2 f0 f1 f2
   obtain ⟨c0,c1,c2,f0,f1,f2⟩:=hE.facts
   refine U_done (by kernel_rfl) ?_ _
   gi_wp2
   first | exact scan_end HBB.out hE rfl rfl rfl|(rw [← HTOLD.out];exact scan_end HBB.out hE rfl rfl rfl)
end Go.Proofs.YtbilphfbfnohmaaGreatDoor.Pz
namespace Go.Proofs.YtbilphfbfnohmaaGreatDoor.Pz
open Go.RowKit
abbrev awA:List Pc:=[.cnv [48] [53] 100,.txt [124],.cnv [45] [52] 115,.txt [124],.cnv [35] [] 120]
abbrev awL:List Str:=[[45,52,50],[97,98],[50,53,53]]
abbrev awB:List Pc:=[.cnv [] [] 100,.txt [44,32],.cnv [] [] 120,.txt [32],.cnv [] [] 115]
abbrev awS:Str:=[49,48,44,32,102,102,32,114,101,115,116]
theorem awA_out:outF awA awL 5=[45,48,48,52,50,124,97,98,32,32,124,48,120,102,102]:=by kernel_rfl
theorem awA_err:∀ k,k<5→(pcOut (awA.getD k .pct) (argC awA awL k)).2=0:=by decide +kernel
theorem awB_told:(scanK awB awS 5).1=[[49,48],[50,53,53],[114,101,115,116]]:=by kernel_rfl
theorem strs_new (w:World) (l:List Str):StrsAt (w.alloc (.cells (l.map fun x=>Value.string ⟨x.toArray⟩).toArray 9)) (.slice (some ⟨w.heap.size,0,none⟩) l.length l.length) l:=by
 refine ⟨_,_,rfl,Nat.le_refl _,fun i hi=>⟨_,rfl,by simp,?_⟩⟩
 rw [add_none,Nat.zero_add,Lib.cell_of_heap (heap_alloc_new _ _)]
 simp [hi]
def numOkB (b:Nat) (l:Str):Bool:=!(dgE b l).isEmpty && (readRes (dgE b l) b).2 == 0 && decide ((readRes (dgE b l) b).1.length≤1000000) && (sgE l != [45] || (negRes (readRes (dgE b l) b).1).2 == 0)
theorem numOkB_ok {b:Nat} {l:Str} (h:numOkB b l=true):NumOk b l:=by
 unfold numOkB at h
 simp only [Bool.and_eq_true,Bool.or_eq_true,beq_iff_eq,bne_iff_ne,decide_eq_true_eq,Bool.not_eq_true'] at h
 obtain ⟨⟨⟨h1,h2⟩,h3⟩,h4⟩:=h
 refine ⟨fun e=>?_,h2,h3,fun e=>?_⟩
 ·rw [e] at h1;cases h1
 rcases h4 with h4 | h4
 ·exact absurd e h4
 ·exact h4
def partOkB (pc:Pc) (l:Str):Bool:=match pc with
 | .txt l0=>(plainE l0 l).1
 | .cnv _ _ c=>if c=115 then !(runE (-1) darkC (l.dropWhile white)).isEmpty else numOkB (baseC c) l
 | .pct=>true
def scanOkB (ps:List Pc) (s:Str):Bool:=(List.range ps.length).all fun k=>partOkB (ps.getD k .pct) (scanK ps s k).2
theorem scanOkB_ok {ps:List Pc} {s:Str} (h:scanOkB ps s=true):ScanOk ps s:=by
 intro k hk
 have h1:=List.all_eq_true.1 h k (List.mem_range.2 hk)
 generalize ps.getD k .pct=pc at h1 ⊢
 generalize (scanK ps s k).2=l at h1 ⊢
 cases pc with
 | txt l0=>exact h1
 | pct=>trivial
 | cnv fl wd c=>
  show ReadOk c l
  unfold partOkB at h1
  unfold ReadOk
  dsimp only at h1
  split
  ·rename_i hc
   rw [if_pos hc] at h1
   intro e
   rw [e] at h1
   cases h1
  ·rename_i hc
   rw [if_neg hc] at h1
   exact numOkB_ok h1
set_option maxRecDepth 1000000 in
theorem awake_fn (w:World):Calls Tryz.prog 12 #[] w fun e w'=>e=.returned (.bool true)∧Below w.heap.size w w':=by
 have hp:Calls Tryz.prog 14 #[.string ⟨#[37,48,53,100,124,37,45,52,115,124,37,35,120]⟩,.slice (some ⟨w.heap.size,0,none⟩) 3 3] (w.alloc (.cells #[.string ⟨#[45,52,50]⟩,.string ⟨#[97,98]⟩,.string ⟨#[50,53,53]⟩] 9)) (FmtQ (outF awA awL 5) (w.alloc (.cells #[.string ⟨#[45,52,50]⟩,.string ⟨#[97,98]⟩,.string ⟨#[50,53,53]⟩] 9))):=
  format_fn (ps:=awA) (l:=awL) (by decide) _ (by decide) (by decide) (by decide) (strs_new w awL) (by decide) awA_err (by rw [show awA.length=5 from rfl,awA_out];decide) (by rintro ⟨fl,wd,h⟩;simp at h)
 rw [awA_out] at hp
 unfold FmtQ at hp
 have HP:=hid hp
 have HU:=hid (show ∀ u,Calls Tryz.prog 15 #[.string ⟨#[49,48,44,32,102,102,32,114,101,115,116]⟩,.string ⟨#[37,100,44,32,37,120,32,37,115]⟩] u fun e w'=>∃ v,e=.returned (.tuple #[v,.int .i64 3,.int .i64 0])∧StrsAt w' v [[49,48],[50,53,53],[114,101,115,116]]∧Below u.heap.size u w' from fun u=>by have h:=scan_fn (ps:=awB) (by decide) (s:=awS) u (by decide) (by decide) (scanOkB_ok (by decide +kernel)) (by decide);rw [show awB.length=5 from rfl,awB_told] at h;unfold ScnQ at h;exact h)
 clear hp
 go_enter Tryz.func12,Tryz.ntmps12
 go_wp2_with fail
 (with_reducible refine HP.out.mono ?_);rintro e w1 ⟨rfl,hb1⟩
 have HB1:=hid (show Below w.heap.size w w1 from (belowS _ _).trans (hb1.mono (by simp)))
 clear hb1 HP
 go_wp2_with fail
 (with_reducible refine (HU.out _).mono ?_);rintro e w2 ⟨v,rfl,hr2,hb2⟩
 have hs1:=HB1.out.size
 have HB2:=hid (HB1.out.trans (hb2.mono hs1))
 have hs2:=HB2.out.size
 have HR2:=hid hr2
 obtain ⟨a2,c2,he,-⟩:=strsAt_off hr2
 subst he
 clear hb2 hr2 HU
 have HSM:=hid (sameG_fn (w:=w2.alloc (.cells #[.string ⟨#[49,48]⟩,.string ⟨#[50,53,53]⟩,.string ⟨#[114,101,115,116]⟩] 9)) (HR2.out.below (belowS _ _)) (strs_new w2 [[49,48],[50,53,53],[114,101,115,116]]) (by decide) (by decide))
 have HSM2:=hid (show Calls Tryz.prog 16 #[.slice a2 3 c2,.slice (some ⟨w2.heap.size,0,none⟩) 3 3] (w2.alloc (.cells #[.string ⟨#[49,48]⟩,.string ⟨#[50,53,53]⟩,.string ⟨#[114,101,115,116]⟩] 9)) fun e w'=>e=.returned (.bool true)∧Below (w2.heap.size+1) (w2.alloc (.cells #[.string ⟨#[49,48]⟩,.string ⟨#[50,53,53]⟩,.string ⟨#[114,101,115,116]⟩] 9)) w' from by
  have h:=HSM.out
  simp only [World.size_alloc,decide_true] at h
  exact h)
 clear HSM
 go_wp2_with (first|(go_at_call 16;refine HSM2.out.mono ?_;rintro e w3 ⟨rfl,hb3⟩;have HB3:=hid (HB2.out.trans ((belowS w2 (.cells #[.string ⟨#[49,48]⟩,.string ⟨#[50,53,53]⟩,.string ⟨#[114,101,115,116]⟩] 9)).mono hs2 |>.trans (hb3.mono (by omega))));clear hb3))
 go_ret
 exact ⟨rfl,HB3.out⟩
end Go.Proofs.YtbilphfbfnohmaaGreatDoor.Pz
