/-
  Part K17 of the proofs of this seat, merged by a program out of 5 texts; remarks are struck.
-/
import Derived.Shelf.Strings.Replace
import Derived.Shelf.LaysM
import Derived.Test.YtbilphfbfnohmaaGreatDoorProg
import Derived.Test.YtbilphfbfnohmaaGreatDoorRows
import Derived.Deep.DeepHandedRow
import Derived.ProofKit
import Derived.OpenShut
import Derived.ChangeMaps5
import Derived.Carry
import Derived.SliceStrings
import Derived.Test.YtbilphfbfnohmaaGreatDoorK9
namespace Go.Proofs.YtbilphfbfnohmaaGreatDoor.Pz
open Go.Shelf
def Tryz.lays155_ren:Go.Shelf.Ren:=⟨fun | 155=>28 | 154=>67 | 138=>118 | 165=>66 | 143=>76 | 166=>48 | 197=>119 | 169=>52 | 195=>161 | 218=>162 | 240=>91 | 241=>117 | 219=>129 | 260=>163 | 276=>144 | 277=>160 | 217=>138 | 225=>174 | 224=>175 | 267=>176 | 266=>186 | 314=>201 | n=>n,fun | 9=>9 | 3=>3 | 4=>4 | 72=>73 | 0=>0 | 76=>81 | 105=>149 | 21=>21 | 5=>5 | 70=>70 | 20=>20 | 37=>71 | 75=>80 | 127=>132 | 164=>171 | 46=>136 | 119=>192 | 139=>211 | 138=>210 | 146=>174 | 51=>173 | 80=>92 | n=>n,fun | 1=>1 | 3=>2 | 4=>3 | n=>n⟩
theorem Tryz.lays155:Go.Proofs.Lays.n155 Tryz.prog Tryz.lays155_ren:={
 mixed:=by kernel_rfl
 f138:=Tryz.func118.trans (congrArg some (by kernel_rfl))
 f143:=Tryz.func76.trans (congrArg some (by kernel_rfl))
 f154:=Tryz.func67.trans (congrArg some (by kernel_rfl))
 f155:=Tryz.func28.trans (congrArg some (by kernel_rfl))
 f165:=Tryz.func66.trans (congrArg some (by kernel_rfl))
 f166:=Tryz.func48.trans (congrArg some (by kernel_rfl))
 f169:=Tryz.func52.trans (congrArg some (by kernel_rfl))
 f195:=Tryz.func161.trans (congrArg some (by kernel_rfl))
 f197:=Tryz.func119.trans (congrArg some (by kernel_rfl))
 f217:=Tryz.func138.trans (congrArg some (by kernel_rfl))
 f218:=Tryz.func162.trans (congrArg some (by kernel_rfl))
 f219:=Tryz.func129.trans (congrArg some (by kernel_rfl))
 f224:=Tryz.func175.trans (congrArg some (by kernel_rfl))
 f225:=Tryz.func174.trans (congrArg some (by kernel_rfl))
 f240:=Tryz.func91.trans (congrArg some (by kernel_rfl))
 f241:=Tryz.func117.trans (congrArg some (by kernel_rfl))
 f260:=Tryz.func163.trans (congrArg some (by kernel_rfl))
 f266:=Tryz.func186.trans (congrArg some (by kernel_rfl))
 f267:=Tryz.func176.trans (congrArg some (by kernel_rfl))
 f276:=Tryz.func144.trans (congrArg some (by kernel_rfl))
 f277:=Tryz.func160.trans (congrArg some (by kernel_rfl))
 f314:=Tryz.func201.trans (congrArg some (by kernel_rfl))
 t0:=Tryz.underlying0
 a0:=Tryz.isAgg0
 z0:=Tryz.sizeOf0
 v0:=Tryz.zeroValue0
 t3:=Tryz.underlying3
 a3:=Tryz.isAgg3
 z3:=Tryz.sizeOf3
 v3:=Tryz.zeroValue3
 t4:=Tryz.underlying4
 a4:=Tryz.isAgg4
 z4:=Tryz.sizeOf4
 v4:=Tryz.zeroValue4
 t5:=Tryz.underlying5
 a5:=Tryz.isAgg5
 z5:=Tryz.sizeOf5
 v5:=Tryz.zeroValue5
 t9:=Tryz.underlying9
 a9:=Tryz.isAgg9
 z9:=Tryz.sizeOf9
 v9:=Tryz.zeroValue9
 t20:=Tryz.underlying20
 a20:=Tryz.isAgg20
 z20:=Tryz.sizeOf20
 v20:=Tryz.zeroValue20
 t21:=Tryz.underlying21
 a21:=Tryz.isAgg21
 z21:=Tryz.sizeOf21
 v21:=Tryz.zeroValue21
 t37:=Tryz.underlying71
 a37:=Tryz.isAgg71
 z37:=Tryz.sizeOf71
 v37:=Tryz.zeroValue71
 t46:=Tryz.underlying136
 a46:=Tryz.isAgg136
 z46:=Tryz.sizeOf136
 v46:=Tryz.zeroValue136
 t51:=Tryz.underlying173
 a51:=Tryz.isAgg173
 z51:=Tryz.sizeOf173
 v51:=Tryz.zeroValue173
 t70:=Tryz.underlying70
 a70:=Tryz.isAgg70
 z70:=Tryz.sizeOf70
 v70:=Tryz.zeroValue70
 t72:=Tryz.underlying73
 a72:=Tryz.isAgg73
 z72:=Tryz.sizeOf73
 v72:=Tryz.zeroValue73
 t75:=Tryz.underlying80
 a75:=Tryz.isAgg80
 z75:=Tryz.sizeOf80
 v75:=Tryz.zeroValue80
 t76:=Tryz.underlying81
 a76:=Tryz.isAgg81
 z76:=Tryz.sizeOf81
 v76:=Tryz.zeroValue81
 t105:=Tryz.underlying149
 a105:=Tryz.isAgg149
 z105:=Tryz.sizeOf149
 v105:=Tryz.zeroValue149
 t119:=Tryz.underlying192
 a119:=Tryz.isAgg192
 z119:=Tryz.sizeOf192
 t127:=Tryz.underlying132
 a127:=Tryz.isAgg132
 z127:=Tryz.sizeOf132
 v127:=Tryz.zeroValue132
 t138:=Tryz.underlying210
 a138:=Tryz.isAgg210
 z138:=Tryz.sizeOf210
 v138:=Tryz.zeroValue210
 t139:=Tryz.underlying211
 a139:=Tryz.isAgg211
 z139:=Tryz.sizeOf211
 v139:=Tryz.zeroValue211
 t146:=Tryz.underlying174
 a146:=Tryz.isAgg174
 z146:=Tryz.sizeOf174
 v146:=Tryz.zeroValue174
 t164:=Tryz.underlying171
 a164:=Tryz.isAgg171
 z164:=Tryz.sizeOf171
 v164:=Tryz.zeroValue171
 g1:=by kernel_rfl
 g3:=by kernel_rfl
 g4:=by kernel_rfl }
theorem Tryz.Builder_Extra_155:Builder.Extra Tryz.prog Tryz.lays155_ren:={
 sizeBuilder:=by kernel_rfl
 liesBuilder:=by kernel_rfl
 t5:=Tryz.underlying5
 a5:=Tryz.isAgg5
 z5:=Tryz.sizeOf5
 v5:=Tryz.zeroValue5
 infoByte:=by kernel_rfl
 cellsByte:=by kernel_rfl
 sizeByte:=by kernel_rfl
 neB5:=by decide }
open Go.RowKit Go.Lib in
theorem Tryz.strings_ReplaceAll (s old new:ByteArray) (m:Int) (w:World) (hs:s.size<4294967281) (hm:w.cell? ⟨1,0,none⟩=some (.int .i64 m)) (h1:1≤old.size) (hlen:s.size+Lib.countB s old*new.size≤140737488355328) :
  Calls Tryz.prog 28 #[.string s,.string old,.string new] w fun e w'=>
   e=.returned (.string ⟨(Lib.replaceAll s.data.toList old.data.toList new.data.toList).toArray⟩)∧Below w.heap.size w w':=Any.strings_ReplaceAll Tryz.lays155 Tryz.Builder_Extra_155 s old new m w hs hm h1 hlen
end Go.Proofs.YtbilphfbfnohmaaGreatDoor.Pz
namespace Go.Proofs.YtbilphfbfnohmaaGreatDoor.Pz
open Go.RowKit
attribute [local go_sem] Oper.semAt_some
def Bare (ps:List Pc):Prop:=∀ p∈ps,p=.pct∨∃ l,p=.txt l
structure PlS (s:Str) (B q:Nat) (w W:World):Prop where
 num:B+3=q∧q+2≤W.heap.size
 n:W.heap[B]? = some (.cells #[.int .i64 0] 3 (0,0))
 pl:W.heap[B+1]? = some (.cells #[.bool false] 4 (0,0))
 ot:W.heap[B+2]? = some (.cells #[.bool false] 4 (0,0))
 bs:W.heap[q]? = some (.cells #[.string ⟨s.toArray⟩] 9 (0,0))
 bq:W.heap[q+1]? = some (.cells #[.bool false] 4 (0,0))
 low:Below B w W
theorem PlS.of {s:Str} {B q:Nat} {w X Y:World} (h:PlS s B q w X) (o:∀ k,k<q+2→Y.heap[k]? = X.heap[k]?) (hs:X.heap.size≤Y.heap.size) (h1:Y.os=X.os) (h2:Y.tape=X.tape) (h3:Y.output=X.output):PlS s B q w Y:=by
 obtain ⟨n1,n2⟩:=h.num
 exact ⟨⟨n1,Nat.le_trans n2 hs⟩,(o _ (by omega)).trans h.n,(o _ (by omega)).trans h.pl,(o _ (by omega)).trans h.ot,(o _ (by omega)).trans h.bs,(o _ (by omega)).trans h.bq,h.low.trans ⟨h1,h2,h3,hs,fun k hk=>o k (by omega)⟩⟩
theorem PlS.own {s:Str} {B q M:Nat} {w:World} (hM:q+2≤M):OwnT convTs M (fun (_:Nat) W=>PlS s B q w W):=by
 intro k X Y h ht
 obtain ⟨n1,n2⟩:=h.num
 refine h.of (fun k hk=>?_) ht.size ht.os ht.tape ht.output
 have hk2:k<X.heap.size:=by omega
 rw [Array.getElem?_eq_getElem hk2]
 exact ht.block k _ (Array.getElem?_eq_getElem hk2) (.inl (by omega))
theorem PlS.below {s:Str} {B q:Nat} {w X Y:World} (h:PlS s B q w X) (hb:Below X.heap.size X Y):PlS s B q w Y:=
 h.of (fun k hk=>hb.block k (by have:=h.num.2;omega)) hb.size hb.os hb.tape hb.output
def PlcQ (w:World) (e:Ending) (w':World):Prop:=e=.returned (.int .i64 0)∧Below w.heap.size w w'
set_option maxRecDepth 100000 in
theorem placed_end {D:Nat} {w W:World} {T:Array Value} (hD:w.heap.size≤D) (hK:W.heap[D]? = some (.deferred (some []))) (hlow:Below w.heap.size w W) (t2:T[2]? = some (.int .i64 0)) :
  bodyPostM Fence.wide 5 Tryz.prog Tryz.f69 (PlcQ w) Exit.ret { tmps:=T,defers:=[{ target:=.collected D,args:=#[] }] } W:=by
 refine ⟨by simp,.inl ⟨_,_,rfl,run_takeDeferred hK,?_⟩⟩
 refine ⟨.int .i64 0,?_,rfl,hlow.trans ⟨rfl,rfl,rfl,by rw [World.putObj_size];exact Nat.le_refl _,fun k hk=>World.putObj_heap_other (by omega)⟩⟩
 simp [results,Tryz.results69,go_sem,t2]
set_option maxRecDepth 1000000 in
set_option maxHeartbeats 4000000 in
theorem placed_fn {ps:List Pc} (hok:partsOk false ps=true) (hbare:Bare ps) (w:World) (hs:(shwAll ps).length≤100000) :
  Calls Tryz.prog 69 #[.string ⟨(shwAll ps).toArray⟩] w (PlcQ w):=by
 obtain ⟨s,hse⟩:∃ s,s=shwAll ps:=⟨_,rfl⟩
 rw [← hse] at hs ⊢
 obtain ⟨w0,hw0⟩:∃ w0,w0=((w.alloc (.cells #[.int .i64 0] 3)).alloc (.cells #[.bool false] 4)).alloc (.cells #[.bool false] 4):=⟨_,rfl⟩
 obtain ⟨h00,h01,h02,hz0,hb0⟩:=three_new w _ _ _ hw0
 have HW0:=hid hw0
 have HSE:=hid hse
 have HB0:=hid hb0
 have HZ0:=hid hz0
 have H00:=hid h00
 have H01:=hid h01
 have H02:=hid h02
 have HCV:=hid (conversions_fn s false w0)
 have HBARE:=hid hbare
 clear hw0 hse hb0 hz0 h00 h01 h02 hbare
 refine (callsIn_wide (n:=5)).1 ?_
 refine callsIn_of_wp_marks Tryz.func69 rfl trivial ?_ rfl
 simp only [Tryz.ntmps69,List.size_toArray,List.length_cons,List.length_nil,Nat.reduceAdd,Nat.reduceSub,Array.replicate_succ,Array.replicate_zero,List.push_toArray,List.append_toArray,List.nil_append,List.cons_append]
 gi_wp2_with (refine ⟨trivial,?_⟩;gi_at_call 47;rw [← HW0.out];refine (callsIn_wide.2 HCV.out).mono ?_;rintro e w1 ⟨rfl,hb1,hcs,hcq,hz1⟩)
 obtain ⟨q,hq⟩:∃ q,q=w0.heap.size:=⟨_,rfl⟩
 obtain ⟨B,hB⟩:∃ B,B=w.heap.size:=⟨_,rfl⟩
 have hz0:=HZ0.out
 rw [← hq] at hcs hcq hz1 hz0 ⊢
 rw [← hB] at hz0 ⊢
 have hF0:PlS s B q w w1:=by
  refine ⟨⟨by omega,by omega⟩,(hb1.block _ (by omega)).trans (by rw [hB];exact H00.out),(hb1.block _ (by omega)).trans (by rw [hB];exact H01.out),(hb1.block _ (by omega)).trans (by rw [hB];exact H02.out),hcs,hcq,?_⟩
  rw [hB]
  exact HB0.out.trans (hb1.mono (by omega))
 have HF0:=hid hF0
 have HBB:=hid hB
 have hqB:B+3=q:=by omega
 clear hB hF0 hz0 HB0 HZ0 H00 H01 H02 HW0 HCV hq hcs hcq hb1
 gi_wp2
 refine wpIn_range_n rfl (by omega) (gf:=87) (lb:=#[.pointer (some ⟨q,0,none⟩),.pointer (some ⟨q+1,0,none⟩)]) rfl trivial (enters_of Tryz.func87 (by kernel_rfl) rfl)
  (convs_n (scan:=false) hok (by rw [← HSE.out];omega) (b:=q) (B:=B) _ (by rw [← HSE.out];exact HF0.out.bs) HF0.out.bq) (by omega) (by simp;omega) (Below.refl _ _) (fun _=>rfl)
  (fun _ W=>PlS s B q w W) (PlS.own (by omega)) HF0.out
  (fun k a' W=>∃ Bx,W.heap[Bx]? = some (.cells (pcCells false (offP ps k) (ps.getD k .pct)) 78 (0,0))∧a' = { tmps:=#[.string ⟨s.toArray⟩,undef,.int .i64 0,.pointer (some ⟨B,0,none⟩),.pointer (some ⟨B+1,0,none⟩),.pointer (some ⟨B+1+1,0,none⟩),.pointer (some ⟨Bx,0,none⟩),.string ⟨s.toArray⟩,.func (.func 87) #[] #[.pointer (some ⟨q,0,none⟩),.pointer (some ⟨q+1,0,none⟩)],.agg (pcCells false (offP ps k) (ps.getD k .pct)),undef,undef,undef,undef,undef,undef,undef,undef,undef,undef,undef,undef,undef,undef,undef,undef,undef,undef,undef,undef,undef,undef,undef,undef,undef,undef,undef,undef,undef,undef,undef,undef,undef,undef,undef,undef,undef,undef,undef,undef,undef,undef,undef,undef,undef,undef,undef,undef,undef,undef,undef,undef,undef],defers:=[] })
  ?hAx ?assign ?body ?done
 case hAx=>
  rintro k a' _ X Y row ⟨Bx,h1,h2⟩ hg hr
  refine ⟨Bx,?_,h2⟩
  rw [hg.block Bx (Array.getElem?_eq_some_iff.1 h1).1 fun e=>?_]
  ·exact h1
  ·obtain ⟨_,o,ho,hc⟩:=hr Bx e.symm
   rw [h1] at ho
   cases ho
   cases hc
 case assign=>
  rintro lr k W K hi hlt hK
  obtain ⟨pc,hpc⟩:∃ pc,pc=ps.getD k .pct:=⟨_,rfl⟩
  obtain ⟨tx,htx⟩:∃ tx,tx=pc.text:=⟨_,rfl⟩
  obtain ⟨fl,hfl⟩:∃ fl,fl=pc.flags:=⟨_,rfl⟩
  obtain ⟨wi,hwi⟩:∃ wi,wi=pc.width:=⟨_,rfl⟩
  obtain ⟨pr,hpr⟩:∃ pr,pr=pc.prec false:=⟨_,rfl⟩
  obtain ⟨lt,hlt9⟩:∃ lt,lt=pc.letter:=⟨_,rfl⟩
  obtain ⟨i,hi9⟩:∃ i,i=offP ps k:=⟨_,rfl⟩
  have hcells:pcCells false (offP ps k) (ps.getD k .pct)=#[.int .i64 (i:Nat),.string ⟨tx.toArray⟩,.int .i64 0,.string ⟨fl.toArray⟩,.int .i64 wi,.int .i64 pr,.bool false,.bool false,.int .u8 (lt.toNat:Nat),.bool false,.string ⟨#[]⟩]:=by
   rw [← hpc,htx,hfl,hwi,hpr,hlt9,hi9]
   rfl
  have henc:encP false ps k=#[.agg (pcCells false (offP ps k) (ps.getD k .pct))]:=rfl
  rw [henc]
  rw [hcells] at hK ⊢
  clear hpc htx hfl hwi hpr hlt9 hi9 henc
  have hI:=hid hi
  obtain ⟨n1,n2⟩:=hi.num
  clear hi
  gi_wp2
  refine hK _ _ ((KeepsOthers.alloc _ _).from _) (KeepT.of_below (belowN _ _) (by omega) (by simp;omega)) (hI.out.below (belowN _ _)) ⟨W.heap.size,heap_alloc_new _ _,rfl⟩
 case body=>
  rintro lr k a' W hi ⟨Bx,hX,rfl⟩ hlt
  have hgd:ps.getD k .pct=ps[k]:=by rw [List.getD_eq_getElem?_getD,List.getElem?_eq_getElem hlt,Option.getD_some]
  have hb:=HBARE.out ps[k] (List.getElem_mem hlt)
  rw [← hgd] at hb
  obtain ⟨i,hi9⟩:∃ i,i=offP ps k:=⟨_,rfl⟩
  rw [← hi9] at hX ⊢
  have HI:=hid hi
  rcases hb with hb | ⟨l0,hb⟩
  ·rw [hb] at hX ⊢
   have hX:W.heap[Bx]? = some (.cells #[.int .i64 (i:Nat),.string ⟨#[]⟩,.int .i64 0,.string ⟨#[]⟩,.int .i64 (-1),.int .i64 (-1),.bool false,.bool false,.int .u8 37,.bool false,.string ⟨#[]⟩] 78 (0,0)):=hX
   have x8:W.cell? ⟨Bx,8,none⟩=some (.int .u8 37):=(Lib.cell_of_heap hX 8).trans rfl
   clear hgd hb hi9 hi hX
   gi_wp2
   exact ⟨KeepsFrom.refl _ _,KeepT.refl _ _ _ _,HI.out⟩
  ·rw [hb] at hX ⊢
   have hX:W.heap[Bx]? = some (.cells #[.int .i64 (i:Nat),.string ⟨l0.toArray⟩,.int .i64 0,.string ⟨#[]⟩,.int .i64 0,.int .i64 0,.bool false,.bool false,.int .u8 0,.bool false,.string ⟨#[]⟩] 78 (0,0)):=hX
   have x8:W.cell? ⟨Bx,8,none⟩=some (.int .u8 0):=(Lib.cell_of_heap hX 8).trans rfl
   clear hgd hb hi9 hi hX
   gi_wp2
   exact ⟨KeepsFrom.refl _ _,KeepT.refl _ _ _ _,HI.out⟩
 case done=>
  rintro D W hD hi hK
  have r0:=Lib.cell_of_heap hi.n 0
  have HI:=hid hi
  have HK:=hid hK
  obtain ⟨n1,n2⟩:=hi.num
  clear hi hK
  gi_wp2
  exact placed_end (by rw [← HBB.out];omega) HK.out (by rw [← HBB.out];exact HI.out.low) rfl
theorem needs1_idle (n:Nat) {q:Nat} (p:Addr) {u:FrameMode} {w:World} (h:w.heap[q]? = some (.cells #[.int .i64 0] 22 (0,0))) :
  CallsDIn Fence.wide n Tryz.prog 68 #[.pointer (some ⟨q,0,none⟩),.pointer (some p)] u w fun e u' w'=>u'=u∧(e=.returned (.tuple #[])∧w'=w):=by
 have c0:w.cell? ⟨q,0,none⟩=some (.int .i64 0):=by rw [Lib.cell_of_heap h];rfl
 refine callsDIn_of_wp Tryz.func68 rfl trivial ?_
 simp only [Tryz.ntmps68,List.size_toArray,List.length_cons,List.length_nil,Nat.reduceAdd,Nat.reduceSub,Array.replicate_succ,Array.replicate_zero,List.push_toArray,List.append_toArray,List.nil_append,List.cons_append]
 gi_wp2
 go_end0
 exact ⟨rfl,rfl⟩
def NdsQ (w:World) (e:Ending) (w':World):Prop:=e=.returned (.tuple #[.int .i64 0,.int .i64 0])∧Below w.heap.size w w'
set_option maxRecDepth 100000 in
theorem needs_end {b:Nat} {w W:World} {T:Array Value} (hb:b=w.heap.size) (h0:W.heap[b]? = some (.cells #[.int .i64 0] 3 (0,0))) (h1:W.heap[b+1]? = some (.cells #[.int .i64 0] 22 (0,0)))
  (hlow:Below b w W) (t2:T[2]? = some (.pointer (some ⟨b,0,none⟩))) (t3:T[3]? = some (.pointer (some ⟨b+1,0,none⟩))) :
  bodyPostM Fence.wide 5 Tryz.prog Tryz.f29 (NdsQ w) Exit.ret { tmps:=T,defers:=[{ target:=.fn (.func 44) #[],args:=#[.pointer (some ⟨b+1+1,0,none⟩),.pointer (some ⟨b+1,0,none⟩)] },
   { target:=.fn (.func 68) #[.pointer (some ⟨b+1,0,none⟩),.pointer (some ⟨b,0,none⟩)],args:=#[] }] } W:=by
 refine ⟨by simp,.inr ⟨fun _=>by decide,.func 44,#[],44,#[.pointer (some ⟨b+1+1,0,none⟩),.pointer (some ⟨b+1,0,none⟩)],rfl,?_,fun _ _=>trivial,?_⟩⟩
 ·simp [invoke,go_sem]
 refine (caught_idle _ _ _ _).mono ?_
 rintro e u' W2 ⟨rfl,rfl,hb2⟩
 have k0:=(hb2.block _ (Array.getElem?_eq_some_iff.1 h0).1).trans h0
 have k1:=(hb2.block _ (Array.getElem?_eq_some_iff.1 h1).1).trans h1
 have hl2:Below b w W2:=hlow.trans (hb2.mono (by have:=(Array.getElem?_eq_some_iff.1 h0).1;omega))
 refine ⟨by simp [settle],.inr ⟨fun _=>by decide,.func 68,#[.pointer (some ⟨b+1,0,none⟩),.pointer (some ⟨b,0,none⟩)],68,#[.pointer (some ⟨b+1,0,none⟩),.pointer (some ⟨b,0,none⟩)],rfl,?_,fun _ _=>trivial,?_⟩⟩
 ·simp [invoke,go_sem]
 refine (needs1_idle _ _ k1).mono ?_
 rintro e u' W3 ⟨rfl,rfl,rfl⟩
 have c0:W3.cell? ⟨b,0,none⟩=some (.int .i64 0):=by rw [Lib.cell_of_heap k0];rfl
 have c1:W3.cell? ⟨b+1,0,none⟩=some (.int .i64 0):=by rw [Lib.cell_of_heap k1];rfl
 refine ⟨.tuple #[.int .i64 0,.int .i64 0],?_,rfl,by rw [← hb];exact hl2⟩
 simp [results,Tryz.results29,asAddr,go_sem,c0,c1,t2,t3]
set_option maxRecDepth 1000000 in
set_option maxHeartbeats 4000000 in
theorem needs_fn {ps:List Pc} (hok:partsOk false ps=true) (hbare:Bare ps) (w:World) (hs:(shwAll ps).length≤100000) :
  Calls Tryz.prog 29 #[.string ⟨(shwAll ps).toArray⟩] w (NdsQ w):=by
 have hmf:∀ (fn:Fn) (first cap:Array Value) (w:World),(Instr.makeFunc fn first cap).run Tryz.prog w=.ok (.func fn first cap) w:=fun _ _ _ _=>rfl
 have HP:=hid (fun u=>placed_fn hok hbare u hs)
 obtain ⟨s,hse⟩:∃ s,s=shwAll ps:=⟨_,rfl⟩
 rw [← hse] at HP ⊢
 obtain ⟨w0,hw0⟩:∃ w0,w0=((w.alloc (.cells #[.int .i64 0] 3)).alloc (.cells #[.int .i64 0] 22)).alloc (.cells #[.int .i64 0] 3):=⟨_,rfl⟩
 obtain ⟨h00,h01,h02,hz0,hb0⟩:=three_new w _ _ _ hw0
 have HW0:=hid hw0
 have HB0:=hid hb0
 have H00:=hid h00
 have H01:=hid h01
 clear hw0 hse hb0 hz0 h00 h01 h02 hok hbare hs
 refine (callsIn_wide (n:=5)).1 ?_
 refine callsIn_of_wp_marks Tryz.func29 rfl trivial ?_ rfl
 simp only [Tryz.ntmps29,List.size_toArray,List.length_cons,List.length_nil,Nat.reduceAdd,Nat.reduceSub,Array.replicate_succ,Array.replicate_zero,List.push_toArray,List.append_toArray,List.nil_append,List.cons_append]
 gi_wp2_with (refine ⟨trivial,?_⟩;gi_at_call 69;rw [← HW0.out];refine (callsIn_wide.2 (HP.out _)).mono ?_;rintro e w1 ⟨rfl,hb1⟩;have k0:=(hb1.block _ (Array.getElem?_eq_some_iff.1 H00.out).1).trans H00.out;have k1:=(hb1.block _ (Array.getElem?_eq_some_iff.1 H01.out).1).trans H01.out;have r0:=Lib.cell_of_heap k0 0;have r1:=Lib.cell_of_heap k1 0;have f0:=Lib.frozen_of_heap k0 0;have f1:=Lib.frozen_of_heap k1 0;have K0:=hid k0;have K1:=hid k1;have HB1:=hid (HB0.out.trans (hb1.mono HB0.out.size));clear k0 k1 hb1)
 refine needs_end (b:=w.heap.size) (w:=w) rfl ?_ ?_ ?_ rfl rfl
 ·exact (heap_setO _ (by omega) _).trans (heap_set1 K0.out _)
 ·exact heap_set1 ((heap_setO _ (by omega) _).trans K1.out) _
 ·exact (HB1.out.setCell (by show w.heap.size≤w.heap.size;omega) _).setCell (by show w.heap.size≤w.heap.size+1;omega) _
end Go.Proofs.YtbilphfbfnohmaaGreatDoor.Pz
namespace Go.Proofs.YtbilphfbfnohmaaGreatDoor.Pz
open Go.RowKit
section
attribute [local go_sem] Oper.semAt_some
def sumT:List Str→Nat
 | []=>0
 | a::l=>a.length+sumT l
theorem sumT_drop (l:List Str) (i:Nat) (h:i<l.length):sumT (l.drop i)=l[i].length+sumT (l.drop (i+1)):=by
 rw [List.drop_eq_getElem_cons h,sumT]
theorem sumT_mem:∀ (l:List Str) (s:Str),s∈l→s.length≤sumT l
 | x::l,s,h=>by
  rw [sumT]
  rcases List.mem_cons.1 h with rfl | h
  ·omega
  ·have:=sumT_mem l s h
   omega
def lightB (z:Int) (l:List Str):Bool:=decide ((sumT l:Int)≤z) && decide (l.length≤60)
set_option maxRecDepth 100000 in
set_option maxHeartbeats 1000000 in
theorem light_fn (z:Int) {w:World} {v:Value} {l:List Str} (hv:StrsAt w v l) (hb:sumT l≤10000000) (hnb0:l.length≤10000000):Calls Tryz.prog 21 #[.int .i64 z,v] w fun e w'=>e=.returned (.bool (lightB z l))∧w'=w:=by
 obtain ⟨a,cap,rfl,hcap,hcell⟩:=hv
 obtain ⟨n,hn⟩:∃ n,n=l.length:=⟨_,rfl⟩
 have hnb:n≤10000000:=by rw [hn];exact hnb0
 have HN:=hid hn
 have HV:=hid hcell
 have HD:=hid (sumT_drop l)
 have HS:=hid hb
 obtain ⟨ans,hans⟩:∃ x,x=lightB z l:=⟨_,rfl⟩
 have HA:=hid hans
 rw [← hans,← hn]
 clear hcell hn hb hans hcap hnb0
 go_enter Tryz.func21,Tryz.ntmps21
 go_wp2
 go_loopg [5,10] n (fun k mv iv wr=>∃ (m i:Nat),mv=.int .i64 (m:Nat)∧iv=.int .i64 (i:Nat)∧i≤n∧m+sumT (l.drop i)=sumT l∧wr=w∧k=n-i)
 case atStart=>exact ⟨0,0,rfl,rfl,Nat.zero_le _,by simp,rfl,by simp⟩
 case round=>
  obtain ⟨m,i,rfl,rfl,hi,hms,hw,rfl⟩:=hrel
  replace hw:=hw.symm
  subst hw
  rcases Nat.lt_or_ge i n with hlt | hge
  ·have hlt':i<l.length:=by rw [← HN.out];exact hlt
   obtain ⟨p,rfl,hbb,hcw⟩:=HV.out i hlt'
   have hd:=HD.out i hlt'
   have hbm:=HS.out
   generalize l[i]=x at hcw hd
   have hsz:(⟨x.toArray⟩:ByteArray).size=x.length:=Lib.size_mk _
   have hms2:m+x.length+sumT (l.drop (i+1))=sumT l:=by omega
   have hbnd:m+x.length≤10000000:=by omega
   have HMS:=hid hms2
   clear hd hms hms2 hbm
   by_cases h0:i=0
   ·subst h0
    replace hcw:w.cell? p=some (.string ⟨x.toArray⟩):=hcw
    go_wp2
    go_roundg (n-(0+1))
    case measure=>omega
    case rel=>exact ⟨m+x.length,0+1,by go_num,by go_num,by omega,HMS.out,rfl,rfl⟩
   ·go_wp2
    go_roundg (n-(i+1))
    case measure=>omega
    case rel=>exact ⟨m+x.length,i+1,by go_num,by go_num,by omega,HMS.out,rfl,rfl⟩
  ·obtain rfl:i=n:=by omega
   have hm:m=sumT l:=by
    rw [List.drop_eq_nil_of_le (by rw [← HN.out];exact Nat.le_refl _),sumT] at hms
    omega
   have ha:ans=(decide ((m:Int)≤z) && decide (i≤60)):=by rw [hm,HA.out];unfold lightB;rw [HN.out]
   have HA2:=hid ha
   clear hm hms ha HA
   by_cases h1:(m:Int)≤z
   ·by_cases h2:i≤60
    ·have h3:(i:Int)≤60:=by omega
     go_wp2
     go_ret
     refine ⟨?_,rfl⟩
     rw [HA2.out]
     simp [h1,h2]
    ·have h3:¬ (i:Int)≤60:=by omega
     go_wp2
     go_ret
     refine ⟨?_,rfl⟩
     rw [HA2.out]
     simp [h1,h2]
   ·go_wp2
    go_ret
    refine ⟨?_,rfl⟩
    rw [HA2.out]
    have h1n:¬ (m:Int)≤z:=by omega
    simp [h1n]
end
theorem RowS.new1 (w:World) (y:Str):RowS w.heap.size (w.alloc (.cells #[.string ⟨y.toArray⟩] 9)) (.slice (some ⟨w.heap.size,0,none⟩) 1 1) [y]:=by
 refine ⟨by simp [strCells],.inr ⟨w.heap.size,1,_,rfl,Nat.le_refl _,heap_alloc_new _ _,Nat.le_refl _,by unfold maxLen;omega,rfl,?_⟩⟩
 simp [strCells]
def dblE:Str→Str
 | []=>[]
 | c::t=>if c=37 then 37::37::dblE t else c::dblE t
theorem dblE_len:∀ s:Str,(dblE s).length≤2*s.length
 | []=>Nat.le_refl _
 | c::t=>by
  have:=dblE_len t
  rw [dblE]
  split<;>simp only [List.length_cons]<;>omega
theorem dblE_app:∀ a b:Str,dblE (a++b)=dblE a++dblE b
 | [],_=>rfl
 | c::a,b=>by
  rw [List.cons_append,dblE,dblE,dblE_app a b]
  split<;>rfl
theorem idx_pct:∀ s:Str,(Lib.index s [37] = -1∧dblE s=s)∨∃ a b:Str,s=a++37::b∧Lib.index s [37]=(a.length:Nat)∧dblE a=a
  | []=>.inl ⟨rfl,rfl⟩
  | c::l=>by
    by_cases hc:c=37
    · subst hc
      exact .inr ⟨[],l,rfl,rfl,rfl⟩
    · have hp : ([37] : Str).isPrefixOf (c :: l) = false := by
        simp [List.isPrefixOf,Ne.symm hc]
      rw [Lib.index,hp]
      rcases idx_pct l with ⟨h1,h2⟩ | ⟨a,b,h1,h2,h3⟩
      · refine .inl ⟨by rw [h1];rfl,by rw [dblE,if_neg hc,h2]⟩
      · refine .inr ⟨c::a,b,by rw [h1];rfl,?_,by rw [dblE,if_neg hc,h3]⟩
        rw [h2,if_neg (by decide),if_neg (by rw [beq_iff_eq];omega),List.length_cons]
        omega
theorem countFrom_le (sub:Str):∀ (f:Nat) (s:Str),Lib.countFrom sub f s≤f
 | 0,_=>Nat.le_refl _
 | f+1,s=>by
  rw [Lib.countFrom]
  have:=countFrom_le sub f (s.drop ((Lib.index s sub).toNat+sub.length))
  split<;>omega
theorem replaceK_dbl:∀ (f:Nat) (s:Str),s.length<f→Lib.replaceK [37] [37,37] (Lib.countFrom [37] f s) s=dblE s
 | 0,_,h=>absurd h (Nat.not_lt_zero _)
 | f+1,s,h=>by
  rw [Lib.countFrom]
  rcases idx_pct s with ⟨h1,h2⟩ | ⟨a,b,h1,h2,h3⟩
  ·rw [h1,if_pos (by decide),Lib.replaceK,h2]
  ·rw [h2,if_neg (by rw [beq_iff_eq];omega),Nat.add_comm,Lib.replaceK_hit _ _ _ _ _ h2,Int.toNat_natCast]
   subst h1
   have hd:(a++37::b).drop (a.length+([37]:Str).length)=b:=by
    rw [← List.drop_drop,List.drop_left]
    rfl
   rw [hd,List.take_left,replaceK_dbl f b (by simp only [List.length_append,List.length_cons] at h;omega),dblE_app,h3,dblE,if_pos rfl,List.append_assoc]
   rfl
theorem replace_dbl (s:Str):Lib.replaceAll s [37] [37,37]=dblE s:=by
 unfold Lib.replaceAll Lib.replace
 rw [if_neg (by decide)]
 have:Lib.replaceNum s [37] (-1)=Lib.count s [37]:=by
  unfold Lib.replaceNum
  rw [if_pos (.inl (by omega))]
 rw [this]
 exact replaceK_dbl _ s (Nat.lt_succ_self _)
def psGo:Str→Str→List Pc
 | cur,[]=>if cur=[] then [] else [.txt cur]
 | cur,c::t=>if c=37 then (if cur=[] then .pct::psGo [] t else .txt cur :: .pct::psGo [] t) else psGo (cur++[c]) t
theorem psGo_shw:∀ (s cur:Str),shwAll (psGo cur s)=cur++dblE s
 | [],cur=>by
  rw [psGo]
  split
  ·rename_i h;rw [h];rfl
  ·show cur++[]=cur++[];rfl
 | c::t,cur=>by
  rw [psGo,dblE]
  by_cases hc:c=37
  ·rw [if_pos hc,if_pos hc]
   have h:=psGo_shw t []
   split
   ·rename_i h0
    rw [h0]
    show [37,37]++shwAll (psGo [] t)=_
    rw [h]
    rfl
   ·show cur++([37,37]++shwAll (psGo [] t))=_
    rw [h]
    rfl
  ·rw [if_neg hc,if_neg hc,psGo_shw t (cur++[c]),List.append_assoc]
   rfl
theorem pct_ok (ps:List Pc) (h:partsOk false ps=true):partsOk false (.pct::ps)=true:=by
 cases ps with
 | nil=>rfl
 | cons q t=>
  cases q with
  | txt l=>show (Pc.pct.ok false && partsOk false (.txt l::t))=true;rw [h];rfl
  | pct=>show (Pc.pct.ok false && partsOk false (.pct::t))=true;rw [h];rfl
  | cnv a b c=>show (Pc.pct.ok false && partsOk false (.cnv a b c::t))=true;rw [h];rfl
theorem txt_ok {l:Str} (h0:l≠[]) (h1:l.contains 37=false):(Pc.txt l).ok false=true:=by
 show (!l.isEmpty && !l.contains 37)=true
 rw [h1]
 cases l with
 | nil=>exact absurd rfl h0
 | cons a b=>rfl
theorem psGo_ok:∀ (s cur:Str),cur.contains 37=false→partsOk false (psGo cur s)=true
 | [],cur,h=>by
  rw [psGo]
  split
  ·rfl
  ·rename_i h0
   exact txt_ok h0 h
 | c::t,cur,h=>by
  rw [psGo]
  by_cases hc:c=37
  ·rw [if_pos hc]
   have h2:=pct_ok _ (psGo_ok t [] rfl)
   split
   ·exact h2
   ·rename_i h0
    show ((Pc.txt cur).ok false && partsOk false (.pct::psGo [] t))=true
    rw [txt_ok h0 h,h2]
    rfl
  ·rw [if_neg hc]
   refine psGo_ok t _ ?_
   rw [List.contains_eq_any_beq,List.any_append,← List.contains_eq_any_beq,h]
   simp [Ne.symm hc]
theorem psGo_bare:∀ (s cur:Str),Bare (psGo cur s)
 | [],cur=>by
  rw [psGo]
  split
  ·intro p hp;cases hp
  ·intro p hp;rw [List.mem_singleton.1 hp];exact .inr ⟨_,rfl⟩
 | c::t,cur=>by
  rw [psGo]
  have h:=psGo_bare t []
  split
  ·split
   ·intro p hp
    rcases List.mem_cons.1 hp with rfl | k
    ·exact .inl rfl
    ·exact h p k
   ·intro p hp
    rcases List.mem_cons.1 hp with rfl | k
    ·exact .inr ⟨_,rfl⟩
    ·rcases List.mem_cons.1 k with rfl | k
     ·exact .inl rfl
     ·exact h p k
  ·exact psGo_bare t _
def outs:List Pc→Str
 | []=>[]
 | p::ps=>(pcOut p []).1++outs ps
theorem outs_app:∀ a b:List Pc,outs (a++b)=outs a++outs b
 | [],_=>rfl
 | p::a,b=>by show _++outs (a++b)=(_++outs a)++outs b;rw [outs_app a b,List.append_assoc]
theorem psGo_outs:∀ (s cur:Str),outs (psGo cur s)=cur++s
 | [],cur=>by
  rw [psGo]
  split
  ·rename_i h;rw [h];rfl
  ·show cur++[]=cur++[];rfl
 | c::t,cur=>by
  rw [psGo]
  by_cases hc:c=37
  ·rw [if_pos hc]
   have h:=psGo_outs t []
   subst hc
   split
   ·rename_i h0
    rw [h0]
    show [37]++outs (psGo [] t)=_
    rw [h]
    rfl
   ·show cur++([37]++outs (psGo [] t))=_
    rw [h]
    rfl
  ·rw [if_neg hc,psGo_outs t (cur++[c]),List.append_assoc]
   rfl
theorem bare_out {p:Pc} (h:p=.pct∨∃ l,p=.txt l) (x:Str):pcOut p x=((pcOut p []).1,0):=by
 rcases h with rfl | ⟨l,rfl⟩<;>rfl
theorem bare_outF {ps:List Pc} (h:Bare ps) (l:List Str):∀ k,k≤ps.length→outF ps l k=outs (ps.take k)
 | 0,_=>rfl
 | k+1,hk=>by
  have h1:k<ps.length:=by omega
  have h2:ps.getD k .pct=ps[k]:=by rw [List.getD_eq_getElem?_getD,List.getElem?_eq_getElem h1,Option.getD_some]
  rw [outF,bare_outF h l k (by omega),List.take_succ_eq_append_getElem h1,outs_app,h2,bare_out (h _ (List.getElem_mem h1))]
  show _=_++((pcOut ps[k] []).1++[])
  rw [List.append_nil]
theorem bare_cnt:∀ {ps:List Pc},Bare ps→cntC ps=0
 | [],_=>rfl
 | p::ps,h=>by
  have h2:=bare_cnt (ps:=ps) fun q hq=>h q (List.mem_cons_of_mem _ hq)
  rcases h p (by simp) with rfl | ⟨l,rfl⟩<;>exact h2
theorem plain_format (s:Str) (hs:s.length≤3000) {args:List Str} {va:Value} (w:World) (hva:StrsAt w va args) (hl:args.length≤100000) (hx:∀ x∈args,x.length≤100000) :
  Calls Tryz.prog 14 #[.string ⟨(dblE s).toArray⟩,va] w (FmtQ s w):=by
 have hb:=psGo_bare s []
 have hsh:shwAll (psGo [] s)=dblE s:=psGo_shw s []
 have hout:outF (psGo [] s) args (psGo [] s).length=s:=by
  rw [bare_outF hb args _ (Nat.le_refl _),List.take_length]
  exact psGo_outs s []
 have hd:=dblE_len s
 have h:=format_fn (ps:=psGo [] s) (psGo_ok s [] rfl) w (by rw [hsh];omega) hl hx hva (by rw [bare_cnt hb];omega) (by
  intro k hk
  rw [List.getD_eq_getElem?_getD,List.getElem?_eq_getElem hk,Option.getD_some,bare_out (hb _ (List.getElem_mem hk))]) (by rw [hout];omega) (by
  rintro ⟨fl,wd,hm⟩
  rcases hb _ hm with h | ⟨_,h⟩<;>cases h)
 rw [hout,hsh] at h
 exact h
theorem plain_needs (s:Str) (hs:s.length≤3000) (w:World):Calls Tryz.prog 29 #[.string ⟨(dblE s).toArray⟩] w (NdsQ w):=by
 have hsh:shwAll (psGo [] s)=dblE s:=psGo_shw s []
 have hd:=dblE_len s
 have h:=needs_fn (psGo_ok s [] rfl) (psGo_bare s []) w (by rw [hsh];omega)
 rw [hsh] at h
 exact h
theorem dbl_fn (s:Str) (hs:s.length≤1000000) (w:World) (hml:ML w):Calls Tryz.prog 28 #[.string ⟨s.toArray⟩,.string ⟨#[37]⟩,.string ⟨#[37,37]⟩] w fun e w'=>e=.returned (.string ⟨(dblE s).toArray⟩)∧Below w.heap.size w w':=by
 obtain ⟨m,hm⟩:=hml
 have h:=Tryz.strings_ReplaceAll ⟨s.toArray⟩ ⟨#[37]⟩ ⟨#[37,37]⟩ m w (by rw [Lib.size_mk];omega) hm (by decide) (by
  have h1:Lib.countB ⟨s.toArray⟩ ⟨#[37]⟩≤s.length+1:=countFrom_le [37] (s.length+1) s
  have h2:(⟨#[37,37]⟩:ByteArray).size=2:=rfl
  rw [Lib.size_mk,h2]
  omega)
 have e:Lib.replaceAll (⟨s.toArray⟩:ByteArray).data.toList (⟨#[37]⟩:ByteArray).data.toList (⟨#[37,37]⟩:ByteArray).data.toList=dblE s:=replace_dbl s
 rw [e] at h
 exact h
set_option maxRecDepth 1000000 in
set_option maxHeartbeats 4000000 in
theorem spellPlain_fn (s:Str) (args:List Str) (va:Value) (w:World) (hml:ML w) (hva:StrsAt w va args) (hnil:∀ n c,va=.slice none n c→c=0) (hy:s.length≤4000000) (hsum:sumT args≤4000000) (hal:args.length≤4000000) :
  Calls Tryz.prog 7 #[.string ⟨s.toArray⟩,va] w fun e w'=>e=.returned (.bool true)∧Below w.heap.size w w':=by
 have hsz:(⟨s.toArray⟩:ByteArray).size=s.length:=Lib.size_mk _
 obtain ⟨w0,hw0⟩:∃ w0,w0=w.alloc (.cells #[.string ⟨s.toArray⟩] 9):=⟨_,rfl⟩
 have HB0:=hid (show Below w.heap.size w w0 by rw [hw0];exact belowS _ _)
 have HR0:=hid (show RowS w.heap.size w0 (.slice (some ⟨w.heap.size,0,none⟩) 1 1) [s] by rw [hw0];exact RowS.new1 w s)
 have HZ0:=hid (show w.heap.size≤w0.heap.size by rw [hw0];simp)
 have HW0:=hid hw0
 have HVA:=hid hva
 have HV0:=hid (show StrsAt w0 va args from hva.below HB0.out)
 have HNIL:=hid hnil
 have HML:=hid hml
 obtain ⟨bl,hbl⟩:∃ bl,bl=lightB 3000 ([s]++args):=⟨_,rfl⟩
 have HL:=hid (fun (u:World) (v:Value) (h:StrsAt u v ([s]++args))=>show Calls Tryz.prog 21 #[.int .i64 3000,v] u fun e w'=>e=.returned (.bool bl)∧w'=u by
  rw [hbl]
  exact light_fn 3000 h (by show s.length+sumT args≤10000000;omega) (by show args.length+1≤10000000;omega))
 have HA:=hid awake_fn
 have HLEN:=hid (show ([s]:List Str).length+args.length≤10000000 by show 1+args.length≤_;omega)
 clear hw0 hva hnil hml
 cases bl with
 | false=>
  clear hbl hy hsum hal
  go_enter Tryz.func7,Tryz.ntmps7
  go_wp2_with (first|(at_builtin;rw [← HW0.out];refine app_any rfl (.tmp 11) (.tmp 12) rfl w.heap.size _ va [s] args rfl HR0.out rfl HV0.out HNIL.out HZ0.out HLEN.out ?_;intro v1 w1 hr1 hg1 hv1;have HR1:=hid hr1.strs;have HB1:=hid (HB0.out.grown hg1 HZ0.out (fun k hk=>(HR0.out.lt k hk).2));clear hr1 hg1 hv1)|(go_at_call 21;(with_reducible refine (HL.out _ _ HR1.out).mono ?_);rintro e w2 ⟨rfl,hw2⟩;replace hw2:=hw2.symm;subst hw2)|(go_at_call 12;(with_reducible refine (HA.out _).mono ?_);rintro e w3 ⟨rfl,hb3⟩;have HB3:=hid (HB1.out.trans (hb3.mono HB1.out.size));clear hb3))
  go_ret
  exact ⟨rfl,HB3.out⟩
 | true=>
  have hs2:s.length+sumT args≤3000:=by
   have h:=hbl.symm
   unfold lightB at h
   rw [Bool.and_eq_true] at h
   have h2:((sumT ([s]++args):Nat):Int)≤3000:=of_decide_eq_true h.1
   have h3:sumT ([s]++args)=s.length+sumT args:=rfl
   omega
  have hl2:args.length≤60:=by
   have h:=hbl.symm
   unfold lightB at h
   rw [Bool.and_eq_true] at h
   have h2:([s]++args).length≤60:=of_decide_eq_true h.2
   have h3:([s]++args).length=args.length+1:=rfl
   omega
  have hx:∀ x∈args,x.length≤100000:=fun x hx=>by have:=sumT_mem args x hx;omega
  have HD:=hid (fun u hu=>dbl_fn s (by omega) u hu)
  have HF:=hid (fun u (hu:StrsAt u va args)=>by have h:=plain_format s (by omega) u hu (by omega) hx;unfold FmtQ at h;exact h)
  have HN:=hid (fun u=>by have h:=plain_needs s (by omega) u;unfold NdsQ at h;exact h)
  obtain ⟨d,hd⟩:∃ d,d=dblE s:=⟨_,rfl⟩
  rw [← hd] at HD HF HN
  clear hbl hy hsum hal hx hd
  go_enter Tryz.func7,Tryz.ntmps7
  go_wp2_with (first|(at_builtin;rw [← HW0.out];refine app_any rfl (.tmp 11) (.tmp 12) rfl w.heap.size _ va [s] args rfl HR0.out rfl HV0.out HNIL.out HZ0.out HLEN.out ?_;intro v1 w1 hr1 hg1 hv1;have HR1:=hid hr1.strs;have HB1:=hid (HB0.out.grown hg1 HZ0.out (fun k hk=>(HR0.out.lt k hk).2));clear hr1 hg1 hv1)|(go_at_call 21;(with_reducible refine (HL.out _ _ HR1.out).mono ?_);rintro e w2 ⟨rfl,hw2⟩;replace hw2:=hw2.symm;subst hw2)|(go_at_call 28;first|((with_reducible refine (HD.out _ (HML.out.below HB4.out)).mono ?_);rintro e w5 ⟨rfl,hb5⟩;have HB5:=hid (HB4.out.trans (hb5.mono HB4.out.size));clear hb5)|((with_reducible refine (HD.out _ (HML.out.below HB1.out)).mono ?_);rintro e w3 ⟨rfl,hb3⟩;have HB3:=hid (HB1.out.trans (hb3.mono HB1.out.size));clear hb3))|(go_at_call 14;(with_reducible refine (HF.out _ (HVA.out.below HB3.out)).mono ?_);rintro e w4 ⟨rfl,hb4⟩;have HB4:=hid (HB3.out.trans (hb4.mono HB3.out.size));clear hb4)|(go_at_call 29;(with_reducible refine (HN.out _).mono ?_);rintro e w6 ⟨rfl,hb6⟩;have HB6:=hid (HB5.out.trans (hb6.mono HB5.out.size));clear hb6)|(go_at_call 12;(with_reducible refine (HA.out _).mono ?_);rintro e w7 ⟨rfl,hb7⟩;have HB7:=hid (HB6.out.trans (hb7.mono HB6.out.size));clear hb7))
  go_ret
  exact ⟨rfl,HB7.out⟩
end Go.Proofs.YtbilphfbfnohmaaGreatDoor.Pz
namespace Go.Proofs.YtbilphfbfnohmaaGreatDoor.Opn
open Go.ChangeMaps Go.ChangeShapes Go.WideShapes Go.ChangeAt Go.RowKit
section
variable {P:Program} {H:Type} {enc:TypeId×Value→H} {W:World}
theorem getD_data (ss:List ByteArray) (n i:Nat) (h:i<((ss.take n).map (fun x:ByteArray=>x.data.toList)).length):(.string (ss.getD i ByteArray.empty):Value)=.string ⟨(((ss.take n).map (fun x:ByteArray=>x.data.toList))[i]).toArray⟩:=by
 simp only [List.length_map,List.length_take] at h
 have h1:i<ss.length:=by omega
 rw [List.getElem_map,List.getElem_take,List.getD_eq_getElem?_getD,List.getElem?_eq_getElem h1]
 cases ss[i]
 simp
theorem bulk_strs (ss:List ByteArray):Rows.uptoBulkAll (strs (H:=H) ss)=Pz.sumT (ss.map (·.data.toList))+ss.length:=by
 induction ss with
 | nil=>rfl
 | cons a ss ih=>
  show a.data.toList.length+1+Rows.uptoBulkAll (strs (H:=H) ss)=a.data.toList.length+Pz.sumT (ss.map (·.data.toList))+(ss.length+1)
  rw [ih]
  omega
theorem blk_lt {a:Addr} {n:Nat} {v:Value} (hlt:∀ x∈MemPlace.row a n,x.block<W.heap.size) (h0:0<n) (hc:W.cell? (a.add 0)=some v):a.block<W.heap.size:=by
 obtain ⟨b,off,spot⟩:=a
 have hspot:spot=none:=by simpa [Addr.add] using World.cell?_spot hc
 subst hspot
 exact hlt (.cell b off) (MemPlace.mem_row.2 ⟨0,h0,by simp⟩)
theorem opened_strs {t e:TypeId} (ht:P.underlying t=some (.slice e)) (he:P.underlying e=some .string) (hce:P.cellsOf e=1) {r:Reach} {b0:Nat} {v:Value} {d:DataW H} {p:List MemPlace} (hv:Value.okWide P W r b0 t v) (h:DataW.Trod enc P W 0 (fun _=>true) true t v d p) (hlt:∀ x∈p,x.block<W.heap.size) :
  ∃ l,Pz.StrsAt W v l∧Pz.sumT l+l.length≤Rows.uptoBulk d∧l.length≤maxLen:=by
 obtain ⟨a1,n1,c1,rfl⟩:=okWide_slice ht hv
 obtain ⟨fuel,hf⟩:=h
 rcases open_strings ht he hce hf with ⟨hcs,hx⟩ | ⟨a,len',cap',ss,hcs,_,hl,hm,hz,hx,hcell,hws⟩
 ·simp [Value.cells] at hcs
  obtain ⟨rfl,rfl,rfl⟩:=hcs
  exact ⟨[],⟨none,0,rfl,Nat.le_refl _,fun i hi=>absurd hi (Nat.not_lt_zero _)⟩,(by simp [Pz.sumT]),(by simp)⟩
 ·simp [Value.cells] at hcs
  obtain ⟨rfl,rfl,rfl⟩:=hcs
  simp only [Prod.mk.injEq] at hx
  obtain ⟨rfl,rfl⟩:=hx
  simp only [if_true] at hz
  have hln:((ss.take n1).map (·.data.toList)).length=n1:=by rw [List.length_map,List.length_take];omega
  refine ⟨(ss.take n1).map (·.data.toList),⟨some a,c1,by rw [hln],by rw [hln];exact hl,fun i hi=>⟨a,rfl,?_,?_⟩⟩,?_,by rw [hln];omega⟩
  ·rw [hln] at hi
   exact blk_lt hlt (by omega) (hcell 0 (by omega))
  ·rw [hcell i (by rw [hln] at hi;omega),getD_data ss n1 i hi]
  ·simp only [Rows.uptoBulk]
   rw [bulk_strs,bulk_strs,List.length_map]
   omega
end
end Go.Proofs.YtbilphfbfnohmaaGreatDoor.Opn
namespace Go.Proofs.YtbilphfbfnohmaaGreatDoor.Opn
open Go.ChangeMaps Go.ChangeShapes Go.WideShapes Go.ChangeAt Go.RowKit
section
variable {P:Program} {H:Type} {enc:TypeId×Value→H} {W:World}
theorem opened_nil {t e:TypeId} (ht:P.underlying t=some (.slice e)) (he:P.underlying e=some .string) (hce:P.cellsOf e=1) {r:Reach} {b0:Nat} {v:Value} {d:DataW H} {p:List MemPlace} (hv:Value.okWide P W r b0 t v) (h:DataW.Trod enc P W 0 (fun _=>true) true t v d p) :
  ∀ n c,v=.slice none n c→c=0:=by
 obtain ⟨a1,n1,c1,rfl⟩:=okWide_slice ht hv
 obtain ⟨fuel,hf⟩:=h
 rcases open_strings ht he hce hf with ⟨hcs,_⟩ | ⟨a,len',cap',ss,hcs,_⟩
 ·simp [Value.cells] at hcs
  obtain ⟨rfl,rfl,rfl⟩:=hcs
  intro n c e
  simp only [Value.slice.injEq,true_and] at e
  exact e.2.symm
 ·simp [Value.cells] at hcs
  obtain ⟨rfl,rfl,rfl⟩:=hcs
  intro n c e
  simp at e
end
end Go.Proofs.YtbilphfbfnohmaaGreatDoor.Opn
