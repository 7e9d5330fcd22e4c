/-
  Part K19 of the proofs of this seat, merged by a program out of 4 texts; remarks are struck.
-/
import Derived.Shelf.Small.Utf8
import Derived.Shelf.Strings.Runes
import Derived.Shelf.Strings.IndexAnyAll
import Derived.Shelf.LaysM
import Derived.Test.YtbilphfbfnohmaaGreatDoorProg
import Derived.Lib.DecodeN
import Derived.Laws.RangeString
import Derived.Laws.Runes
import Derived.WalkMore
import Derived.Test.YtbilphfbfnohmaaGreatDoorK9
namespace Go.Proofs.YtbilphfbfnohmaaGreatDoor.Pz
open Go.Shelf
def Tryz.lays153_ren:Go.Shelf.Ren:=⟨fun | 153=>120 | 152=>164 | 226=>165 | 227=>166 | 228=>167 | 137=>88 | 119=>196 | 224=>175 | 225=>174 | 217=>138 | 266=>186 | n=>n,fun | 9=>9 | 3=>3 | 4=>4 | 5=>5 | 21=>21 | 117=>189 | 116=>188 | 0=>0 | 46=>136 | 124=>212 | n=>n,fun | n=>n⟩
theorem Tryz.lays153:Go.Proofs.Lays.n153 Tryz.prog Tryz.lays153_ren:={
 mixed:=by kernel_rfl
 f119:=Tryz.func196.trans (congrArg some (by kernel_rfl))
 f137:=Tryz.func88.trans (congrArg some (by kernel_rfl))
 f152:=Tryz.func164.trans (congrArg some (by kernel_rfl))
 f153:=Tryz.func120.trans (congrArg some (by kernel_rfl))
 f217:=Tryz.func138.trans (congrArg some (by kernel_rfl))
 f224:=Tryz.func175.trans (congrArg some (by kernel_rfl))
 f225:=Tryz.func174.trans (congrArg some (by kernel_rfl))
 f226:=Tryz.func165.trans (congrArg some (by kernel_rfl))
 f227:=Tryz.func166.trans (congrArg some (by kernel_rfl))
 f228:=Tryz.func167.trans (congrArg some (by kernel_rfl))
 f266:=Tryz.func186.trans (congrArg some (by kernel_rfl))
 t0:=Tryz.underlying0
 a0:=Tryz.isAgg0
 z0:=Tryz.sizeOf0
 v0:=Tryz.zeroValue0
 t3:=Tryz.underlying3
 a3:=Tryz.isAgg3
 z3:=Tryz.sizeOf3
 v3:=Tryz.zeroValue3
 t4:=Tryz.underlying4
 a4:=Tryz.isAgg4
 z4:=Tryz.sizeOf4
 v4:=Tryz.zeroValue4
 t5:=Tryz.underlying5
 a5:=Tryz.isAgg5
 z5:=Tryz.sizeOf5
 v5:=Tryz.zeroValue5
 t9:=Tryz.underlying9
 a9:=Tryz.isAgg9
 z9:=Tryz.sizeOf9
 v9:=Tryz.zeroValue9
 t21:=Tryz.underlying21
 a21:=Tryz.isAgg21
 z21:=Tryz.sizeOf21
 v21:=Tryz.zeroValue21
 t46:=Tryz.underlying136
 a46:=Tryz.isAgg136
 z46:=Tryz.sizeOf136
 v46:=Tryz.zeroValue136
 t116:=Tryz.underlying188
 a116:=Tryz.isAgg188
 z116:=Tryz.sizeOf188
 t117:=Tryz.underlying189
 a117:=Tryz.isAgg189
 z117:=Tryz.sizeOf189
 v117:=Tryz.zeroValue189
 t124:=Tryz.underlying212
 a124:=Tryz.isAgg212
 z124:=Tryz.sizeOf212
 v124:=Tryz.zeroValue212 }
open Go.RowKit Go.Lib in
theorem Tryz.strings_IndexAny_long (hv116:∀ w,(zeroValue 188).run Tryz.prog w=.ok (.agg (Array.replicate 256 (.bool false))) w) (s chars:ByteArray) (w:World) (h2:2≤chars.size) (h8:8<s.size) (hs:s.size<4294967281) (hcs:chars.size<4294967281) (hascii:∀ (j:Nat) b,chars.data.toList[j]? = some b→b.toNat<128) :
  Calls Tryz.prog 120 #[.string s,.string chars] w fun e w'=>e=.returned (.int .i64 (Lib.indexAny s.data.toList chars.data.toList))∧w'=((w.alloc (.cells (Lib.setCells chars.data.toList) 188)).alloc (.cells (Lib.setCells chars.data.toList) 188)):=Any.strings_IndexAny_long Tryz.lays153 hv116 (by kernel_rfl) s chars w h2 h8 hs hcs hascii
def Tryz.lays152_ren:Go.Shelf.Ren:=⟨fun | 152=>164 | 137=>88 | 119=>196 | 224=>175 | 225=>174 | 217=>138 | 266=>186 | n=>n,fun | 9=>9 | 21=>21 | 3=>3 | 4=>4 | 5=>5 | 0=>0 | 46=>136 | n=>n,fun | n=>n⟩
theorem Tryz.lays152:Go.Proofs.Lays.n152 Tryz.prog Tryz.lays152_ren:={
 mixed:=by kernel_rfl
 f119:=Tryz.func196.trans (congrArg some (by kernel_rfl))
 f137:=Tryz.func88.trans (congrArg some (by kernel_rfl))
 f152:=Tryz.func164.trans (congrArg some (by kernel_rfl))
 f217:=Tryz.func138.trans (congrArg some (by kernel_rfl))
 f224:=Tryz.func175.trans (congrArg some (by kernel_rfl))
 f225:=Tryz.func174.trans (congrArg some (by kernel_rfl))
 f266:=Tryz.func186.trans (congrArg some (by kernel_rfl))
 t0:=Tryz.underlying0
 a0:=Tryz.isAgg0
 z0:=Tryz.sizeOf0
 v0:=Tryz.zeroValue0
 t3:=Tryz.underlying3
 a3:=Tryz.isAgg3
 z3:=Tryz.sizeOf3
 v3:=Tryz.zeroValue3
 t4:=Tryz.underlying4
 a4:=Tryz.isAgg4
 z4:=Tryz.sizeOf4
 v4:=Tryz.zeroValue4
 t5:=Tryz.underlying5
 a5:=Tryz.isAgg5
 z5:=Tryz.sizeOf5
 v5:=Tryz.zeroValue5
 t9:=Tryz.underlying9
 a9:=Tryz.isAgg9
 z9:=Tryz.sizeOf9
 v9:=Tryz.zeroValue9
 t21:=Tryz.underlying21
 a21:=Tryz.isAgg21
 z21:=Tryz.sizeOf21
 v21:=Tryz.zeroValue21
 t46:=Tryz.underlying136
 a46:=Tryz.isAgg136
 z46:=Tryz.sizeOf136
 v46:=Tryz.zeroValue136 }
open Go.RowKit Go.Lib in
theorem Tryz.strings_IndexRune_ascii (s:ByteArray) (r:Int) (w:World) (h0:0≤r) (h1:r<128) :
  Calls Tryz.prog 164 #[.string s,.int .i32 r] w fun e w'=>e=.returned (.int .i64 (Lib.indexByte s.data.toList r.toNat.toUInt8))∧w'=w:=Any.strings_IndexRune_ascii Tryz.lays152 s r w h0 h1
def Tryz.lays119_ren:Go.Shelf.Ren:=⟨fun | 119=>196 | n=>n,fun | 21=>21 | 4=>4 | n=>n,fun | n=>n⟩
theorem Tryz.lays119:Go.Proofs.Lays.n119 Tryz.prog Tryz.lays119_ren:={
 mixed:=by kernel_rfl
 f119:=Tryz.func196.trans (congrArg some (by kernel_rfl))
 t4:=Tryz.underlying4
 a4:=Tryz.isAgg4
 z4:=Tryz.sizeOf4
 v4:=Tryz.zeroValue4
 t21:=Tryz.underlying21
 a21:=Tryz.isAgg21
 z21:=Tryz.sizeOf21
 v21:=Tryz.zeroValue21 }
theorem Tryz.utf8_ValidRune (r:Int) (w:World) :
  Calls Tryz.prog 196 #[.int .i32 r] w fun e w'=>e=.returned (.bool (Lib.validRune r))∧w'=w:=Any.utf8_ValidRune Tryz.lays119 r w
end Go.Proofs.YtbilphfbfnohmaaGreatDoor.Pz
namespace Go.Proofs.YtbilphfbfnohmaaGreatDoor.Pz
open Go.RowKit
theorem decodeN_facts {n b0 b1 b2 b3:Nat} (h:128≤b0) (hn:1≤n):128≤(Lib.decodeN n b0 b1 b2 b3).1∧(Lib.decodeN n b0 b1 b2 b3).1≤1114111∧((Lib.decodeN n b0 b1 b2 b3).1<55296∨57344≤(Lib.decodeN n b0 b1 b2 b3).1)∧
  1≤(Lib.decodeN n b0 b1 b2 b3).2∧(Lib.decodeN n b0 b1 b2 b3).2≤n∧(Lib.decodeN n b0 b1 b2 b3).2≤4∧(2≤(Lib.decodeN n b0 b1 b2 b3).2→128≤b1)∧(3≤(Lib.decodeN n b0 b1 b2 b3).2→128≤b2)∧(4≤(Lib.decodeN n b0 b1 b2 b3).2→128≤b3):=by
 unfold Lib.decodeN
 rw [if_neg (by omega)]
 split
 ·split
  ·dsimp only;omega
  ·dsimp only;omega
 ·split
  ·split
   ·dsimp only;omega
   ·dsimp only;omega
  ·split
   ·split
    ·dsimp only;omega
    ·dsimp only;omega
   ·dsimp only;omega
theorem getB (s:Str) (i:Nat):((⟨s.toArray⟩:ByteArray).get! i)=s.getD i 0:=by
 show (s.toArray.getD i default)=_
 simp [Array.getD,List.getD]
 split
 ·rename_i h;simp [h]
 ·rename_i h;simp [List.getElem?_eq_none (by omega:s.length≤i)];rfl
theorem rune_at (s:Str) (i:Nat) (hi:i<s.length) (h:128≤s[i].toNat):∃ c k:Nat,Utf8.decode ⟨s.toArray⟩ i=(c,k)∧128≤c∧c≤1114111∧(c<55296∨57344≤c)∧1≤k∧i+k≤s.length∧∀ j (hj:j<s.length),i≤j→j<i+k→128≤s[j].toNat:=by
 have e:=Lib.decode_at ⟨s.toArray⟩ i
 rw [Lib.size_mk,getB,getB,getB,getB] at e
 have hg:∀ j (hj:j<s.length),s.getD j 0=s[j]:=fun j hj=>by rw [List.getD_eq_getElem?_getD,List.getElem?_eq_getElem hj,Option.getD_some]
 have f:=decodeN_facts (n:=s.length-i) (b0:=(s.getD i 0).toNat) (b1:=(s.getD (i+1) 0).toNat) (b2:=(s.getD (i+2) 0).toNat) (b3:=(s.getD (i+3) 0).toNat) (by rw [hg i hi];exact h) (by omega)
 rw [← e] at f
 clear e
 generalize Utf8.decode ⟨s.toArray⟩ i=p at f ⊢
 obtain ⟨c,k⟩:=p
 dsimp only at f
 obtain ⟨f1,f2,f3,f4,f5,f6,f7,f8,f9⟩:=f
 refine ⟨_,_,rfl,f1,f2,f3,f4,by omega,fun j hj h1 h2=>?_⟩
 rw [← hg j hj]
 have:j=i∨j=i+1∨j=i+2∨j=i+3:=by omega
 rcases this with rfl | rfl | rfl | rfl
 ·rw [hg _ hi];exact h
 ·exact f7 (by omega)
 ·exact f8 (by omega)
 ·exact f9 (by omega)
def digC:Str:=[48,49,50,51,52,53,54,55,56,57,45]
theorem below_iter (w:World) (s:ByteArray) (pos:Nat):Below w.heap.size w (w.iter s pos):=belowN _ _
end Go.Proofs.YtbilphfbfnohmaaGreatDoor.Pz
namespace Go.Proofs.YtbilphfbfnohmaaGreatDoor.Pz
open Go.RowKit
theorem dig_byte (i:Nat) (h:i<11):∃ x:UInt8,digC[i]? = some x∧x.toNat<128:=by
 have:∀ i,i<11→∃ x:UInt8,digC[i]? = some x∧x.toNat<128:=fun i h=>by
  have h2:i<digC.length:=h
  refine ⟨digC[i],List.getElem?_eq_getElem h2,?_⟩
  have h3:∀ x∈digC,x.toNat<128:=by decide
  exact h3 _ (List.getElem_mem h2)
 exact this i h
set_option maxRecDepth 1000000 in
set_option maxHeartbeats 8000000 in
theorem indexRune_none (c:Nat) (h0:128≤c) (h9:c≤1114111) (hv:c<55296∨57344≤c) (w:World) :
  Calls Tryz.prog 164 #[.string ⟨digC.toArray⟩,.int .i32 (c:Nat)] w fun e w'=>e=.returned (.int .i64 (-1))∧Below w.heap.size w w':=by
 obtain ⟨S,hS⟩:∃ S:ByteArray,S=⟨digC.toArray⟩:=⟨_,rfl⟩
 have hSz:S.size=11:=by rw [hS];rfl
 have HS:=hid hS
 rw [← hS]
 clear hS
 have hc128:¬ ((c:Int)<128):=by omega
 have hc0:(0:Int)≤(c:Int):=by omega
 by_cases hc:c=65533
 ·have hcI:((c:Int) == 65533)=true:=by rw [beq_iff_eq];omega
  have hcI2:(c:Int)=65533:=by omega
  subst hc
  go_enter Tryz.func164,Tryz.ntmps164
  go_wp2_with fail
  go_loopg [5,6] 11 (fun g _ _ wx=>∃ i:Nat,i+g=11∧wx=w.iter S i)
  case atStart=>exact ⟨0,by omega,rfl⟩
  case round=>
   obtain ⟨i,hig,rfl⟩:=hrel
   cases gk with
   | zero=>
    obtain rfl:i=11:=by omega
    have hnx:=fun ty=>run_next_end (P:=Tryz.prog) w S 11 ty (by omega)
    go_wp2
    go_ret
    exact ⟨rfl,below_iter _ _ _⟩
   | succ g=>
    obtain ⟨x,hx,hx9⟩:=dig_byte i (by omega)
    have hi:i<S.size:=by omega
    have hxe:S[i]'hi=x:=by
     have h:=Lib.data_getElem? S i hi
     rw [show S.data.toList=digC by rw [HS.out],hx] at h
     exact (Option.some.inj h).symm
    have hnx:=fun ty=>run_next_ascii (P:=Tryz.prog) w S i ty hi (by rw [hxe];exact hx9)
    rw [hxe] at hnx
    have hxn:((x.toNat:Int) == 65533)=false:=by rw [beq_eq_false_iff_ne];omega
    have hxn2:¬ ((x.toNat:Int)=65533):=by omega
    clear hxe hx
    go_wp2
    go_roundg g
    case measure=>omega
    case rel=>exact ⟨i+1,by omega,rfl⟩
 ·have hcI:((c:Int) == 65533)=false:=by rw [beq_eq_false_iff_ne];omega
  have hcI2:¬ ((c:Int)=65533):=by omega
  have hval:Utf8.valid (c:Int)=true:=by
   unfold Utf8.valid
   simp only [Bool.or_eq_true,Bool.and_eq_true,decide_eq_true_eq]
   omega
  obtain ⟨e1,e2,e3⟩:=encode_facts (c:Int) hval (by omega)
  obtain ⟨E,hE⟩:∃ E,E=Utf8.encode (c:Int):=⟨_,rfl⟩
  rw [← hE] at e1 e2 e3
  obtain ⟨l,hl⟩:∃ l,E.size=l+1:=⟨E.size-1,by omega⟩
  have hl1:1≤l:=by omega
  have hl3:l≤3:=by omega
  obtain ⟨b,hb⟩:∃ b:UInt8,E[l]'(by omega)=b:=⟨_,rfl⟩
  have hb9:128≤b.toNat:=by
   rw [← hb]
   have h:=e3 (by omega)
   simp only [hl,Nat.add_sub_cancel] at h
   exact h
  have hbE:∀ h',E[l]'h'=b:=fun _=>hb
  obtain ⟨x,hx,hx9⟩:=dig_byte l (by omega)
  have hli:l<S.size:=by omega
  have hxS:∀ h',S[l]'h'=x:=fun h'=>by
   have h:=Lib.data_getElem? S l h'
   rw [show S.data.toList=digC by rw [HS.out],hx] at h
   exact (Option.some.inj h).symm
  have hne:((x.toNat:Int) == (b.toNat:Int))=false:=by rw [beq_eq_false_iff_ne];omega
  have hne2:¬ ((x.toNat:Int)=(b.toNat:Int)):=by omega
  obtain ⟨T,hT⟩:∃ T,T=S.extract (l+1) 11:=⟨_,rfl⟩
  have hTl:T.data.toList=digC.drop (l+1):=by
   rw [hT,HS.out,Lib.extract_mk]
   show ((digC.drop (l+1)).take (11-(l+1)))=_
   rw [List.take_of_length_le (by rw [List.length_drop];show 11-(l+1)≤11-(l+1);omega)]
  have hidx:Lib.indexByte T.data.toList b = -1:=by
   have h1:=Lib.contains_iff_indexByte T.data.toList b
   have h2:=Lib.indexByte_ge T.data.toList b
   have h3:T.data.toList.contains b=false:=by
    rw [← Bool.not_eq_true,List.contains_iff_mem,hTl]
    intro hm
    have h4:∀ y∈digC,y.toNat<128:=by decide
    have:=h4 b (List.mem_of_mem_drop hm)
    omega
   rw [h3] at h1
   have:=of_decide_eq_false h1.symm
   omega
  have HIB:=hid (fun u=>(show Calls Tryz.prog 88 #[.string T,.int .u8 (b.toNat:Nat)] u fun e u'=>e=.returned (.int .i64 (-1))∧u'=u from by
   have h:=Tryz.strings_IndexByte T (b.toNat:Nat) u
   rw [show (((b.toNat:Nat):Int)).toNat.toUInt8=b by simp,hidx] at h
   exact h))
  have HVR:=hid (fun u=>(show Calls Tryz.prog 196 #[.int .i32 (c:Nat)] u fun e u'=>e=.returned (.bool true)∧u'=u from by
   have h:=Tryz.utf8_ValidRune (c:Int) u
   have hv2:Lib.validRune (c:Int)=true:=by
    unfold Lib.validRune
    simp only [decide_eq_true_eq]
    omega
   rw [hv2] at h
   exact h))
  have hE2:Utf8.encode (c:Int)=E:=hE.symm
  have hT2:S.extract (l+1) 11=T:=hT.symm
  have hbne:((x.toNat:Int) != (b.toNat:Int))=true:=by rw [bne_iff_ne];omega
  have hl11:(l:Int)<11:=by omega
  have hl0:(0:Int)≤(l:Int):=by omega
  have hl1I:(l:Int)+1≤11:=by omega
  have hcv:∀ u,(convert 21 9 (.int .i32 (c:Nat))).run Tryz.prog u=.ok (.string E) u:=fun u=>by
   rw [run_convert_int_string u _ _ _ _ (by rw [Tryz.underlying21];rfl) Tryz.underlying9,hE2]
  clear hE hT hTl hidx hval e1 e2 e3 hb hx
  go_enter Tryz.func164,Tryz.ntmps164
  go_wp2_with (go_at_call 196;(with_reducible refine (HVR.out _).mono ?_);rintro e w1 ⟨rfl,hw1⟩;replace hw1:=hw1.symm;subst hw1)
  go_step3
  go_wp2_with fail
  go_loopg [9,10] 0 (fun k iv fv wr=>iv=.int .i64 (l:Nat)∧fv=.int .i64 0∧wr=w∧k=0)
  case atStart=>exact ⟨rfl,rfl,rfl,rfl⟩
  case round=>
   obtain ⟨rfl,rfl,hw2,rfl⟩:=hrel
   subst hw2
   go_wp2
   go_step3
   go_wp2
   go_quiet (fail)
   obtain ⟨W7,hW7⟩:∃ W7,W7=wr.drewN nq:=⟨_,rfl⟩
   have HB7:=hid (show Below wr.heap.size wr W7 from by rw [hW7];exact ⟨rfl,rfl,rfl,Nat.le_refl _,fun _ _=>rfl⟩)
   rw [← hW7]
   clear hW7
   go_wp2
   go_quiet ((go_at_call 88;exact Calls.quiet_of_same (HIB.out _)))
   have HB8:=hid (show Below wr.heap.size wr (W7.drewN nq) from HB7.out.trans ⟨rfl,rfl,rfl,Nat.le_refl _,fun _ _=>rfl⟩)
   go_wp2
   rw [Exit.noGoto_ret]
   simp only [Exit.inBlock,Exit.then]
   rw [Exit.noGoto_ret]
   go_ret
   exact ⟨rfl,HB8.out⟩
end Go.Proofs.YtbilphfbfnohmaaGreatDoor.Pz
namespace Go.Proofs.YtbilphfbfnohmaaGreatDoor.Pz
open Go.RowKit
theorem next_at {P:Program} {W:World} {s:ByteArray} {g pos c k:Nat} (ty:TypeId) (hg:W.heap[g]? = some (.stringIter s pos)) (h:pos<s.size) (hd:Utf8.decode s pos=(c,k)) :
  (Instr.next (.pointer (some ⟨g,0,none⟩)) true ty).run P W=.ok (.tuple #[.bool true,.int .i64 pos,.int .i32 (c:Nat)]) (W.putObj g (.stringIter s (pos+k))):=by
 simp only [Instr.next,getObj,setObj,Sem.run_bind,Sem.run,hg,Result.andThen,h,if_true,hd]
 simp [goInt,World.putObj]
theorem next_done {P:Program} {W:World} {s:ByteArray} {g pos:Nat} (ty:TypeId) (hg:W.heap[g]? = some (.stringIter s pos)) (h:¬ pos<s.size) :
  (Instr.next (.pointer (some ⟨g,0,none⟩)) true ty).run P W=.ok (.tuple #[.bool false]) W:=by
 simp [Instr.next,getObj,Sem.run,hg,h]
theorem useSet_fn (n:Int) (w:World):Calls Tryz.prog 165 #[.int .i64 n] w fun e w'=>e=.returned (.bool (decide (8<n)))∧w'=w:=by
 go_enter Tryz.func165,Tryz.ntmps165
 go_wp2
 go_ret
 exact ⟨rfl,rfl⟩
theorem digC_ascii:∀ y∈digC,y.toNat<128:=by decide
theorem noAny_skip {s:Str} {i k:Nat} (h:Lib.NoAny s digC i) (hk:∀ j (hj:j<s.length),i≤j→j<i+k→128≤s[j].toNat):Lib.NoAny s digC (i+k):=by
 induction k with
 | zero=>exact h
 | succ k ih=>
  have h1:=ih fun j hj h1 h2=>hk j hj h1 (by omega)
  by_cases hl:i+k<s.length
  ·refine Lib.NoAny.succ h1 (List.getElem?_eq_getElem hl) ?_
   rw [← Bool.not_eq_true,List.contains_iff_mem]
   intro hm
   have h2:=digC_ascii _ hm
   have h3:=hk (i+k) hl (by omega) (by omega)
   omega
  ·intro j b hj hb
   have h4:j<i+k:=by
    have:=(List.getElem?_eq_some_iff.1 hb).1
    omega
   exact h1 j b h4 hb
set_option maxRecDepth 1000000 in
set_option maxHeartbeats 8000000 in
theorem indexAny_short (s:Str) (h8:s.length≤8) (w:World) :
    Calls Tryz.prog 120 #[.string ⟨s.toArray⟩,.string ⟨digC.toArray⟩] w fun e w'=>e=.returned (.int .i64 (Lib.indexAny s digC))∧Below w.heap.size w w':=by
  obtain ⟨S,hS⟩:∃ S:ByteArray,S=⟨s.toArray⟩:=⟨_,rfl⟩
  obtain ⟨D,hD⟩:∃ D:ByteArray,D=⟨digC.toArray⟩:=⟨_,rfl⟩
  have hSz:S.size=s.length:=by rw [hS];exact Lib.size_mk _
  have hDz:D.size=11:=by rw [hD];rfl
  have hemp:D.toList.isEmpty=false:=by rw [hD,Lib.toList_data];rfl
  have HIR:=hid (fun (b:UInt8) (hb:b.toNat<128) (u:World)=>(show Calls Tryz.prog 164 #[.string D,.int .i32 (b.toNat:Nat)] u fun e u'=>e=.returned (.int .i64 (Lib.indexByte digC b))∧u'=u from by
    have h:=Tryz.strings_IndexRune_ascii D (b.toNat:Nat) u (by omega) (by omega)
    rw [show (((b.toNat:Nat):Int)).toNat.toUInt8=b by simp,show D.data.toList=digC by rw [hD]] at h
    exact h))
  have HIN:=hid (fun (c:Nat) (h0:128≤c) (h9:c≤1114111) (hv:c<55296∨57344≤c) (u:World)=>(show Calls Tryz.prog 164 #[.string D,.int .i32 (c:Nat)] u fun e u'=>e=.returned (.int .i64 (-1))∧Below u.heap.size u u' from by rw [hD];exact indexRune_none c h0 h9 hv u))
  have HUS:=hid (fun u=>useSet_fn (s.length:Nat) u)
  have h8z:decide ((8:Int)<(s.length:Int))=false:=decide_eq_false (by omega)
  rw [← hS,← hD]
  have HS:=hid hS
  clear hS hD
  obtain ⟨g,hg⟩:∃ g,g=w.heap.size:=⟨_,rfl⟩
  have HG:=hid hg
  go_enter Tryz.func120,Tryz.ntmps120
  go_wp2_with (go_at_call 165;(with_reducible refine (HUS.out _).mono ?_);rintro e w1 ⟨rfl,hw1⟩;replace hw1:=hw1.symm;subst hw1;rw [h8z])
  have hit0:(w.iter S 0).heap[g]? = some (.stringIter S 0):=by rw [hg];exact World.iter_heap _ _ _
  have HIT0:=hid hit0
  have HB0:=hid (show Below g w (w.iter S 0) by rw [hg];exact below_iter _ _ _)
  rw [← hg]
  clear hit0 hg
  go_loopg [9,10] s.length (fun z _ _ wr=>∃ i:Nat,i≤s.length∧wr.heap[g]? = some (.stringIter S i)∧Below g w wr∧Lib.NoAny s digC i∧z=s.length-i)
  case atStart=>exact ⟨0,Nat.zero_le _,HIT0.out,HB0.out,Lib.NoAny.zero _ _,rfl⟩
  case round=>
    obtain ⟨i,hi,hit,hbl,hno,rfl⟩:=hrel
    have HBL:=hid hbl
    have HNO:=hid hno
    have hgl:=(Array.getElem?_eq_some_iff.1 hit).1
    by_cases hil:i<s.length
    · have hiS:i<S.size:=by omega
      obtain ⟨x,hx⟩:∃ x,s[i]=x:=⟨_,rfl⟩
      have hxl:s[i]? = some x:=by rw [← hx];exact List.getElem?_eq_getElem hil
      by_cases ha:x.toNat<128
      · have hSi : S[i]'hiS = x := by
          have h:=Lib.data_getElem? S i hiS
          rw [show S.data.toList=s by rw [HS.out],hxl] at h
          exact (Option.some.inj h).symm
        have hd:=decode_ascii S i hiS (by rw [hSi];exact ha)
        rw [hSi] at hd
        have hnx:=fun ty=>next_at (P:=Tryz.prog) ty hit hiS hd
        obtain ⟨w2,hw2⟩:∃ w2,w2=wr.putObj g (.stringIter S (i+1)):=⟨_,rfl⟩
        rw [← hw2] at hnx
        have hit2:w2.heap[g]? = some (.stringIter S (i+1)):=by rw [hw2];exact World.putObj_heap_same hgl
        have hbl2:Below g w w2:=by rw [hw2];exact hbl.trans ⟨rfl,rfl,rfl,by rw [World.putObj_size];exact Nat.le_refl _,fun k hk=>World.putObj_heap_other (by omega)⟩
        have HIT2:=hid hit2
        have HBL2:=hid hbl2
        have HRU:=hid (HIR.out x ha w2)
        have hcon:=Lib.contains_iff_indexByte digC x
        have HXL:=hid hxl
        have hkk:s.length-(i+1)<s.length-i:=by omega
        clear hit hbl hno hw2 hit2 hbl2 hd hSi hx hxl
        cases hin:digC.contains x with
        | false=>
          rw [hin] at hcon
          have hlt:¬ ((0:Int)≤Lib.indexByte digC x):=of_decide_eq_false hcon.symm
          have HNO2:=hid (Lib.NoAny.succ HNO.out HXL.out hin)
          clear hcon
          go_wp2_with (go_at_call 164;(with_reducible refine HRU.out.mono ?_);rintro e w3 ⟨rfl,hw3⟩;replace hw3:=hw3.symm;subst hw3)
          go_roundg (s.length-(i+1))
          case measure=>exact hkk
          case rel=>exact ⟨i+1,by omega,HIT2.out,HBL2.out,HNO2.out,rfl⟩
        | true=>
          rw [hin] at hcon
          have hge:(0:Int)≤Lib.indexByte digC x:=of_decide_eq_true hcon.symm
          have HE:=hid (Lib.indexAny_hit HNO.out HXL.out hin)
          clear hcon
          go_wp2_with (go_at_call 164;(with_reducible refine HRU.out.mono ?_);rintro e w3 ⟨rfl,hw3⟩;replace hw3:=hw3.symm;subst hw3)
          go_ret
          exact ⟨by rw [HE.out];rfl,by rw [← HG.out];exact HBL2.out⟩
      · obtain ⟨c,k,hd,f1,f2,f3,f4,f5,f6⟩:=rune_at s i hil (by rw [hx];omega)
        rw [← HS.out] at hd
        have hnx:=fun ty=>next_at (P:=Tryz.prog) ty hit hiS hd
        obtain ⟨w2,hw2⟩:∃ w2,w2=wr.putObj g (.stringIter S (i+k)):=⟨_,rfl⟩
        rw [← hw2] at hnx
        have hit2:w2.heap[g]? = some (.stringIter S (i+k)):=by rw [hw2];exact World.putObj_heap_same hgl
        have hbl2:Below g w w2:=by rw [hw2];exact hbl.trans ⟨rfl,rfl,rfl,by rw [World.putObj_size];exact Nat.le_refl _,fun k hk=>World.putObj_heap_other (by omega)⟩
        have hgl2:g<w2.heap.size:=(Array.getElem?_eq_some_iff.1 hit2).1
        have HIT2:=hid hit2
        have HBL2:=hid hbl2
        have HGL2:=hid hgl2
        have HRU:=hid (HIN.out c f1 f2 f3 w2)
        have HNO2:=hid (noAny_skip HNO.out f6)
        have hkk:s.length-(i+k)<s.length-i:=by omega
        clear hit hbl hno hw2 hit2 hbl2 hd hx hxl f6 hgl2
        go_wp2_with (go_at_call 164;(with_reducible refine HRU.out.mono ?_);rintro e w3 ⟨rfl,hb3⟩;have HB3:=hid hb3;clear hb3)
        go_roundg (s.length-(i+k))
        case measure=>exact hkk
        case rel=>exact ⟨i+k,by omega,(HB3.out.block _ HGL2.out).trans HIT2.out,HBL2.out.trans (HB3.out.mono (Nat.le_of_lt HGL2.out)),HNO2.out,rfl⟩
    · have hnx:=fun ty=>next_done (P:=Tryz.prog) ty hit (by omega)
      have HE := hid (Lib.indexAny_none (s := s) (chars := digC) (by have : i = s.length := by omega
                                                                     rw [← this]; exact hno))
      clear hit hbl hno
      go_wp2
      go_ret
      exact ⟨by rw [HE.out];rfl,by rw [← HG.out];exact HBL.out⟩
set_option maxRecDepth 1000000 in
theorem zero256 (w:World):(zeroValue 187).run Tryz.prog w=.ok (.agg (Array.replicate 256 (.bool false))) w:=
 (zero_of_info (P:=Tryz.prog) (show (Tryz.prog.info? 187).map (fun i=>(i.zero,i.size))=some (some (.agg (Array.replicate 256 (.bool false))),256) by kernel_rfl)).1 w
set_option maxRecDepth 1000000 in
theorem containsAny_fn (s:Str) (hs:s.length≤100000) (w:World) :
  Calls Tryz.prog 70 #[.string ⟨s.toArray⟩,.string ⟨digC.toArray⟩] w fun e w'=>e=.returned (.bool (decide (0≤Lib.indexAny s digC)))∧Below w.heap.size w w':=by
 have HI:=hid (show Calls Tryz.prog 120 #[.string ⟨s.toArray⟩,.string ⟨digC.toArray⟩] w fun e w'=>e=.returned (.int .i64 (Lib.indexAny s digC))∧Below w.heap.size w w' from by
  by_cases h8:s.length≤8
  ·exact indexAny_short s h8 w
  ·refine (Tryz.strings_IndexAny_long zero256 ⟨s.toArray⟩ ⟨digC.toArray⟩ w (by show 2≤11;omega) (by rw [Lib.size_mk];omega) (by rw [Lib.size_mk];omega) (by show 11<4294967281;omega) (fun j b hj=>digC_ascii b (List.mem_of_getElem? hj))).mono ?_
   rintro e w1 ⟨rfl,rfl⟩
   exact ⟨rfl,(belowS _ _).trans ((belowS _ _).mono (by simp))⟩)
 go_enter Tryz.func70,Tryz.ntmps70
 go_wp2_with (go_at_call 120;(with_reducible refine HI.out.mono ?_);rintro e w1 ⟨rfl,hb1⟩;have HB1:=hid hb1;clear hb1)
 go_ret
 exact ⟨rfl,HB1.out⟩
end Go.Proofs.YtbilphfbfnohmaaGreatDoor.Pz
