/-
  Part K3 of the proofs of this seat, merged by a program out of 15 texts; remarks are struck.
-/
import Derived.Lib.TrimByte
import Derived.Shelf.Small.Strs
import Derived.Shelf.Strings.BuilderK
import Derived.Shelf.LaysM
import Derived.Test.YtbilphfbfnohmaaGreatDoorProg
import Derived.Below
import Derived.WalkKit
import Derived.WalkSpells
import Derived.WalkLawsBesides
import Derived.Lib.MinMax
import Derived.Lib.Strings
import Derived.Lib.Slices
import Derived.Laws.Strings3
import Derived.Lib.FrozenHead
import Derived.Lib.OthersKept
import Derived.Lib.MakeNoZero
import Derived.Laws.Externs
import Derived.Deep.LoopGhost
import Derived.Laws.EntriesVeiled
import Derived.BigQuiet
import Derived.OrdersHeld
import Derived.Deep.AppendLies
import Derived.Shelf.Strings.OnBuilder
import Derived.Shelf.Strings.Repeat
import Derived.Maps.AppendAt
import Derived.Laws.AppendOwnNone
import Derived.Laws.CopyOwn
import Derived.Laws.MakeOwn
import Derived.Deep.QuietTactic
import Derived.Shelf.Strings.Search3
import Derived.Test.YtbilphfbfnohmaaGreatDoorK0
namespace Go.Proofs.YtbilphfbfnohmaaGreatDoor.Pz
open Go
structure At (s l:Str) (i:Nat):Prop where
 len:i+l.length=s.length
 rest:s.drop i=l
theorem At.start (s:Str):At s s 0:=⟨by simp,rfl⟩
theorem At.app {s x r:Str} {i:Nat} (h:At s (x++r) i):At s r (i+x.length):=by
 refine ⟨by have:=h.len;simp at this;omega,?_⟩
 rw [← List.drop_drop,h.rest]
 simp
theorem At.tail {s t:Str} {c:UInt8} {i:Nat} (h:At s (c::t) i):At s t (i+1):=At.app (x:=[c]) h
theorem At.lt {s t:Str} {c:UInt8} {i:Nat} (h:At s (c::t) i):i<s.length:=by have:=h.len;simp at this;omega
theorem At.head {s t:Str} {c:UInt8} {i:Nat} (h:At s (c::t) i):s[i]? = some c:=by
 have h1:=h.rest
 have h2:(s.drop i)[0]? = some c:=by rw [h1];rfl
 rw [List.getElem?_drop] at h2
 simpa using h2
theorem At.nil_iff {s l:Str} {i:Nat} (h:At s l i):l=[]↔s.length≤i:=by
 have:=h.len
 constructor
 ·rintro rfl;simp at this;omega
 ·intro h'
  exact List.eq_nil_of_length_eq_zero (by omega)
theorem At.text {s x r:Str} {i:Nat} (h:At s (x++r) i):(⟨s.toArray⟩:ByteArray).extract i (i+x.length)=⟨x.toArray⟩:=by
 rw [Lib.extract_mk]
 have h1:(s.drop i).take x.length=x:=by rw [h.rest];simp
 have h2:(s.take (i+x.length)).drop i=x:=by
  rw [List.drop_take]
  rw [show i+x.length-i=x.length by omega]
  exact h1
 first
  | rw [h2]
  | (rw [show i+x.length-i=x.length by omega];rw [h1])
theorem At.all {s l:Str} {i:Nat} (h:At s l i):(⟨s.toArray⟩:ByteArray).extract i s.length=⟨l.toArray⟩:=by
 have h0:At s (l++[]) i:=by rw [List.append_nil];exact h
 rw [← h.len]
 exact h0.text
end Go.Proofs.YtbilphfbfnohmaaGreatDoor.Pz
namespace Go.Proofs.YtbilphfbfnohmaaGreatDoor.Pz
open Go.Shelf
def Tryz.lays169_ren:Go.Shelf.Ren:=⟨fun | 169=>52 | n=>n,fun | 70=>70 | 9=>9 | 0=>0 | 72=>73 | 37=>71 | 127=>132 | 3=>3 | 5=>5 | n=>n,fun | n=>n⟩
theorem Tryz.lays169:Go.Proofs.Lays.n169 Tryz.prog Tryz.lays169_ren:={
 mixed:=by kernel_rfl
 f169:=Tryz.func52.trans (congrArg some (by kernel_rfl))
 t0:=Tryz.underlying0
 a0:=Tryz.isAgg0
 z0:=Tryz.sizeOf0
 v0:=Tryz.zeroValue0
 t3:=Tryz.underlying3
 a3:=Tryz.isAgg3
 z3:=Tryz.sizeOf3
 v3:=Tryz.zeroValue3
 t9:=Tryz.underlying9
 a9:=Tryz.isAgg9
 z9:=Tryz.sizeOf9
 v9:=Tryz.zeroValue9
 t37:=Tryz.underlying71
 a37:=Tryz.isAgg71
 z37:=Tryz.sizeOf71
 v37:=Tryz.zeroValue71
 t70:=Tryz.underlying70
 a70:=Tryz.isAgg70
 z70:=Tryz.sizeOf70
 v70:=Tryz.zeroValue70
 t72:=Tryz.underlying73
 a72:=Tryz.isAgg73
 z72:=Tryz.sizeOf73
 v72:=Tryz.zeroValue73
 t127:=Tryz.underlying132
 a127:=Tryz.isAgg132
 z127:=Tryz.sizeOf132
 v127:=Tryz.zeroValue132 }
theorem Tryz.Builder_Extra_169:Builder.Extra Tryz.prog Tryz.lays169_ren:={
 sizeBuilder:=by kernel_rfl
 liesBuilder:=by kernel_rfl
 t5:=Tryz.underlying5
 a5:=Tryz.isAgg5
 z5:=Tryz.sizeOf5
 v5:=Tryz.zeroValue5
 infoByte:=by kernel_rfl
 cellsByte:=by kernel_rfl
 sizeByte:=by kernel_rfl
 neB5:=by decide }
open Go.RowKit in
theorem Tryz.Builder_String_any_k (B b:Nat) (l:List UInt8) (w:World) (h:Lib.IsBuilderF 73 5 B b (Lib.byteCells l) w) (hBw:B≤w.heap.size) :
  Calls Tryz.prog 52 #[.pointer (some ⟨b,0,none⟩)] w fun e w'=>e=.returned (.string ⟨l.toArray⟩)∧(Lib.IsBuilderF 73 5 B b (Lib.byteCells l) w'∧Below B w w'∧Lib.OthersKept 5 (some b) w w'):=Any.Builder_String_any_k Tryz.lays169 Tryz.Builder_Extra_169 B b l w h hBw
def Tryz.lays137_ren:Go.Shelf.Ren:=⟨fun | 137=>88 | 217=>138 | 266=>186 | n=>n,fun | 9=>9 | 5=>5 | 3=>3 | n=>n,fun | n=>n⟩
theorem Tryz.lays137:Go.Proofs.Lays.n137 Tryz.prog Tryz.lays137_ren:={
 mixed:=by kernel_rfl
 f137:=Tryz.func88.trans (congrArg some (by kernel_rfl))
 f217:=Tryz.func138.trans (congrArg some (by kernel_rfl))
 f266:=Tryz.func186.trans (congrArg some (by kernel_rfl))
 t3:=Tryz.underlying3
 a3:=Tryz.isAgg3
 z3:=Tryz.sizeOf3
 v3:=Tryz.zeroValue3
 t5:=Tryz.underlying5
 a5:=Tryz.isAgg5
 z5:=Tryz.sizeOf5
 v5:=Tryz.zeroValue5
 t9:=Tryz.underlying9
 a9:=Tryz.isAgg9
 z9:=Tryz.sizeOf9
 v9:=Tryz.zeroValue9 }
open Go.RowKit in
theorem Tryz.strings_IndexByte (s:ByteArray) (c:Int) (w:World) :
  Calls Tryz.prog 88 #[.string s,.int .u8 c] w fun e w'=>e=.returned (.int .i64 (Lib.indexByte s.data.toList c.toNat.toUInt8))∧w'=w:=Any.strings_IndexByte Tryz.lays137 s c w
end Go.Proofs.YtbilphfbfnohmaaGreatDoor.Pz
namespace Go.Proofs.YtbilphfbfnohmaaGreatDoor.Pz
open Go.RowKit
theorem hid {p:Prop} (h:p):Hid p:=h
theorem white_nat (c:UInt8):white c=((decide (9≤c.toNat) && decide (c.toNat≤13)) || decide (c.toNat=32)):=by
 unfold white
 rw [Bool.eq_iff_iff]
 simp [UInt8.le_iff_toNat_le,← UInt8.toNat_inj]
theorem white_fn (c:UInt8) (w:World):Calls Tryz.prog 95 #[.int .u8 c.toNat] w fun e w'=>e=.returned (.bool (white c))∧w'=w:=by
 have hW:=hid (white_nat c)
 have hl:c.toNat<256:=c.toNat_lt
 generalize white c=W at hW ⊢
 generalize c.toNat=x at hl hW ⊢
 go_enter Tryz.func95,Tryz.ntmps95
 by_cases h1:9≤x
 ·by_cases h2:x≤13
  ·go_wp2
   go_ret
   exact ⟨by rw [hW.out,decide_eq_true h1,decide_eq_true h2];rfl,rfl⟩
  ·have h2':¬ (x:Int)≤13:=by omega
   by_cases h3:x=32
   ·subst h3
    go_wp2
    go_ret
    exact ⟨by rw [hW.out];rfl,rfl⟩
   ·have h4:((x:Int) == 32)=false:=by simp;omega
    go_wp2
    go_ret
    refine ⟨?_,rfl⟩
    rw [hW.out,decide_eq_false h2,decide_eq_false h3]
    simp
 ·go_wp2
  go_ret
  refine ⟨?_,rfl⟩
  rw [hW.out,decide_eq_false h1]
  have h3:¬ x=32:=by omega
  have:¬ (x:Int)=32:=by omega
  simp [this,h3]
theorem byte_ne {d k:UInt8} (n:Int) (h:d≠k) (hn:n=(k.toNat:Int)):((d.toNat:Int) == n)=false:=by
 subst hn
 rw [beq_eq_false_iff_ne]
 intro e
 exact h (UInt8.toNat_inj.1 (by omega))
theorem byte_ne' {d k:UInt8} (n:Int) (h:d≠k) (hn:n=(k.toNat:Int)):((d.toNat:Int) != n)=true:=by
 rw [bne,byte_ne n h hn]
 rfl
end Go.Proofs.YtbilphfbfnohmaaGreatDoor.Pz
namespace Go.Proofs.YtbilphfbfnohmaaGreatDoor.Pz
open Go.RowKit
def Bld (w:World) (b:Nat) (l:Str):Prop:=Lib.IsBuilderF 73 5 b b (Lib.byteCells l) w
def Kept (b:Nat) (w w':World):Prop:=Below b w w'∧Lib.OthersKept 5 (some b) w w'
theorem Kept.refl (b:Nat) (w:World):Kept b w w:=⟨Below.refl _ _,Lib.OthersKept.refl _ _ _⟩
theorem Kept.trans {b:Nat} {x y z:World} (h:Kept b x y) (k:Kept b y z):Kept b x z:=⟨h.1.trans k.1,h.2.trans k.2⟩
theorem Bld.at {w:World} {b:Nat} {l:Str} (h:Bld w b l):∃ p,(p=.pointer none∨p=.pointer (some ⟨b,0,none⟩))∧Lib.BuilderAtF 73 5 b b p (Lib.byteCells l) w:=by
 rcases h with h | h
 ·exact ⟨_,.inl rfl,h⟩
 ·exact ⟨_,.inr rfl,h⟩
theorem Bld.lt {w:World} {b:Nat} {l:Str} (h:Bld w b l):b<w.heap.size:=by
 obtain ⟨p,_,h⟩:=h.at
 exact h.lt
theorem Bld.new (w:World):Bld (w.alloc (.cells #[.pointer none,.slice none 0 0] 73)) w.heap.size []:=Lib.IsBuilderF.of (Lib.fresh_isBuilder 73 5 w)
theorem Bld.of {w w':World} {b:Nat} {l:Str} (h:Bld w b l) (hk:∀ k,b≤k→k<w.heap.size→w'.heap[k]? = w.heap[k]?):Bld w' b l:=by
 have go:∀ p,Lib.BuilderAtF 73 5 b b p (Lib.byteCells l) w→Lib.BuilderAtF 73 5 b b p (Lib.byteCells l) w':=by
  intro p h
  have hlt:=h.lt
  obtain ⟨hB,v,hb,hown,hne⟩:=h
  refine ⟨hB,v,(hk b (Nat.le_refl _) hlt).trans hb,⟨hown.1,?_⟩,hne⟩
  rcases hown.2 with hn | ⟨g,cap,cur,fz,hv,hbg,hg,rest⟩
  ·exact .inl hn
  ·exact .inr ⟨g,cap,cur,fz,hv,hbg,(hk g hbg (Array.getElem?_eq_some_iff.1 hg).1).trans hg,rest⟩
 exact h.elim (fun x=>.inl (go _ x)) (fun x=>.inr (go _ x))
theorem Tryz.infoB:(Tryz.prog.info? 73).map (·.size)=some 2:=by kernel_rfl
theorem Tryz.liesB:liesAt Tryz.prog Tryz.prog.depth 73 (2 / Tryz.prog.cellsOf 73) 0 73 1=true:=by kernel_rfl
theorem Tryz.info5:(Tryz.prog.info? 5).map (fun i=>(i.zero,i.size,i.bytes))=some (some (.int .u8 0),1,1):=by kernel_rfl
set_option maxRecDepth 100000 in
set_option maxHeartbeats 1000000 in
theorem copyCheck_fn {w:World} {b:Nat} {l:Str} (h:Bld w b l) :
  Calls Tryz.prog 91 #[.pointer (some ⟨b,0,none⟩)] w fun e w'=>e=.returned (.tuple #[])∧Lib.BuilderAtF 73 5 b b (.pointer (some ⟨b,0,none⟩)) (Lib.byteCells l) w'∧Kept b w w':=by
 obtain ⟨j,hj,hjs⟩:=Option.map_eq_some_iff.1 Tryz.infoB
 rcases h with h | h
 ·have h0:=h.cell0
  have hsh:=h.shape
  have hfz:=h.frozen0
  have H:=hid h
  clear h
  go_enter Tryz.func91,Tryz.ntmps91
  go_wp2
  rw [Lib.run_to_unsafe w ⟨b,0,none⟩ Tryz.underlying70 Tryz.underlying171 hj (by rw [hjs];decide) hsh (Nat.zero_lt_succ 1)]
  simp only [Result.andThen]
  rw [Oper.upon_value]
  go_wp2
  rw [run_callFunc_extern Tryz.func144 (by kernel_rfl) (by kernel_rfl) (by kernel_rfl) (e:=Extern.AbiNoEscape.same) (by kernel_rfl)]
  rw [Lib.run_noEscape]
  simp only [Result.andThen]
  rw [Oper.upon_value]
  go_wp2
  rw [Lib.run_from_unsafe w ⟨b,0,none⟩ Tryz.underlying171 Tryz.underlying70 hj hsh Tryz.liesB]
  simp only [Result.andThen]
  rw [Oper.upon_value]
  go_wp2
  go_end0
  exact ⟨rfl,H.out.used _,(Below.refl b w).setCell (p:=⟨b,0,none⟩) (Nat.le_refl _) _,(Lib.OthersKept.refl _ _ w).setCell ⟨b,0,none⟩ rfl _⟩
 ·have h0:=h.cell0
  have H:=hid h
  clear h
  go_enter Tryz.func91,Tryz.ntmps91
  go_wp2
  rw [Lib.run_neq_ptr_same w _ Tryz.underlying70 hj]
  go_wp2
  go_end0
  exact ⟨rfl,H.out,Kept.refl _ _⟩
set_option maxRecDepth 100000 in
set_option maxHeartbeats 2000000 in
theorem wbyte_fn {w:World} {b:Nat} {l:Str} (h:Bld w b l) (c:UInt8) (hl:l.length≤1000000000) :
  Calls Tryz.prog 49 #[.pointer (some ⟨b,0,none⟩),.int .u8 c.toNat] w fun e w'=>e=.returned .nilIface∧Bld w' b (l++[c])∧Kept b w w':=by
 obtain ⟨i0,hi,hz0,hz1,hz2⟩:=info_parts Tryz.info5
 have hc:=hid (copyCheck_fn h)
 have hwb:=h.lt
 have hcell:Lib.byteCells (l++[c])=Lib.byteCells l++[.int .u8 c.toNat]:=by simp [Lib.byteCells]
 have HC:=hid hcell
 clear h hcell
 generalize hx:(c.toNat:Int)=x at *
 clear hx
 go_enter Tryz.func49,Tryz.ntmps49
 go_wp2_with fail
 (with_reducible refine hc.out.mono ?_)
 rintro e w1 ⟨rfl,⟨hB,v,hbk,hown,hne⟩,hb1,hk1⟩
 rw [Lib.byteCells_length] at hown
 have c0:w1.cell? ⟨b,0,none⟩=some (.pointer (some ⟨b,0,none⟩)):=by rw [Lib.cell_of_heap hbk];rfl
 have c1:w1.cell? ⟨b,1,none⟩=some v:=by rw [Lib.cell_of_heap hbk];rfl
 go_wp2_with (at_builtin;refine wpList_append_ownF _ rfl _ _ 71 rfl b 5 i0 (.int .u8 0) 1 1 Tryz.underlying71 hi hz0 hz1 hz2 rfl (by decide) _ _ _ rfl (hown.alloc _) ⟨w1.heap.size,0,none⟩ 1 1 [.int .u8 x] rfl rfl ?c1 ?c2 ?c3 ?c4 ?c5 ?_)
 case c1=>
  intro j u hj
  match j,hj with
  | 0,hj=>simp at hj;subst hj;simp [Addr.add]
 case c2=>intro u hu;simp at hu;subst hu;rfl
 case c3=>unfold maxLen;omega
 case c4=>omega
 case c5=>have:=hb1.size;simp;omega
 intro v' w2 hown' hgrow _
 have hlt:b<w1.heap.size:=by have:=hb1.size;omega
 have hb2:w2.heap[b]? = some (.cells #[.pointer (some ⟨b,0,none⟩),v] 73 (0,0)):=by
  rw [hgrow.block b (by simp;omega) (fun e=>hne e.symm),Lib.alloc_old w1 _ b hlt]
  exact hbk
 have d0:w2.cell? ⟨b,0,none⟩=some (.pointer (some ⟨b,0,none⟩)):=by rw [Lib.cell_of_heap hb2];rfl
 have d1:w2.cell? ⟨b,1,none⟩=some v:=by rw [Lib.cell_of_heap hb2];rfl
 have f1:w2.frozen? ⟨b,1,none⟩=false:=Lib.frozen_of_heap hb2 1
 obtain ⟨g,cap,rfl⟩:∃ g cap,v'=.slice (some ⟨g,0,none⟩) (l.length+1) cap:=by
  rcases hown'.2 with ⟨_,h0⟩ | ⟨g,cap,cur,fz,hv,_⟩
  ·omega
  ·exact ⟨g,cap,hv⟩
 go_wp2
 go_ret
 refine ⟨rfl,?_,?_,((hk1.alloc _).grown hgrow (Lib.ownsRowF_kind (hown.alloc _))).setCell ⟨b,1,none⟩ rfl _⟩
 ·refine .inr ?_
  rw [HC.out]
  exact Lib.BuilderAtF.put (T:=73) (e:=5) hB hb2 (bs':=Lib.byteCells l++[.int .u8 x]) (by simpa [Lib.byteCells_length] using hown') (by decide)
 ·exact ((hb1.alloc (by have:=hb1.size;omega) _).grown hgrow (by have:=hb1.size;simp;omega) (fun k hk=>(hown.lt k hk).1)).setCell (p:=⟨b,1,none⟩) hB _
set_option maxRecDepth 100000 in
set_option maxHeartbeats 2000000 in
theorem wstr_fn {w:World} {b:Nat} {l:Str} (h:Bld w b l) (x:Str) (hl:l.length+x.length≤1000000000) :
  Calls Tryz.prog 48 #[.pointer (some ⟨b,0,none⟩),.string ⟨x.toArray⟩] w fun e w'=>e=.returned (.tuple #[.int .i64 (x.length:Nat),.nilIface])∧Bld w' b (l++x)∧Kept b w w':=by
 obtain ⟨i0,hi,hz0,hz1,hz2⟩:=info_parts Tryz.info5
 have hc:=hid (copyCheck_fn h)
 have hwb:=h.lt
 have hsz:(⟨x.toArray⟩:ByteArray).size=x.length:=Lib.size_mk _
 clear h
 go_enter Tryz.func48,Tryz.ntmps48
 go_wp2_with fail
 (with_reducible refine hc.out.mono ?_)
 rintro e w1 ⟨rfl,⟨hB,v,hbk,hown,hne⟩,hb1,hk1⟩
 rw [Lib.byteCells_length] at hown
 have c0:w1.cell? ⟨b,0,none⟩=some (.pointer (some ⟨b,0,none⟩)):=by rw [Lib.cell_of_heap hbk];rfl
 have c1:w1.cell? ⟨b,1,none⟩=some v:=by rw [Lib.cell_of_heap hbk];rfl
 go_wp2_with (at_builtin;refine Lib.wpList_append_own_stringF _ rfl _ _ 71 9 rfl b 5 i0 Tryz.underlying71 Tryz.underlying9 hi hz0 hz1 hz2 _ _ _ rfl hown ⟨x.toArray⟩ rfl ?c3 ?c4 ?c5 ?_)
 case c3=>unfold maxLen;omega
 case c4=>omega
 case c5=>have:=hb1.size;omega
 intro v' w2 hown' hgrow _
 have hlt:b<w1.heap.size:=by have:=hb1.size;omega
 have hb2:w2.heap[b]? = some (.cells #[.pointer (some ⟨b,0,none⟩),v] 73 (0,0)):=by
  rw [hgrow.block b hlt (fun e=>hne e.symm)]
  exact hbk
 have d0:w2.cell? ⟨b,0,none⟩=some (.pointer (some ⟨b,0,none⟩)):=by rw [Lib.cell_of_heap hb2];rfl
 have d1:w2.cell? ⟨b,1,none⟩=some v:=by rw [Lib.cell_of_heap hb2];rfl
 have f1:w2.frozen? ⟨b,1,none⟩=false:=Lib.frozen_of_heap hb2 1
 obtain ⟨ao,n',cap,rfl⟩:∃ ao n' cap,v'=.slice ao n' cap:=by
  rcases hown'.2 with ⟨hv,_⟩ | ⟨g,cap,cur,fz,hv,_⟩
  ·exact ⟨_,_,_,hv⟩
  ·exact ⟨_,_,_,hv⟩
 go_wp2
 go_ret2
 refine ⟨rfl,?_,?_,(hk1.grown hgrow (Lib.ownsRowF_kind hown)).setCell ⟨b,1,none⟩ rfl _⟩
 ·refine .inr ?_
  rw [Lib.byteCells_append]
  refine Lib.BuilderAtF.put (T:=73) (e:=5) hB hb2 (bs':=Lib.byteCells l++Lib.byteCells x) ?_ (by decide)
  rw [List.length_append,Lib.byteCells_length,Lib.byteCells_length]
  exact hown'
 ·exact (hb1.grown hgrow (by have:=hb1.size;omega) (fun k hk=>(hown.lt k hk).1)).setCell (p:=⟨b,1,none⟩) hB _
theorem str_fn {w:World} {b:Nat} {l:Str} (h:Bld w b l) :
  Calls Tryz.prog 52 #[.pointer (some ⟨b,0,none⟩)] w fun e w'=>e=.returned (.string ⟨l.toArray⟩)∧Bld w' b l∧Kept b w w':=
 (Tryz.Builder_String_any_k b b l w h (Nat.le_of_lt h.lt)).mono fun _ _ ⟨a,b,c,d⟩=>⟨a,b,c,d⟩
end Go.Proofs.YtbilphfbfnohmaaGreatDoor.Pz
namespace Go.Proofs.YtbilphfbfnohmaaGreatDoor.Pz
open Go.RowKit
theorem At.byte {s t:Str} {c:UInt8} {i:Nat} (h:At s (c::t) i):∀ h',(⟨s.toArray⟩:ByteArray)[i]'h'=c:=by
 intro h'
 have h1:=h.head
 have h2:=h.lt
 rw [List.getElem?_eq_getElem h2] at h1
 exact Option.some.inj h1
theorem Bld.below {w w':World} {b:Nat} {l:Str} (h:Bld w b l) (hb:Below w.heap.size w w'):Bld w' b l:=h.of fun k _ hk=>hb.block k hk
end Go.Proofs.YtbilphfbfnohmaaGreatDoor.Pz
namespace Go.Proofs.YtbilphfbfnohmaaGreatDoor.Pz
open Go.RowKit
section
variable {P:Program} {ops:Array Oper} {Q:Exit→Act→World→Prop} {md:Region.Mode} {S:World→Prop} {late:Nat→Bool}
def anyU (P:Program) (md:Region.Mode) (ops:Array Oper) (Q:Exit→Act→World→Prop) (late:Nat→Bool) (S:World→Prop):Nat→Array Bool→Act→World→Prop
 | 0,listed,a,w=>Region.ready md ops listed=[]∧Q .normal a w
 | fuel+1,listed,a,w=>(Region.ready md ops listed=[]→Q .normal a w)∧
   ∀ i∈Region.ready md ops listed,wpOp P ops Q i (fun b u=>(late i=true∨S u)∧anyU P md ops Q late S fuel (listed.setIfInBounds i true) b u) a w
theorem any_of_U:∀ (fuel:Nat) (listed:Array Bool) (a:Act) (w:World),anyU P md ops Q late S fuel listed a w→wpAny P md ops Q fuel listed a w
 | 0,_,_,_,h=>h
 | fuel+1,_,_,_,h=>⟨h.1,fun i hi=>wpOp_mono (fun b u k=>any_of_U fuel _ b u k.2) (h.2 i hi)⟩
theorem unlisted_of_ready {i:Nat} {listed:Array Bool} (h:i∈Region.ready md ops listed):listed.getD i false=false:=by
 have h0:=(mem_ready.1 h).1
 by_cases hlt:i<listed.size
 ·simp [hlt] at h0 ⊢;exact h0
 ·simp [Array.getElem?_eq_none (Nat.le_of_not_lt hlt)]
def Closed (md:Region.Mode) (ops:Array Oper) (listed:Array Bool):Prop:=∀ j oj,ops[j]? = some oj→listed.getD j false=true→∀ e∈oj.after,Region.binds md e=true→listed.getD e.on false=true
theorem Closed.add {j:Nat} {listed:Array Bool} (h:Closed md ops listed) (hj:j∈Region.ready md ops listed):Closed md ops (listed.setIfInBounds j true):=by
 obtain ⟨_,oj,hoj,hall⟩:=mem_ready.1 hj
 intro k ok hk hl e he hb
 apply getD_set_true
 rcases Nat.decEq j k with hjk | rfl
 ·rw [getD_set_ne false hjk] at hl
  exact h k ok hk hl e he hb
 ·have:=Option.some.inj (hoj.symm.trans hk)
  subst this
  exact hall e he hb
def closedB (md:Region.Mode) (ops:Array Oper) (listed:Array Bool):Bool:=(List.range ops.size).all fun j=>!listed.getD j false || ((ops[j]?).map fun o=>o.after.all fun e=>!Region.binds md e || listed.getD e.on false).getD true
theorem closedB_spec {listed:Array Bool} (h:closedB md ops listed=true):Closed md ops listed:=by
 intro j oj hj hl e he hb
 have h1:=List.all_eq_true.1 h j (List.mem_range.2 (Array.getElem?_eq_some_iff.1 hj).1)
 rw [hl,hj] at h1
 have h2:(oj.after.all fun e=>!Region.binds md e || listed.getD e.on false)=true:=h1
 have h3:=Array.all_eq_true_iff_forall_mem.1 h2 e he
 rw [hb] at h3
 exact h3
theorem U_begin {id:Nat} {a:Act} {w:World} (hm:P.follows .mixedOrders=true) (h:anyU P .any ops Q late S ops.size (Array.replicate ops.size false) a w.drew):(Code.region id ops true).wp P Q a w:=
 wp_region_any hm (any_of_U _ _ _ _ h)
theorem U_step {j:Nat} {o:Oper} {fuel:Nat} {listed:Array Bool} {a:Act} {w:World} (hr:Region.ready md ops listed=[j]) (ho:ops[j]? = some o)
  (h:∀ K:Act→World→Prop,Hid (∀ b u,(late j=true∨S u)→anyU P md ops Q late S fuel (listed.setIfInBounds j true) b u→K b u)→if Region.wanted o (yielded ops a.tmps)=true then Oper.wp P o a w K Q else K (a.put o.dst undef) w) :
  anyU P md ops Q late S (fuel+1) listed a w:=by
 refine ⟨fun h0=>(by rw [hr] at h0;cases h0),fun i hi=>?_⟩
 rw [hr] at hi
 obtain rfl:i=j:=by simpa using hi
 exact wpOp_step ho fun K hK=>h K fun b u h1 h2=>hK b u ⟨h1,h2⟩
theorem U_two {j1 j2:Nat} {o1 o2:Oper} {fuel:Nat} {listed:Array Bool} {a:Act} {w:World} (hr:Region.ready md ops listed=[j1,j2]) (ho1:ops[j1]? = some o1) (ho2:ops[j2]? = some o2)
  (h1:∀ K:Act→World→Prop,Hid (∀ b u,(late j1=true∨S u)→anyU P md ops Q late S fuel (listed.setIfInBounds j1 true) b u→K b u)→if Region.wanted o1 (yielded ops a.tmps)=true then Oper.wp P o1 a w K Q else K (a.put o1.dst undef) w)
  (h2:∀ K:Act→World→Prop,Hid (∀ b u,(late j2=true∨S u)→anyU P md ops Q late S fuel (listed.setIfInBounds j2 true) b u→K b u)→if Region.wanted o2 (yielded ops a.tmps)=true then Oper.wp P o2 a w K Q else K (a.put o2.dst undef) w) :
  anyU P md ops Q late S (fuel+1) listed a w:=by
 refine ⟨fun h0=>(by rw [hr] at h0;cases h0),fun i hi=>?_⟩
 rw [hr] at hi
 simp only [List.mem_cons,List.mem_nil_iff,or_false] at hi
 rcases hi with rfl | rfl
 ·exact wpOp_step ho1 fun K hK=>h1 K fun b u h1 h2=>hK b u ⟨h1,h2⟩
 ·exact wpOp_step ho2 fun K hK=>h2 K fun b u h1 h2=>hK b u ⟨h1,h2⟩
theorem U_done {listed:Array Bool} {a:Act} {w:World} (hr:Region.ready md ops listed=[]) (h:Q .normal a w):∀ fuel,anyU P md ops Q late S fuel listed a w
 | 0=>⟨hr,h⟩
 | _+1=>⟨fun _=>h,by rw [hr];simp⟩
end
section
variable {P:Program} {ops:Array Oper} {Q:Exit→Act→World→Prop} {md:Region.Mode} {S:World→Prop} {late:Nat→Bool}
def waitsN (md:Region.Mode) (ops:Array Oper):Nat→Nat→Nat→Bool
 | 0,_,_=>false
 | f+1,j,i=>((ops[j]?).map fun o=>o.after.any fun e=>Region.binds md e && (e.on == i || waitsN md ops f e.on i)).getD false
theorem waitsN_of {i:Nat} {listed:Array Bool} (hc:Closed md ops listed):∀ (f j:Nat),waitsN md ops f j i=true→(∀ oj,ops[j]? = some oj→∀ e∈oj.after,Region.binds md e=true→listed.getD e.on false=true)→listed.getD i false=true
 | 0,_,h,_=>by cases h
 | f+1,j,h,hall=>by
  unfold waitsN at h
  cases hoj:ops[j]? with
  | none=>rw [hoj] at h;cases h
  | some oj=>
   rw [hoj] at h
   have h2:(oj.after.any fun e=>Region.binds md e && (e.on == i || waitsN md ops f e.on i))=true:=h
   obtain ⟨e,he,hb⟩:=Array.any_eq_true'.1 h2
   simp only [Bool.and_eq_true,Bool.or_eq_true,beq_iff_eq] at hb
   have hl:=hall oj hoj e he hb.1
   rcases hb.2 with h3 | h3
   ·rw [← h3];exact hl
   ·exact waitsN_of hc f e.on h3 fun o' ho e' he' hb'=>hc e.on o' ho hl e' he' hb'
theorem waitsN_listed {i j f:Nat} {listed:Array Bool} (h:waitsN md ops f j i=true) (hc:Closed md ops listed) (hj:j∈Region.ready md ops listed):listed.getD i false=true:=by
 obtain ⟨_,oj,hoj,hall⟩:=mem_ready.1 hj
 refine waitsN_of hc f j h fun o ho e he hb=>?_
 have:=Option.some.inj (hoj.symm.trans ho)
 subst this
 exact hall e he hb
theorem U_first2 {i f:Nat} {oi:Oper} {v:Value} (hi:ops[i]? = some oi) (hsel:∀ (j:Nat) (o:Oper) cs b,ops[j]? = some o→o.op≠.select cs b)
  (hQ:∀ c a w,Q (.panic c) (a.put oi.dst v) w→Q (.panic c) a w)
  (hlate:∀ j,j<ops.size→late j=true→waitsN md ops f j i=true) :
  ∀ (fuel:Nat) (listed:Array Bool) (a:Act) (w:World),Closed md ops listed→
   (∀ j oj,ops[j]? = some oj→j≠i→listed.getD j true=false→waitsN md ops f j i=false→oi.apart ops oj=true)→
   i∈Region.ready md ops listed→YieldsIf P ops S oi v a→S w→
   anyU P md ops Q late S fuel (listed.setIfInBounds i true) (a.put oi.dst v) w→anyU P md ops Q late S (fuel+1) listed a w
 | 0,listed,a,w,_,_,hr,hy,hS,H=>by
  refine ⟨fun h=>(by rw [h] at hr;cases hr),fun j hj=>?_⟩
  rcases Nat.decEq j i with hji | rfl
  ·have hm:=ready_mono hj hji
   rw [H.1] at hm;cases hm
  ·exact hy.wpOp hi hS ⟨.inr hS,H⟩
 | fuel+1,listed,a,w,hcl,hfree,hr,hy,hS,H=>by
  refine ⟨fun h=>(by rw [h] at hr;cases hr),fun j hj=>?_⟩
  rcases Nat.decEq j i with hji | rfl
  ·obtain ⟨hjun,oj,hoj,hall⟩:=mem_ready.1 hj
   have hno:waitsN md ops f j i=false:=by
    cases hw:waitsN md ops f j i with
    | false=>rfl
    | true=>
     have h1:=waitsN_listed hw hcl hj
     rw [unlisted_of_ready hr] at h1;cases h1
   have hnl:¬ late j=true:=fun hl=>by
    rw [hlate j (Array.getElem?_eq_some_iff.1 hoj).1 hl] at hno;cases hno
   have h2:=wpOp_putIf hoj (hfree j oj hoj hji hjun hno) (fun cs b=>hsel i oi cs b hi) (fun cs b=>hsel j oj cs b hoj) hQ hy (H.2 j (ready_mono hj hji))
   refine wpOp_mono (fun b u k=>?_) h2
   have hSu:=k.2.1.resolve_left hnl
   refine ⟨.inr hSu,U_first2 hi hsel hQ hlate fuel _ b u (hcl.add hj) ?_ (ready_mono hr (Ne.symm hji)) k.1 hSu ?_⟩
   ·intro l ol hol hli hun hw
    refine hfree l ol hol hli ?_ hw
    by_cases hjl:j=l
    ·exact hjl ▸ hjun
    ·rwa [getD_set_ne true hjl] at hun
   ·rw [Array.setIfInBounds_comm _ _ hji];exact k.2.2
  ·exact hy.wpOp hi hS ⟨.inr hS,H⟩
def lateN (md:Region.Mode) (ops:Array Oper) (late:Nat→Bool) (f i:Nat):Bool:=(List.range ops.size).all fun j=>!late j || waitsN md ops f j i
theorem lateN_spec {i f:Nat} (h:lateN md ops late f i=true) (j:Nat) (hj:j<ops.size) (hl:late j=true):waitsN md ops f j i=true:=by
 have h1:=List.all_eq_true.1 h j (List.mem_range.2 hj)
 rwa [hl] at h1
def freeN (md:Region.Mode) (ops:Array Oper) (listed:Array Bool) (f i:Nat):Bool:=
 match ops[i]? with
 | none=>false
 | some oi=>(List.range ops.size).all fun j=>j == i || listed.getD j true || waitsN md ops f j i || match ops[j]? with
   | some oj=>oi.apart ops oj
   | none=>true
theorem freeN_spec {i f:Nat} {oi:Oper} {listed:Array Bool} (hi:ops[i]? = some oi) (h:freeN md ops listed f i=true) (j:Nat) (oj:Oper)
  (hj:ops[j]? = some oj) (hne:j≠i) (hun:listed.getD j true=false) (hno:waitsN md ops f j i=false):oi.apart ops oj=true:=by
 simp only [freeN,hi,List.all_eq_true,List.mem_range] at h
 have h1:=h j (Array.getElem?_eq_some_iff.1 hj).1
 simp only [hj,Bool.or_eq_true,beq_iff_eq,hne,false_or,hun,hno,Bool.false_eq_true] at h1
 exact h1
theorem U_take2 (f:Nat) {i:Nat} {oi:Oper} {v:Value} {fuel:Nat} {listed:Array Bool} {a:Act} {w:World} (hi:ops[i]? = some oi)
  (hs:Region.noSelect ops=true) (hf:freeN md ops listed f i=true) (hr:(Region.ready md ops listed).contains i=true) (hl:lateN md ops late f i=true) (hc:closedB md ops listed=true)
  (hQ:∀ c a w,Q (.panic c) (a.put oi.dst v) w→Q (.panic c) a w) (hy:YieldsIf P ops S oi v a) (hS:S w)
  (h:anyU P md ops Q late S fuel (listed.setIfInBounds i true) (a.put oi.dst v) w):anyU P md ops Q late S (fuel+1) listed a w:=
 U_first2 hi (Region.noSelect_spec hs) hQ (lateN_spec hl) fuel listed a w (closedB_spec hc) (freeN_spec hi hf) (by simpa using hr) hy hS h
end
section
variable {P:Program} {md:Region.Mode} {ops:Array Oper} {Q:Exit→Act→World→Prop} {late:Nat→Bool} {S:World→Prop}
end
end Go.Proofs.YtbilphfbfnohmaaGreatDoor.Pz
namespace Go.Proofs.YtbilphfbfnohmaaGreatDoor.Pz
open Go.Shelf
def Tryz.lays105_ren:Go.Shelf.Ren:=⟨fun | 105=>58 | 212=>104 | 99=>75 | 165=>66 | 166=>48 | 170=>51 | 169=>52 | 263=>150 | 264=>151 | 206=>128 | 240=>91 | 241=>117 | 276=>144 | 277=>160 | n=>n,fun | 9=>9 | 3=>3 | 4=>4 | 20=>20 | 0=>0 | 46=>136 | 109=>137 | 5=>5 | 72=>73 | 76=>81 | 51=>173 | 146=>174 | 53=>176 | 148=>177 | 70=>70 | 37=>71 | 75=>80 | 127=>132 | 164=>171 | 80=>92 | n=>n,fun | n=>n⟩
theorem Tryz.lays105:Go.Proofs.Lays.n105 Tryz.prog Tryz.lays105_ren:={
 mixed:=by kernel_rfl
 f99:=Tryz.func75.trans (congrArg some (by kernel_rfl))
 f105:=Tryz.func58.trans (congrArg some (by kernel_rfl))
 f165:=Tryz.func66.trans (congrArg some (by kernel_rfl))
 f166:=Tryz.func48.trans (congrArg some (by kernel_rfl))
 f169:=Tryz.func52.trans (congrArg some (by kernel_rfl))
 f170:=Tryz.func51.trans (congrArg some (by kernel_rfl))
 f206:=Tryz.func128.trans (congrArg some (by kernel_rfl))
 f212:=Tryz.func104.trans (congrArg some (by kernel_rfl))
 f240:=Tryz.func91.trans (congrArg some (by kernel_rfl))
 f241:=Tryz.func117.trans (congrArg some (by kernel_rfl))
 f263:=Tryz.func150.trans (congrArg some (by kernel_rfl))
 f264:=Tryz.func151.trans (congrArg some (by kernel_rfl))
 f276:=Tryz.func144.trans (congrArg some (by kernel_rfl))
 f277:=Tryz.func160.trans (congrArg some (by kernel_rfl))
 t0:=Tryz.underlying0
 a0:=Tryz.isAgg0
 z0:=Tryz.sizeOf0
 v0:=Tryz.zeroValue0
 t3:=Tryz.underlying3
 a3:=Tryz.isAgg3
 z3:=Tryz.sizeOf3
 v3:=Tryz.zeroValue3
 t4:=Tryz.underlying4
 a4:=Tryz.isAgg4
 z4:=Tryz.sizeOf4
 v4:=Tryz.zeroValue4
 t5:=Tryz.underlying5
 a5:=Tryz.isAgg5
 z5:=Tryz.sizeOf5
 v5:=Tryz.zeroValue5
 t9:=Tryz.underlying9
 a9:=Tryz.isAgg9
 z9:=Tryz.sizeOf9
 v9:=Tryz.zeroValue9
 t20:=Tryz.underlying20
 a20:=Tryz.isAgg20
 z20:=Tryz.sizeOf20
 v20:=Tryz.zeroValue20
 t37:=Tryz.underlying71
 a37:=Tryz.isAgg71
 z37:=Tryz.sizeOf71
 v37:=Tryz.zeroValue71
 t46:=Tryz.underlying136
 a46:=Tryz.isAgg136
 z46:=Tryz.sizeOf136
 v46:=Tryz.zeroValue136
 t51:=Tryz.underlying173
 a51:=Tryz.isAgg173
 z51:=Tryz.sizeOf173
 v51:=Tryz.zeroValue173
 t53:=Tryz.underlying176
 a53:=Tryz.isAgg176
 z53:=Tryz.sizeOf176
 v53:=Tryz.zeroValue176
 t70:=Tryz.underlying70
 a70:=Tryz.isAgg70
 z70:=Tryz.sizeOf70
 v70:=Tryz.zeroValue70
 t72:=Tryz.underlying73
 a72:=Tryz.isAgg73
 z72:=Tryz.sizeOf73
 v72:=Tryz.zeroValue73
 t75:=Tryz.underlying80
 a75:=Tryz.isAgg80
 z75:=Tryz.sizeOf80
 v75:=Tryz.zeroValue80
 t76:=Tryz.underlying81
 a76:=Tryz.isAgg81
 z76:=Tryz.sizeOf81
 v76:=Tryz.zeroValue81
 t109:=Tryz.underlying137
 a109:=Tryz.isAgg137
 z109:=Tryz.sizeOf137
 v109:=Tryz.zeroValue137
 t127:=Tryz.underlying132
 a127:=Tryz.isAgg132
 z127:=Tryz.sizeOf132
 v127:=Tryz.zeroValue132
 t146:=Tryz.underlying174
 a146:=Tryz.isAgg174
 z146:=Tryz.sizeOf174
 v146:=Tryz.zeroValue174
 t148:=Tryz.underlying177
 a148:=Tryz.isAgg177
 z148:=Tryz.sizeOf177
 v148:=Tryz.zeroValue177
 t164:=Tryz.underlying171
 a164:=Tryz.isAgg171
 z164:=Tryz.sizeOf171
 v164:=Tryz.zeroValue171 }
theorem Tryz.Builder_Extra_105:Builder.Extra Tryz.prog Tryz.lays105_ren:={
 sizeBuilder:=by kernel_rfl
 liesBuilder:=by kernel_rfl
 t5:=Tryz.underlying5
 a5:=Tryz.isAgg5
 z5:=Tryz.sizeOf5
 v5:=Tryz.zeroValue5
 infoByte:=by kernel_rfl
 cellsByte:=by kernel_rfl
 sizeByte:=by kernel_rfl
 neB5:=by decide }
open Go.RowKit Go.Lib in
theorem Tryz.strings_Repeat (s:ByteArray) (c:Nat) (w:World) (hc:c≤9223372036854775807) (hlen:s.size*c≤140737488355328) :
  Calls Tryz.prog 58 #[.string s,.int .i64 c] w fun e w'=>e=.returned (.string ⟨(Lib.repeatL s.data.toList c).toArray⟩)∧Below w.heap.size w w':=Any.strings_Repeat Tryz.lays105 Tryz.Builder_Extra_105 s c w hc hlen
def Tryz.lays158_ren:Go.Shelf.Ren:=⟨fun | 158=>107 | 165=>66 | 166=>48 | 167=>49 | 169=>52 | 230=>155 | 203=>156 | 240=>91 | 241=>117 | 197=>119 | 118=>192 | 168=>193 | 270=>194 | 262=>195 | 276=>144 | 277=>160 | 260=>163 | 242=>213 | 313=>214 | 278=>225 | 274=>226 | 275=>227 | n=>n,fun | 9=>9 | 4=>4 | 3=>3 | 5=>5 | 72=>73 | 0=>0 | 76=>81 | 75=>80 | 107=>183 | 70=>70 | 20=>20 | 37=>71 | 127=>132 | 21=>21 | 105=>149 | 164=>171 | 162=>235 | 203=>233 | 119=>192 | 46=>136 | 139=>211 | 138=>210 | 51=>173 | 160=>253 | 208=>264 | 206=>262 | 80=>92 | n=>n,fun | 13=>6 | 3=>2 | 4=>3 | n=>n⟩
theorem Tryz.lays158:Go.Proofs.Lays.n158 Tryz.prog Tryz.lays158_ren:={
 mixed:=by kernel_rfl
 f118:=Tryz.func192.trans (congrArg some (by kernel_rfl))
 f158:=Tryz.func107.trans (congrArg some (by kernel_rfl))
 f165:=Tryz.func66.trans (congrArg some (by kernel_rfl))
 f166:=Tryz.func48.trans (congrArg some (by kernel_rfl))
 f167:=Tryz.func49.trans (congrArg some (by kernel_rfl))
 f168:=Tryz.func193.trans (congrArg some (by kernel_rfl))
 f169:=Tryz.func52.trans (congrArg some (by kernel_rfl))
 f197:=Tryz.func119.trans (congrArg some (by kernel_rfl))
 f203:=Tryz.func156.trans (congrArg some (by kernel_rfl))
 f230:=Tryz.func155.trans (congrArg some (by kernel_rfl))
 f240:=Tryz.func91.trans (congrArg some (by kernel_rfl))
 f241:=Tryz.func117.trans (congrArg some (by kernel_rfl))
 f242:=Tryz.func213.trans (congrArg some (by kernel_rfl))
 f260:=Tryz.func163.trans (congrArg some (by kernel_rfl))
 f262:=Tryz.func195.trans (congrArg some (by kernel_rfl))
 f270:=Tryz.func194.trans (congrArg some (by kernel_rfl))
 f274:=Tryz.func226.trans (congrArg some (by kernel_rfl))
 f275:=Tryz.func227.trans (congrArg some (by kernel_rfl))
 f276:=Tryz.func144.trans (congrArg some (by kernel_rfl))
 f277:=Tryz.func160.trans (congrArg some (by kernel_rfl))
 f278:=Tryz.func225.trans (congrArg some (by kernel_rfl))
 f313:=Tryz.func214.trans (congrArg some (by kernel_rfl))
 t0:=Tryz.underlying0
 a0:=Tryz.isAgg0
 z0:=Tryz.sizeOf0
 v0:=Tryz.zeroValue0
 t3:=Tryz.underlying3
 a3:=Tryz.isAgg3
 z3:=Tryz.sizeOf3
 v3:=Tryz.zeroValue3
 t4:=Tryz.underlying4
 a4:=Tryz.isAgg4
 z4:=Tryz.sizeOf4
 v4:=Tryz.zeroValue4
 t5:=Tryz.underlying5
 a5:=Tryz.isAgg5
 z5:=Tryz.sizeOf5
 v5:=Tryz.zeroValue5
 t9:=Tryz.underlying9
 a9:=Tryz.isAgg9
 z9:=Tryz.sizeOf9
 v9:=Tryz.zeroValue9
 t20:=Tryz.underlying20
 a20:=Tryz.isAgg20
 z20:=Tryz.sizeOf20
 v20:=Tryz.zeroValue20
 t21:=Tryz.underlying21
 a21:=Tryz.isAgg21
 z21:=Tryz.sizeOf21
 v21:=Tryz.zeroValue21
 t37:=Tryz.underlying71
 a37:=Tryz.isAgg71
 z37:=Tryz.sizeOf71
 v37:=Tryz.zeroValue71
 t46:=Tryz.underlying136
 a46:=Tryz.isAgg136
 z46:=Tryz.sizeOf136
 v46:=Tryz.zeroValue136
 t51:=Tryz.underlying173
 a51:=Tryz.isAgg173
 z51:=Tryz.sizeOf173
 v51:=Tryz.zeroValue173
 t70:=Tryz.underlying70
 a70:=Tryz.isAgg70
 z70:=Tryz.sizeOf70
 v70:=Tryz.zeroValue70
 t72:=Tryz.underlying73
 a72:=Tryz.isAgg73
 z72:=Tryz.sizeOf73
 v72:=Tryz.zeroValue73
 t75:=Tryz.underlying80
 a75:=Tryz.isAgg80
 z75:=Tryz.sizeOf80
 v75:=Tryz.zeroValue80
 t76:=Tryz.underlying81
 a76:=Tryz.isAgg81
 z76:=Tryz.sizeOf81
 v76:=Tryz.zeroValue81
 t105:=Tryz.underlying149
 a105:=Tryz.isAgg149
 z105:=Tryz.sizeOf149
 v105:=Tryz.zeroValue149
 t107:=Tryz.underlying183
 a107:=Tryz.isAgg183
 z107:=Tryz.sizeOf183
 v107:=Tryz.zeroValue183
 t119:=Tryz.underlying192
 a119:=Tryz.isAgg192
 z119:=Tryz.sizeOf192
 t127:=Tryz.underlying132
 a127:=Tryz.isAgg132
 z127:=Tryz.sizeOf132
 v127:=Tryz.zeroValue132
 t138:=Tryz.underlying210
 a138:=Tryz.isAgg210
 z138:=Tryz.sizeOf210
 v138:=Tryz.zeroValue210
 t139:=Tryz.underlying211
 a139:=Tryz.isAgg211
 z139:=Tryz.sizeOf211
 v139:=Tryz.zeroValue211
 t160:=Tryz.underlying253
 a160:=Tryz.isAgg253
 z160:=Tryz.sizeOf253
 v160:=Tryz.zeroValue253
 t162:=Tryz.underlying235
 a162:=Tryz.isAgg235
 z162:=Tryz.sizeOf235
 v162:=Tryz.zeroValue235
 t164:=Tryz.underlying171
 a164:=Tryz.isAgg171
 z164:=Tryz.sizeOf171
 v164:=Tryz.zeroValue171
 t203:=Tryz.underlying233
 a203:=Tryz.isAgg233
 z203:=Tryz.sizeOf233
 v203:=Tryz.zeroValue233
 t206:=Tryz.underlying262
 a206:=Tryz.isAgg262
 z206:=Tryz.sizeOf262
 v206:=Tryz.zeroValue262
 t208:=Tryz.underlying264
 a208:=Tryz.isAgg264
 z208:=Tryz.sizeOf264
 v208:=Tryz.zeroValue264
 g3:=by kernel_rfl
 g4:=by kernel_rfl
 g13:=by kernel_rfl }
theorem Tryz.Builder_Extra_158:Builder.Extra Tryz.prog Tryz.lays158_ren:={
 sizeBuilder:=by kernel_rfl
 liesBuilder:=by kernel_rfl
 t5:=Tryz.underlying5
 a5:=Tryz.isAgg5
 z5:=Tryz.sizeOf5
 v5:=Tryz.zeroValue5
 infoByte:=by kernel_rfl
 cellsByte:=by kernel_rfl
 sizeByte:=by kernel_rfl
 neB5:=by decide }
open Go.RowKit in
theorem Tryz.strings_ToUpper_ascii (s:ByteArray) (w:World) (hs:s.size≤140737488355328) (hascii:∀ (j:Nat) (b:UInt8),s.data.toList[j]? = some b→b.toNat<128) :
  Calls Tryz.prog 107 #[.string s] w fun e w'=>e=.returned (.string ⟨(Lib.toUpperA s.data.toList).toArray⟩)∧Below w.heap.size w w':=Any.strings_ToUpper_ascii Tryz.lays158 Tryz.Builder_Extra_158 s w hs hascii
end Go.Proofs.YtbilphfbfnohmaaGreatDoor.Pz
namespace Go.Proofs.YtbilphfbfnohmaaGreatDoor.Pz
open Go Go.RowKit
structure But (rb B:Nat) (w w':World):Prop where
 os:w'.os=w.os
 tape:w'.tape=w.tape
 output:w'.output=w.output
 size:w.heap.size≤w'.heap.size
 block:∀ k,k<B→k≠rb→w'.heap[k]? = w.heap[k]?
theorem But.refl (rb B:Nat) (w:World):But rb B w w:=⟨rfl,rfl,rfl,Nat.le_refl _,fun _ _ _=>rfl⟩
theorem But.trans {rb B:Nat} {a b c:World} (h:But rb B a b) (k:But rb B b c):But rb B a c:=
 ⟨k.os.trans h.os,k.tape.trans h.tape,k.output.trans h.output,Nat.le_trans h.size k.size,fun i hi hr=>(k.block i hi hr).trans (h.block i hi hr)⟩
theorem But.mono {rb B B':Nat} {w w':World} (h:But rb B w w') (hB:B'≤B):But rb B' w w':=⟨h.os,h.tape,h.output,h.size,fun k hk=>h.block k (Nat.lt_of_lt_of_le hk hB)⟩
theorem But.below {rb B:Nat} {w w':World} (h:But rb B w w') (hr:B≤rb):Below B w w':=⟨h.os,h.tape,h.output,h.size,fun k hk=>h.block k hk (by omega)⟩
theorem But.drew {rb B:Nat} {a w:World} (h:But rb B a w):But rb B a w.drew:=⟨h.os,h.tape,h.output,h.size,h.block⟩
theorem But.alloc {rb B:Nat} {a w:World} (h:But rb B a w) (hB:B≤w.heap.size) (o:Obj):But rb B a (w.alloc o):=
 h.trans ⟨rfl,rfl,rfl,by simp,fun k hk _=>Below.heap_alloc _ _ _ (by omega)⟩
theorem But.setCell {rb B:Nat} {a w:World} (h:But rb B a w) {p:Addr} (hp:p.block=rb∨B≤p.block) (u:Value):But rb B a (w.setCell p u):=
 h.trans ⟨rfl,rfl,rfl,by simp [World.setCell],fun k hk hr=>Below.heap_setCell _ _ _ _ (by omega)⟩
theorem But.grown {rb B:Nat} {a w w':World} {row:Option Nat} (h:But rb B a w) (hg:w.grownBy w' row) (hB:B≤w.heap.size) (hr:∀ k,row=some k→B≤k):But rb B a w':=
 h.trans ⟨hg.os,hg.tape,hg.output,hg.size,fun k hk _=>hg.block k (by omega) (fun e=>by have:=hr k e.symm;omega)⟩
theorem But.cell {rb B:Nat} {w w':World} (h:But rb B w w') {p:Addr} (hp:p.block<B) (hr:p.block≠rb):w'.cell? p=w.cell? p:=World.cell?_of_block (w:=w) (h.block p.block hp hr)
theorem ownsRow_heap {w w':World} {base:Nat} {e:TypeId} {size:Nat} {v:Value} {n:Nat} {xs:List Value} (h:w.ownsRow base e size v n xs) (hh:∀ g,v.ownBlock=some g→w'.heap[g]? = w.heap[g]?):w'.ownsRow base e size v n xs:=by
 refine ⟨h.1,?_⟩
 rcases h.2 with hn | ⟨g,cap,cur,rfl,hb,hgg,rest⟩
 ·exact .inl hn
 ·exact .inr ⟨g,cap,cur,rfl,hb,(hh g rfl).trans hgg,rest⟩
def RowIs {α:Type} (E:TypeId) (sz:Nat) (elt:List Value→α→Prop) (w:World) (ok:Nat→Prop) (v:Value) (xs:List α):Prop:=
 ∃ css:List (List Value),w.ownsRow 0 E sz v xs.length css.flatten∧(∀ g,v.ownBlock=some g→ok g)∧css.length=xs.length∧∀ i (h1:i<css.length) (h2:i<xs.length),elt css[i] xs[i]∧css[i].length=sz
inductive TokIs (TE:TypeId) (w:World) (ok:Nat→Prop):List Value→Tok→Prop
 | mk (k:Nat) (s:Str) (h:Bool) (ix:List Tok) (v:Value) (css:List (List Value)) (hrow:w.ownsRow 0 TE 4 v ix.length css.flatten) (hok:∀ g,v.ownBlock=some g→ok g)
   (hl:css.length=ix.length) (hs:∀ i (h1:i<css.length) (h2:i<ix.length),TokIs TE w ok css[i] ix[i]) :
   TokIs TE w ok [.int .i64 (k:Int),.string ⟨s.toArray⟩,.bool h,v] (.mk k s h ix)
theorem TokIs.keep {TE:TypeId} {w w':World} {ok ok':Nat→Prop} {cs:List Value} {t:Tok} (h:TokIs TE w ok cs t) (hk:∀ g,ok g→ok' g) (hh:∀ g,ok g→w'.heap[g]? = w.heap[g]?):TokIs TE w' ok' cs t:=by
 induction h with
 | mk k s h ix v css hrow hok hl hs ih=>exact .mk k s h ix v css (ownsRow_heap hrow fun g hg=>hh g (hok g hg)) (fun g hg=>hk g (hok g hg)) hl ih
theorem TokIs.len {TE:TypeId} {w:World} {ok:Nat→Prop} {cs:List Value} {t:Tok} (h:TokIs TE w ok cs t):cs.length=4:=by
 cases h;rfl
def ToksIs (TE:TypeId) (w:World) (ok:Nat→Prop) (v:Value) (ts:List Tok):Prop:=RowIs TE 4 (TokIs TE w ok) w ok v ts
theorem TokIs.of {TE:TypeId} {w:World} {ok:Nat→Prop} {v:Value} {ix:List Tok} (h:ToksIs TE w ok v ix) (k:Nat) (s:Str) (b:Bool):TokIs TE w ok [.int .i64 (k:Int),.string ⟨s.toArray⟩,.bool b,v] (.mk k s b ix):=by
 obtain ⟨css,h1,h2,h3,h4⟩:=h
 exact .mk k s b ix v css h1 h2 h3 fun i a b=>(h4 i a b).1
theorem RowIs.keep {α:Type} {E:TypeId} {sz:Nat} {elt elt':List Value→α→Prop} {w w':World} {ok ok':Nat→Prop} {v:Value} {xs:List α} (h:RowIs E sz elt w ok v xs) (hk:∀ g,ok g→ok' g) (hh:∀ g,ok g→w'.heap[g]? = w.heap[g]?)
  (he:∀ cs x,elt cs x→elt' cs x):RowIs E sz elt' w' ok' v xs:=by
 obtain ⟨css,h1,h2,h3,h4⟩:=h
 exact ⟨css,ownsRow_heap h1 fun g hg=>hh g (h2 g hg),fun g hg=>hk g (h2 g hg),h3,fun i a b=>⟨he _ _ (h4 i a b).1,(h4 i a b).2⟩⟩
theorem RowIs.nil {α:Type} {E:TypeId} {sz:Nat} {elt:List Value→α→Prop} {w:World} {ok:Nat→Prop}:RowIs E sz elt w ok (.slice none 0 0) []:=by
 refine ⟨[],World.ownsRow_nil _ _ _ _,?_,rfl,?_⟩
 ·intro g hg
  simp [Value.ownBlock] at hg
 ·intro i h1
  simp at h1
theorem RowIs.app {α:Type} {E:TypeId} {sz:Nat} {elt:List Value→α→Prop} {w':World} {ok:Nat→Prop} {v':Value} {xs ys:List α} {css ds:List (List Value)}
  (hrow:w'.ownsRow 0 E sz v' (xs.length+ys.length) (css.flatten++ds.flatten)) (hok:∀ g,v'.ownBlock=some g→ok g) (hl:css.length=xs.length) (hl2:ds.length=ys.length)
  (h1:∀ i (h1:i<css.length) (h2:i<xs.length),elt css[i] xs[i]∧css[i].length=sz) (h2:∀ i (h1:i<ds.length) (h2:i<ys.length),elt ds[i] ys[i]∧ds[i].length=sz):RowIs E sz elt w' ok v' (xs++ys):=by
 refine ⟨css++ds,by simpa using hrow,hok,by simp [hl,hl2],fun i a b=>?_⟩
 rcases Nat.lt_or_ge i css.length with hi | hi
 ·rw [List.getElem_append_left hi,List.getElem_append_left (by omega)]
  exact h1 i hi (by omega)
 ·rw [List.getElem_append_right hi]
  have e2:(xs++ys)[i]'b=ys[i-css.length]'(by simp at b;omega):=by
   rw [List.getElem_append_right (by omega)]
   simp [hl]
  rw [e2]
  exact h2 _ _ _
theorem flat_get {css:List (List Value)} {sz:Nat} (hs:∀ i (h:i<css.length),css[i].length=sz):∀ (i j:Nat) (h:i<css.length),j<sz→css.flatten[i*sz+j]? = css[i][j]?:=by
 induction css with
 | nil=>intro i j h;simp at h
 | cons c cs ih=>
  intro i j h hj
  have hc:c.length=sz:=hs 0 (by simp)
  rw [List.flatten_cons]
  cases i with
  | zero=>
   rw [List.getElem?_append_left (by omega)]
   simp
  | succ i=>
   rw [List.getElem?_append_right (by rw [hc,Nat.succ_mul];omega),hc,show (i+1)*sz+j-sz=i*sz+j by rw [Nat.succ_mul];omega]
   rw [ih (fun k hk=>by have:=hs (k+1) (by simp;omega);simpa using this) i j (by simpa using h) hj]
   simp
theorem RowIs.cell {α:Type} {E:TypeId} {sz:Nat} {elt:List Value→α→Prop} {w:World} {ok:Nat→Prop} {v:Value} {xs:List α} (h:RowIs E sz elt w ok v xs) :
  ∃ a cap,v=.slice a xs.length cap∧xs.length≤cap∧∀ i (hi:i<xs.length),∃ g cs,a=some ⟨g,0,none⟩∧elt cs xs[i]∧cs.length=sz∧g<w.heap.size∧∀ j u,cs[j]? = some u→w.cell? ⟨g,i*sz+j,none⟩=some u:=by
 obtain ⟨css,h1,h2,h3,h4⟩:=h
 obtain ⟨hl,⟨rfl,h0⟩ | ⟨g,cap,cur,rfl,hb,hh,hc,hm,hs,ht⟩⟩:=h1
 ·obtain rfl:xs=[]:=List.length_eq_zero_iff.1 h0
  exact ⟨none,0,rfl,Nat.le_refl _,fun i hi=>absurd hi (by simp)⟩
 ·refine ⟨some ⟨g,0,none⟩,cap,rfl,hc,fun i hi=>?_⟩
  obtain ⟨q1,q2⟩:=h4 i (by omega) hi
  refine ⟨g,css[i]'(by omega),rfl,q1,q2,(Array.getElem?_eq_some_iff.1 hh).1,fun j u hu=>?_⟩
  have hj:j<sz:=by
   rcases Nat.lt_or_ge j sz with h' | h'
   ·exact h'
   ·rw [List.getElem?_eq_none (by omega)] at hu;cases hu
  have hf:=flat_get (css:=css) (sz:=sz) (fun i h=>(h4 i h (by omega)).2) i j (by omega) hj
  rw [hu,← ht,List.getElem?_take] at hf
  split at hf
  ·rw [cell_of_row w g (i*sz+j) cur E (0,0) hh]
   simpa using hf
  ·cases hf
theorem ToksIs.keep {TE:TypeId} {w w':World} {ok ok':Nat→Prop} {v:Value} {ts:List Tok} (h:ToksIs TE w ok v ts) (hk:∀ g,ok g→ok' g) (hh:∀ g,ok g→w'.heap[g]? = w.heap[g]?):ToksIs TE w' ok' v ts:=
 RowIs.keep h hk hh fun _ _ he=>he.keep hk hh
def WdIs (TE:TypeId) (w:World) (ok:Nat→Prop) (cs:List Value) (x:Wd):Prop:=∃ v,cs=[.bool x.spread,v]∧ToksIs TE w ok v x.toks
theorem WdIs.keep {TE:TypeId} {w w':World} {ok ok':Nat→Prop} {cs:List Value} {x:Wd} (h:WdIs TE w ok cs x) (hk:∀ g,ok g→ok' g) (hh:∀ g,ok g→w'.heap[g]? = w.heap[g]?):WdIs TE w' ok' cs x:=by
 obtain ⟨v,rfl,h⟩:=h
 exact ⟨v,rfl,h.keep hk hh⟩
def WdsIs (TE WE:TypeId) (w:World) (ok:Nat→Prop) (v:Value) (ws:List Wd):Prop:=RowIs WE 2 (WdIs TE w ok) w ok v ws
theorem WdsIs.keep {TE WE:TypeId} {w w':World} {ok ok':Nat→Prop} {v:Value} {ws:List Wd} (h:WdsIs TE WE w ok v ws) (hk:∀ g,ok g→ok' g) (hh:∀ g,ok g→w'.heap[g]? = w.heap[g]?):WdsIs TE WE w' ok' v ws:=
 RowIs.keep h hk hh fun _ _ he=>he.keep hk hh
def CmdIs (TE WE:TypeId) (n:Nat) (w:World) (ok:Nat→Prop) (cs:List Value) (c:Cmd):Prop:=∃ v,cs=[.int .i64 ((n:Int)-(c.back:Int)),v]∧WdsIs TE WE w ok v c.words
theorem CmdIs.keep {TE WE:TypeId} {n:Nat} {w w':World} {ok ok':Nat→Prop} {cs:List Value} {c:Cmd} (h:CmdIs TE WE n w ok cs c) (hk:∀ g,ok g→ok' g) (hh:∀ g,ok g→w'.heap[g]? = w.heap[g]?):CmdIs TE WE n w' ok' cs c:=by
 obtain ⟨v,rfl,h⟩:=h
 exact ⟨v,rfl,h.keep hk hh⟩
def CmdsIs (TE WE CE:TypeId) (n:Nat) (w:World) (ok:Nat→Prop) (v:Value) (cs:List Cmd):Prop:=RowIs CE 2 (CmdIs TE WE n w ok) w ok v cs
theorem CmdsIs.keep {TE WE CE:TypeId} {n:Nat} {w w':World} {ok ok':Nat→Prop} {v:Value} {cs:List Cmd} (h:CmdsIs TE WE CE n w ok v cs) (hk:∀ g,ok g→ok' g) (hh:∀ g,ok g→w'.heap[g]? = w.heap[g]?):CmdsIs TE WE CE n w' ok' v cs:=
 RowIs.keep h hk hh fun _ _ he=>he.keep hk hh
end Go.Proofs.YtbilphfbfnohmaaGreatDoor.Pz
namespace Go.Proofs.YtbilphfbfnohmaaGreatDoor.Pz
open Go.RowKit
theorem Tryz.infoS:(Tryz.prog.info? 9).map (fun i=>(i.zero,i.size,i.bytes))=some (some (.string ⟨#[]⟩),1,16):=by kernel_rfl
def strCells (l:List Str):List Value:=l.map fun s=>.string ⟨s.toArray⟩
theorem add_none (b o i:Nat):(⟨b,o,none⟩:Addr).add i=⟨b,o+i,none⟩:=by
 simp [Addr.add]
theorem ownsRow_base {w:World} {base:Nat} {e:TypeId} {size:Nat} {v:Value} {n:Nat} {xs:List Value} (h:w.ownsRow base e size v n xs):∀ g,v.ownBlock=some g→base≤g:=by
 intro g hg
 rcases h.2 with ⟨rfl,_⟩ | ⟨g',cap,cur,rfl,hb,hgg,rest⟩
 ·simp [Value.ownBlock] at hg
 ·simp only [Value.ownBlock,Option.some.injEq] at hg
  omega
theorem ownsRow_lt {w:World} {base:Nat} {e:TypeId} {size:Nat} {v:Value} {n:Nat} {xs:List Value} (h:w.ownsRow base e size v n xs):∀ g,v.ownBlock=some g→g<w.heap.size∧∃ cur,w.heap[g]? = some (.cells cur e (0,0)):=by
 intro g hg
 rcases h.2 with ⟨rfl,_⟩ | ⟨g',cap,cur,rfl,hb,hgg,rest⟩
 ·simp [Value.ownBlock] at hg
 ·simp only [Value.ownBlock,Option.some.injEq] at hg
  subst hg
  exact ⟨(Array.getElem?_eq_some_iff.1 hgg).1,cur,hgg⟩
theorem strCells_app (a b:List Str):strCells (a++b)=strCells a++strCells b:=by simp [strCells]
theorem strCells_len (a:List Str):(strCells a).length=a.length:=by simp [strCells]
theorem strCells_one (a:List Str):∀ u∈strCells a,u.oneCell'=true:=by
 intro u hu
 obtain ⟨s,_,rfl⟩:=List.mem_map.1 hu
 rfl
def RowS (B:Nat) (w:World) (v:Value) (l:List Str):Prop:=w.ownsRow B 9 1 v l.length (strCells l)
theorem RowS.nil (B:Nat) (w:World):RowS B w (.slice none 0 0) []:=World.ownsRow_nil _ _ _ _
theorem RowS.lt {B:Nat} {w:World} {v:Value} {l:List Str} (h:RowS B w v l):∀ g,v.ownBlock=some g→g<w.heap.size∧B≤g:=fun g hg=>⟨(ownsRow_lt h g hg).1,ownsRow_base h g hg⟩
theorem RowS.below {B C:Nat} {w w':World} {v:Value} {l:List Str} (h:RowS B w v l) (hb:Below C w w') (hC:∀ g,v.ownBlock=some g→g<C):RowS B w' v l:=ownsRow_heap h fun g hg=>hb.block g (hC g hg)
theorem RowS.on {B:Nat} {w w':World} {v:Value} {l:List Str} (h:RowS B w v l) (hb:Below w.heap.size w w'):RowS B w' v l:=h.below hb fun g hg=>(h.lt g hg).1
theorem RowS.grown {C:Nat} {w w':World} {v u:Value} {l:List Str} (h:RowS C w u l) (hg:w.grownBy w' v.ownBlock) (hv:∀ g,v.ownBlock=some g→u.ownBlock≠some g):RowS C w' u l:=by
 refine ownsRow_heap h fun g hgu=>hg.block g (h.lt g hgu).1 fun e=>hv g e.symm hgu
theorem app_one {w:World} {N:Nat} (hN:w.heap.size=N) {ops:Array Oper} {rest:List Oper} {o:Oper} {a:Act} {Q:Exit→Act→World→Prop} (hgd:o.guard=none) (s x:Operand)
  (ho:o.op=.call { callee:=.builtin .append,args:=#[s,x],argTypes:=#[26,26] }) (B:Nat) (v:Value) (l:List Str) (q:Str)
  (hs:a.eval s=v) (hown:RowS B w v l) (hx:a.eval x=.slice (some ⟨N,0,none⟩) 1 1) (hB:B≤w.heap.size) (hl:l.length≤10000000)
  (h:∀ v' w',RowS B w' v' (l++[q])→w.grownBy w' v.ownBlock→(∀ g,v'.ownBlock=some g→v.ownBlock=some g∨w.heap.size≤g)→wpList Tryz.prog ops Q rest (a.put o.dst v') w') :
  wpList Tryz.prog ops Q (o::rest) a (w.alloc (.cells #[.string ⟨q.toArray⟩] 9)):=by
 obtain ⟨i0,hi,hz0,hz1,hz2⟩:=info_parts Tryz.infoS
 subst hN
 have hown':(w.alloc (.cells #[.string ⟨q.toArray⟩] 9)).ownsRow B 9 1 v l.length (strCells l):=World.ownsRow.alloc hown _
 refine wpList_append_own_at _ hgd s x 26 ho B 9 i0 (.string ⟨#[]⟩) 1 16 Tryz.underlying26 hi hz0 hz1 hz2 rfl (by decide) v l.length (strCells l) hs hown' ⟨w.heap.size,0,none⟩ 1 1 [.string ⟨q.toArray⟩] hx rfl (cell_one_new _ _ _) (strCells_one [q]) ?_ ?_ ?_ ?_
 ·unfold maxLen;omega
 ·omega
 ·simp;omega
 ·intro v' w' hrow hg _ hat
  refine h v' w' ?_ ?_ ?_
  ·show w'.ownsRow B 9 1 v' (l++[q]).length (strCells (l++[q]))
   rw [strCells_app,List.length_append]
   exact hrow
  ·refine ⟨hg.os,hg.tape,hg.output,?_,fun k hk hr=>?_⟩
   ·have:=hg.size;simp at this;omega
   ·rw [hg.block k (by simp;omega) hr]
    exact Below.heap_alloc _ _ _ (by omega)
  ·intro g hgv
   rcases hat with h2 | h2
   ·exact .inl (by rw [← h2];exact hgv)
   ·rw [h2] at hgv
    have:=Option.some.inj hgv
    simp at this
    exact .inr (by omega)
theorem RowS.shape {B:Nat} {w:World} {v:Value} {l:List Str} (h:RowS B w v l):∃ a c,v=.slice a l.length c:=by
 rcases h.2 with ⟨rfl,h0⟩ | ⟨g,cap,cur,rfl,_⟩
 ·exact ⟨none,0,by rw [h0]⟩
 ·exact ⟨_,_,rfl⟩
theorem RowS.at {B:Nat} {w:World} {a:Option Addr} {n c:Nat} {l:List Str} (h:RowS B w (.slice a n c) l) {i:Nat} (hi:i<l.length):∃ g,a=some ⟨g,0,none⟩∧n=l.length∧w.cell? ⟨g,i,none⟩=some (.string ⟨l[i].toArray⟩):=by
 rcases h.2 with ⟨_,h0⟩ | ⟨g,cap,cur,e,_⟩
 ·omega
 ·have hc:=World.ownsRow.cells h (show (Value.slice a n c).ownBlock=some g by rw [e];rfl) i (.string ⟨l[i].toArray⟩) (by simp [strCells,hi])
  simp only [Value.slice.injEq] at e
  rw [add_none,Nat.zero_add] at hc
  exact ⟨g,e.1,e.2.1,hc⟩
theorem RowS.mono {B C:Nat} {w:World} {v:Value} {l:List Str} (h:RowS B w v l) (hb:C≤B):RowS C w v l:=by
 refine ⟨h.1,?_⟩
 rcases h.2 with hn | ⟨g,cap,cur,e,hB,rest⟩
 ·exact .inl hn
 ·exact .inr ⟨g,cap,cur,e,by omega,rest⟩
end Go.Proofs.YtbilphfbfnohmaaGreatDoor.Pz
namespace Go.Proofs.YtbilphfbfnohmaaGreatDoor.Pz
open Go.RowKit
theorem add_block (p:Addr) (i:Nat):(p.add i).block=p.block:=by
 unfold Addr.add
 split<;>rfl
def StrsAt (w:World) (v:Value) (l:List Str):Prop:=∃ a cap,v=.slice a l.length cap∧l.length≤cap∧∀ i (h:i<l.length),∃ p:Addr,a=some p∧p.block<w.heap.size∧w.cell? (p.add i)=some (.string ⟨l[i].toArray⟩)
theorem StrsAt.below {w w':World} {v:Value} {l:List Str} (h:StrsAt w v l) (hb:Below w.heap.size w w'):StrsAt w' v l:=by
 obtain ⟨a,cap,rfl,hc,h⟩:=h
 refine ⟨a,cap,rfl,hc,fun i hi=>?_⟩
 obtain ⟨p,h1,h2,h3⟩:=h i hi
 have:=hb.size
 exact ⟨p,h1,by omega,by rw [hb.cell (p:=p.add i) (by rw [add_block];exact h2)];exact h3⟩
theorem RowS.strs {B:Nat} {w:World} {v:Value} {l:List Str} (h:RowS B w v l):StrsAt w v l:=by
 obtain ⟨a,c,rfl⟩:=h.shape
 have hcap:l.length≤c:=by
  rcases h.2 with ⟨e,h0⟩ | ⟨g,cap,cur,e,_,_,hc,_⟩
  ·omega
  ·simp only [Value.slice.injEq] at e
   omega
 refine ⟨a,c,rfl,hcap,fun i hi=>?_⟩
 obtain ⟨g,rfl,_,hc⟩:=h.at hi
 exact ⟨⟨g,0,none⟩,rfl,(h.lt g rfl).1,by rw [add_none,Nat.zero_add];exact hc⟩
section
variable {ops:Array Oper} {rest:List Oper} {o:Oper} {a:Act} {Q:Exit→Act→World→Prop}
end
theorem strs_cells {w:World} {p:Addr} {n c:Nat} {l:List Str} (h:StrsAt w (.slice (some p) n c) l):∀ j u,(strCells l)[j]? = some u→w.cell? (p.add j)=some u:=by
 intro j u hj
 obtain ⟨a,cap,e,_,hcell⟩:=h
 simp only [Value.slice.injEq] at e
 obtain ⟨e1,rfl,rfl⟩:=e
 subst e1
 rw [strCells,List.getElem?_map] at hj
 cases hlj:l[j]? with
 | none=>rw [hlj] at hj;cases hj
 | some z=>
  rw [hlj] at hj
  have hj:=Option.some.inj hj
  subst hj
  obtain ⟨hjl,hz⟩:=List.getElem?_eq_some_iff.1 hlj
  obtain ⟨q,hq,_,hcq⟩:=hcell j hjl
  have hq:=Option.some.inj hq
  subst hq
  rw [hz] at hcq
  exact hcq
theorem app_strs {w:World} {ops:Array Oper} {rest:List Oper} {o:Oper} {a:Act} {Q:Exit→Act→World→Prop} (hgd:o.guard=none) (s x:Operand)
  (ho:o.op=.call { callee:=.builtin .append,args:=#[s,x],argTypes:=#[26,26] }) (B:Nat) (v:Value) (p:Addr) (n c:Nat) (l m:List Str)
  (hs:a.eval s=v) (hown:RowS B w v l) (hx:a.eval x=.slice (some p) n c) (hrow:StrsAt w (.slice (some p) n c) m) (hB:B≤w.heap.size) (hl:l.length+m.length≤10000000)
  (h:∀ v' w',RowS B w' v' (l++m)→w.grownBy w' v.ownBlock→(∀ g,v'.ownBlock=some g→v.ownBlock=some g∨w.heap.size≤g)→wpList Tryz.prog ops Q rest (a.put o.dst v') w') :
  wpList Tryz.prog ops Q (o::rest) a w:=by
 obtain ⟨i0,hi,hz0,hz1,hz2⟩:=info_parts Tryz.infoS
 have hn:n=m.length:=by
  obtain ⟨_,_,e,_⟩:=hrow
  simp only [Value.slice.injEq] at e
  exact e.2.1
 subst hn
 refine wpList_append_own_at w hgd s x 26 ho B 9 i0 (.string ⟨#[]⟩) 1 16 Tryz.underlying26 hi hz0 hz1 hz2 rfl (by decide) v l.length (strCells l) hs hown p m.length c (strCells m) hx (by rw [strCells_len];omega) (strs_cells hrow) (strCells_one m) ?_ ?_ hB ?_
 ·unfold maxLen;omega
 ·omega
 ·intro v' w' hrow' hg' _ hat
  refine h v' w' ?_ hg' ?_
  ·show w'.ownsRow B 9 1 v' (l++m).length (strCells (l++m))
   rw [strCells_app,List.length_append]
   exact hrow'
  ·intro g2 hgv
   rcases hat with h2 | h2
   ·exact .inl (by rw [← h2];exact hgv)
   ·rw [h2] at hgv
    have:=Option.some.inj hgv
    exact .inr (by omega)
theorem app_any {w:World} {ops:Array Oper} {rest:List Oper} {o:Oper} {a:Act} {Q:Exit→Act→World→Prop} (hgd:o.guard=none) (s x:Operand)
  (ho:o.op=.call { callee:=.builtin .append,args:=#[s,x],argTypes:=#[26,26] }) (B:Nat) (v u:Value) (l m:List Str)
  (hs:a.eval s=v) (hown:RowS B w v l) (hx:a.eval x=u) (hrow:StrsAt w u m) (hnil:∀ n c,u=.slice none n c→c=0) (hB:B≤w.heap.size) (hl:l.length+m.length≤10000000)
  (h:∀ v' w',RowS B w' v' (l++m)→w.grownBy w' v.ownBlock→(∀ g,v'.ownBlock=some g→v.ownBlock=some g∨w.heap.size≤g)→wpList Tryz.prog ops Q rest (a.put o.dst v') w') :
  wpList Tryz.prog ops Q (o::rest) a w:=by
 obtain ⟨i0,hi,hz0,hz1,hz2⟩:=info_parts Tryz.infoS
 have hrow2:=hrow
 obtain ⟨p,c,rfl,hcap,hcell⟩:=hrow
 cases p with
 | none=>
  obtain rfl:c=0:=hnil _ _ rfl
  have h0:m.length=0:=by omega
  obtain rfl:m=[]:=List.eq_nil_of_length_eq_zero h0
  refine wpList_append_own_none hgd s x 26 ho B 9 i0 1 Tryz.underlying26 hi v l.length (strCells l) hs hown hx ?_
  exact h v w (by simpa using hown) ⟨rfl,rfl,rfl,Nat.le_refl _,fun _ _ _=>rfl⟩ fun g hg=>.inl hg
 | some p=>exact app_strs hgd s x ho B v p m.length c l m hs hown hx hrow2 hB hl h
end Go.Proofs.YtbilphfbfnohmaaGreatDoor.Pz
namespace Go.Proofs.YtbilphfbfnohmaaGreatDoor.Pz
open Go.RowKit
def RowY (B:Nat) (w:World) (v:Value) (l:Str):Prop:=w.ownsRow B 5 1 v l.length (Lib.byteCells l)
theorem RowY.nil (B:Nat) (w:World):RowY B w (.slice none 0 0) []:=World.ownsRow_nil _ _ _ _
theorem RowY.lt {B:Nat} {w:World} {v:Value} {l:Str} (h:RowY B w v l):∀ g,v.ownBlock=some g→g<w.heap.size∧B≤g:=fun g hg=>⟨(ownsRow_lt h g hg).1,ownsRow_base h g hg⟩
theorem RowY.below {B C:Nat} {w w':World} {v:Value} {l:Str} (h:RowY B w v l) (hb:Below C w w') (hC:∀ g,v.ownBlock=some g→g<C):RowY B w' v l:=ownsRow_heap h fun g hg=>hb.block g (hC g hg)
theorem RowY.on {B:Nat} {w w':World} {v:Value} {l:Str} (h:RowY B w v l) (hb:Below w.heap.size w w'):RowY B w' v l:=h.below hb fun g hg=>(h.lt g hg).1
theorem RowY.grown {C:Nat} {w w':World} {v u:Value} {l:Str} (h:RowY C w u l) (hg:w.grownBy w' v.ownBlock) (hv:∀ g,v.ownBlock=some g→u.ownBlock≠some g):RowY C w' u l:=by
 refine ownsRow_heap h fun g hgu=>hg.block g (h.lt g hgu).1 fun e=>hv g e.symm hgu
theorem RowY.shape {B:Nat} {w:World} {v:Value} {l:Str} (h:RowY B w v l):∃ a c,v=.slice a l.length c:=by
 rcases h.2 with ⟨rfl,h0⟩ | ⟨g,cap,cur,rfl,_⟩
 ·exact ⟨none,0,by rw [h0]⟩
 ·exact ⟨_,_,rfl⟩
theorem RowY.at {B:Nat} {w:World} {a:Option Addr} {n c:Nat} {l:Str} (h:RowY B w (.slice a n c) l) {i:Nat} (hi:i<l.length):∃ g,a=some ⟨g,0,none⟩∧n=l.length∧w.cell? ⟨g,i,none⟩=some (.int .u8 (l[i].toNat:Nat)):=by
 rcases h.2 with ⟨_,h0⟩ | ⟨g,cap,cur,e,_⟩
 ·omega
 ·have hc:=World.ownsRow.cells h (show (Value.slice a n c).ownBlock=some g by rw [e];rfl) i (.int .u8 (l[i].toNat:Nat)) (by simp [Lib.byteCells,hi])
  simp only [Value.slice.injEq] at e
  rw [add_none,Nat.zero_add] at hc
  exact ⟨g,e.1,e.2.1,hc⟩
theorem RowY.mono {B C:Nat} {w:World} {v:Value} {l:Str} (h:RowY B w v l) (hb:C≤B):RowY C w v l:=by
 refine ⟨h.1,?_⟩
 rcases h.2 with hn | ⟨g,cap,cur,e,hB,rest⟩
 ·exact .inl hn
 ·exact .inr ⟨g,cap,cur,e,by omega,rest⟩
def BytsAt (w:World) (v:Value) (l:Str):Prop:=∃ a cap,v=.slice a l.length cap∧l.length≤cap∧∀ i (h:i<l.length),∃ p:Addr,a=some p∧p.block<w.heap.size∧w.cell? (p.add i)=some (.int .u8 (l[i].toNat:Nat))
theorem BytsAt.below {w w':World} {v:Value} {l:Str} (h:BytsAt w v l) (hb:Below w.heap.size w w'):BytsAt w' v l:=by
 obtain ⟨a,cap,rfl,hc,h⟩:=h
 refine ⟨a,cap,rfl,hc,fun i hi=>?_⟩
 obtain ⟨p,h1,h2,h3⟩:=h i hi
 have:=hb.size
 exact ⟨p,h1,by omega,by rw [hb.cell (p:=p.add i) (by rw [add_block];exact h2)];exact h3⟩
section
variable {ops:Array Oper} {rest:List Oper} {o:Oper} {a:Act} {Q:Exit→Act→World→Prop}
end
end Go.Proofs.YtbilphfbfnohmaaGreatDoor.Pz
namespace Go.Proofs.YtbilphfbfnohmaaGreatDoor.Pz
open Go.RowKit
theorem strsAt_off {w:World} {v:Value} {l:List Str} (h:StrsAt w v l):∃ a c,v=.slice a l.length c∧∀ i (hi:i<l.length),∃ b o,a=some ⟨b,o,none⟩∧w.cell? ⟨b,o+i,none⟩=some (.string ⟨l[i].toArray⟩):=by
 obtain ⟨a,c,rfl,_,hcell⟩:=h
 refine ⟨a,c,rfl,fun i hi=>?_⟩
 obtain ⟨p,rfl,_,hc⟩:=hcell i hi
 obtain ⟨p0,e0,_,hc0⟩:=hcell 0 (by omega)
 simp only [Option.some.injEq] at e0
 subst e0
 obtain ⟨b,o,spot⟩:=p
 have hspot:spot=none:=by simpa [Addr.add] using World.cell?_spot hc0
 subst hspot
 rw [add_none] at hc
 exact ⟨b,o,rfl,hc⟩
theorem take_succ_eq {l m:List Str} {i:Nat} (h:l.take i=m.take i) (h1:i<l.length) (h2:i<m.length) (h3:l[i]=m[i]):l.take (i+1)=m.take (i+1):=by
 rw [List.take_add_one,List.take_add_one,h,List.getElem?_eq_getElem h1,List.getElem?_eq_getElem h2,h3]
set_option maxRecDepth 100000 in
theorem sameG_fn {w:World} {u v:Value} {l m:List Str} (hu:StrsAt w u l) (hv:StrsAt w v m) (_hl:l.length≤10000000) (hm:m.length≤10000000) :
    Calls Tryz.prog 16 #[u,v] w fun e w'=>e=.returned (.bool (decide (l=m)))∧Below w.heap.size w w':=by
  have HU:=hid hu
  have HV:=hid hv
  obtain ⟨a1,c1,rfl,_⟩:=strsAt_off hu
  obtain ⟨a2,c2,rfl,_⟩:=strsAt_off hv
  obtain ⟨R,hR⟩:∃ R,R=decide (l=m):=⟨_,rfl⟩
  rw [← hR]
  have HR:=hid hR
  clear hu hv hR
  by_cases hlm:l.length=m.length
  · obtain ⟨n,hn⟩:∃ n,n=m.length:=⟨_,rfl⟩
    have HN:=hid hn
    have HLN:=hid (hlm.trans hn.symm)
    rw [hlm,← hn]
    clear hn hlm _hl
    have hm:n≤10000000:=by rw [HN.out];exact hm
    go_enter Tryz.func16,Tryz.ntmps16
    go_wp2
    go_loopg [13] n (fun k iv wr=>∃ i:Nat,iv=.int .i64 (i:Nat)∧Below w.heap.size w wr∧i+k=n∧l.take i=m.take i)
    case atStart=>exact ⟨0,rfl,Below.refl _ _,by simp,by simp⟩
    case round=>
      obtain ⟨i,rfl,hbl,hk,ht⟩:=hrel
      have HT:=hid ht
      clear ht
      by_cases hi:i<n
      · have hil:i<l.length:=by rw [HLN.out];exact hi
        have him:i<m.length:=by rw [← HN.out];exact hi
        obtain ⟨_,_,e1,x1⟩:=strsAt_off (HU.out.below hbl)
        obtain ⟨_,_,e2,x2⟩:=strsAt_off (HV.out.below hbl)
        obtain ⟨b1,o1,f1,y1⟩:=x1 i hil
        obtain ⟨b2,o2,f2,y2⟩:=x2 i him
        simp only [Value.slice.injEq] at e1 e2
        rw [← e1.1] at f1
        rw [← e2.1] at f2
        subst f1
        subst f2
        obtain ⟨s,hs⟩:∃ s,s=l[i]:=⟨_,rfl⟩
        obtain ⟨t,ht⟩:∃ t,t=m[i]:=⟨_,rfl⟩
        rw [← hs] at y1
        rw [← ht] at y2
        have HS:=hid hs
        have HTT:=hid ht
        have hi1:(0:Int)≤(i:Int)∧(i:Int)<(n:Int):=by omega
        have hi2:(i:Int)<(n:Int):=by omega
        clear hs ht x1 x2 e1 e2
        by_cases hst:s=t
        · subst hst
          go_wp2
          go_quiet (fail)
          have hbl0:=hid (show Below w.heap.size w (wr.drewN nq) from hbl.trans ⟨rfl,rfl,rfl,Nat.le_refl _,fun _ _=>rfl⟩)
          clear hbl y1 y2
          go_wp2
          go_roundg (n-(i+1))
          case measure=>omega
          case rel=>exact ⟨i+1,by go_num,hbl0.out,by omega,take_succ_eq HT.out (by rw [HLN.out];exact hi) (by rw [← HN.out];exact hi) (HS.out.symm.trans HTT.out)⟩
        · have hst2:(s == t)=false:=by rw [beq_eq_false_iff_ne];exact hst
          have hRf:R=false:=by
            rw [HR.out,decide_eq_false_iff_not]
            intro h
            apply hst
            rw [HS.out,HTT.out]
            subst h
            rfl
          subst hRf
          go_wp2
          go_quiet (fail)
          have hbl0:=hid (show Below w.heap.size w (wr.drewN nq) from hbl.trans ⟨rfl,rfl,rfl,Nat.le_refl _,fun _ _=>rfl⟩)
          clear hbl y1 y2
          go_wp2
          go_ret
          exact ⟨rfl,hbl0.out⟩
      · have hie:i=n:=by omega
        have hRt:R=true:=by
          have h:=HT.out
          rw [HR.out,decide_eq_true_iff]
          rwa [List.take_of_length_le (by rw [HLN.out];omega),List.take_of_length_le (by rw [← HN.out];omega)] at h
        subst hRt
        have hi2:¬ (i:Int)<(n:Int):=by omega
        go_wp2
        go_ret
        exact ⟨rfl,hbl⟩
  · have hR2 : R = false := by
      rw [HR.out,decide_eq_false_iff_not]
      exact fun h=>hlm (by rw [h])
    subst hR2
    have hne:¬ ((l.length:Int)=(m.length:Int)):=by omega
    go_enter Tryz.func16,Tryz.ntmps16
    go_wp2
    go_ret
    exact ⟨rfl,Below.refl _ _⟩
end Go.Proofs.YtbilphfbfnohmaaGreatDoor.Pz
namespace Go.Proofs.YtbilphfbfnohmaaGreatDoor.Pz
def special (c:UInt8):Bool:=white c || [34,92,123,125,36,91,93,59].contains c
def bal:Nat→Str→Bool
 | d,[]=>d == 0
 | d,c::t=>
  if c == 92 then
   match t with
   | []=>false
   | _::t'=>bal d t'
  else if c == 123 then bal (d+1) t
  else if c == 125 then
   match d with
   | 0=>false
   | d'+1=>bal d' t
  else bal d t
def hasBN:Str→Bool
 | []=>false
 | c::t=>(c == 92 && t.head? == some 10) || hasBN t
def balanced (s:Str):Bool:=bal 0 s && !hasBN s
def slash1 (c:UInt8):UInt8:=if c == 9 then 116 else if c == 10 then 110 else if c == 11 then 118 else if c == 12 then 102 else if c == 13 then 114 else c
def slash:Bool→Str→Str
 | _,[]=>[]
 | first,c::t=>if special c || (first && c == 35) then 92::slash1 c::slash false t else c::slash false t
def plainW (s:Str):Bool:=s.head? != some 35 && s.all fun c=>!special c
def quote (s:Str):Str:=if s.isEmpty then [123,125] else if plainW s then s else if balanced s then 123::(s++[125]) else slash true s
theorem byte_nat {c:UInt8} {n:Nat} (h:c.toNat=n):c=UInt8.ofNat n:=by
 subst h
 simp
theorem white_cases {c:UInt8} (h:white c=true):c=9∨c=10∨c=11∨c=12∨c=13∨c=32:=by
 simp only [white,Bool.or_eq_true,Bool.and_eq_true,decide_eq_true_eq,beq_iff_eq] at h
 rcases h with ⟨h1,h2⟩ | h
 ·have h1:9≤c.toNat:=h1
  have h2:c.toNat≤13:=h2
  have h3:c.toNat=9∨c.toNat=10∨c.toNat=11∨c.toNat=12∨c.toNat=13:=by omega
  rcases h3 with h | h | h | h | h
  ·exact .inl (byte_nat h)
  ·exact .inr (.inl (byte_nat h))
  ·exact .inr (.inr (.inl (byte_nat h)))
  ·exact .inr (.inr (.inr (.inl (byte_nat h))))
  ·exact .inr (.inr (.inr (.inr (.inl (byte_nat h)))))
 ·exact .inr (.inr (.inr (.inr (.inr h))))
def Slashy (c:UInt8):Prop:=c=9∨c=10∨c=11∨c=12∨c=13∨c=32∨c=34∨c=92∨c=123∨c=125∨c=36∨c=91∨c=93∨c=59∨c=35
theorem slashy {c:UInt8} (h:special c=true∨c=35):Slashy c:=by
 unfold Slashy
 rcases h with h | rfl
 ·rw [special,Bool.or_eq_true] at h
  rcases h with h | h
  ·rcases white_cases h with rfl | rfl | rfl | rfl | rfl | rfl<;>simp
  ·simp at h
   rcases h with rfl | rfl | rfl | rfl | rfl | rfl | rfl | rfl<;>simp
 ·simp
end Go.Proofs.YtbilphfbfnohmaaGreatDoor.Pz
namespace Go.Proofs.YtbilphfbfnohmaaGreatDoor.Pz
open Go.Shelf
def Tryz.lays144_ren:Go.Shelf.Ren:=⟨fun | 144=>39 | 143=>76 | 219=>129 | 217=>138 | 225=>174 | 224=>175 | 267=>176 | 266=>186 | 314=>201 | n=>n,fun | 9=>9 | 4=>4 | 3=>3 | 5=>5 | 46=>136 | 146=>174 | 51=>173 | n=>n,fun | 1=>1 | n=>n⟩
theorem Tryz.lays144:Go.Proofs.Lays.n144 Tryz.prog Tryz.lays144_ren:={
 mixed:=by kernel_rfl
 f143:=Tryz.func76.trans (congrArg some (by kernel_rfl))
 f144:=Tryz.func39.trans (congrArg some (by kernel_rfl))
 f217:=Tryz.func138.trans (congrArg some (by kernel_rfl))
 f219:=Tryz.func129.trans (congrArg some (by kernel_rfl))
 f224:=Tryz.func175.trans (congrArg some (by kernel_rfl))
 f225:=Tryz.func174.trans (congrArg some (by kernel_rfl))
 f266:=Tryz.func186.trans (congrArg some (by kernel_rfl))
 f267:=Tryz.func176.trans (congrArg some (by kernel_rfl))
 f314:=Tryz.func201.trans (congrArg some (by kernel_rfl))
 t3:=Tryz.underlying3
 a3:=Tryz.isAgg3
 z3:=Tryz.sizeOf3
 v3:=Tryz.zeroValue3
 t4:=Tryz.underlying4
 a4:=Tryz.isAgg4
 z4:=Tryz.sizeOf4
 v4:=Tryz.zeroValue4
 t5:=Tryz.underlying5
 a5:=Tryz.isAgg5
 z5:=Tryz.sizeOf5
 v5:=Tryz.zeroValue5
 t9:=Tryz.underlying9
 a9:=Tryz.isAgg9
 z9:=Tryz.sizeOf9
 v9:=Tryz.zeroValue9
 t46:=Tryz.underlying136
 a46:=Tryz.isAgg136
 z46:=Tryz.sizeOf136
 v46:=Tryz.zeroValue136
 t51:=Tryz.underlying173
 a51:=Tryz.isAgg173
 z51:=Tryz.sizeOf173
 v51:=Tryz.zeroValue173
 t146:=Tryz.underlying174
 a146:=Tryz.isAgg174
 z146:=Tryz.sizeOf174
 v146:=Tryz.zeroValue174
 g1:=by kernel_rfl }
open Go.RowKit Go.Lib in
theorem Tryz.strings_Contains (s sub:ByteArray) (m:Int) (w:World) (hs:s.size<4294967281) (hm:w.cell? ⟨1,0,none⟩=some (.int .i64 m)) :
  Calls Tryz.prog 39 #[.string s,.string sub] w fun e w'=>e=.returned (.bool (Lib.contains s.data.toList sub.data.toList))∧w'=w:=Any.strings_Contains Tryz.lays144 s sub m w hs hm
end Go.Proofs.YtbilphfbfnohmaaGreatDoor.Pz
namespace Go.Proofs.YtbilphfbfnohmaaGreatDoor.Pz
open Go.RowKit
set_option maxRecDepth 100000 in
theorem within1_fn (n lo hi:Int) (w:World):Calls Tryz.prog 159 #[.int .i64 n,.int .i64 lo,.int .i64 hi] w fun e w'=>e=.returned (.bool (decide (lo≤n) && decide (n≤hi)))∧w'=w:=by
 obtain ⟨R,hR⟩:∃ R,R=(decide (lo≤n) && decide (n≤hi)):=⟨_,rfl⟩
 rw [← hR]
 have HR:=hid hR
 clear hR
 by_cases h1:n≥lo
 ·by_cases h2:n≤hi
  ·have hr:R=true:=by rw [HR.out,decide_eq_true h1,decide_eq_true h2];rfl
   subst hr
   go_enter Tryz.func159,Tryz.ntmps159
   go_wp2
   go_ret
   exact ⟨rfl,rfl⟩
  ·have hr:R=false:=by rw [HR.out,decide_eq_true h1,decide_eq_false h2];rfl
   subst hr
   go_enter Tryz.func159,Tryz.ntmps159
   go_wp2
   go_ret
   exact ⟨rfl,rfl⟩
 ·have hr:R=false:=by rw [HR.out,decide_eq_false h1];rfl
  subst hr
  go_enter Tryz.func159,Tryz.ntmps159
  go_wp2
  go_ret
  exact ⟨rfl,rfl⟩
set_option maxRecDepth 100000 in
theorem whiteR_fn (c:UInt8) (w:World):Calls Tryz.prog 116 #[.int .u8 (c.toNat:Nat)] w fun e w'=>e=.returned (.bool (white c))∧w'=w:=by
  have hc:=hid (within1_fn (c.toNat:Nat) 9 13 w)
  have hW:=hid (white_nat c)
  have hl:c.toNat<256:=c.toNat_lt
  generalize white c=W at hW ⊢
  generalize c.toNat=x at hl hW hc ⊢
  by_cases h1:9≤x∧x≤13
  · have hd:(decide ((9:Int)≤(x:Int)) && decide ((x:Int)≤13))=true:=by simp;omega
    rw [hd] at hc
    go_enter Tryz.func116,Tryz.ntmps116
    go_wp2_with fail
    (with_reducible refine hc.out.mono ?_);rintro e w1 ⟨rfl,hw⟩;subst w1
    go_wp2
    go_ret
    exact ⟨by rw [hW.out,decide_eq_true h1.1,decide_eq_true h1.2];rfl,rfl⟩
  · have hd : (decide ((9 : Int) ≤ (x : Int)) && decide ((x : Int) ≤ 13)) = false := by
      rw [Bool.eq_false_iff]
      intro e
      simp at e
      omega
    have hn:(decide (9≤x) && decide (x≤13))=false:=by
      rw [Bool.eq_false_iff]
      intro e
      simp at e
      omega
    rw [hd] at hc
    by_cases h3:x=32
    · have h4:((x:Int) == 32)=true:=by rw [h3];rfl
      have H3:=hid h3
      clear h3
      go_enter Tryz.func116,Tryz.ntmps116
      go_wp2_with fail
      (with_reducible refine hc.out.mono ?_);rintro e w1 ⟨rfl,hw⟩;subst w1
      go_wp2
      go_ret
      exact ⟨by rw [hW.out,H3.out];rfl,rfl⟩
    · have h4:((x:Int) == 32)=false:=by simp;omega
      go_enter Tryz.func116,Tryz.ntmps116
      go_wp2_with fail
      (with_reducible refine hc.out.mono ?_);rintro e w1 ⟨rfl,hw⟩;subst w1
      go_wp2
      go_ret
      refine ⟨?_,rfl⟩
      rw [hW.out,hn,decide_eq_false h3]
      rfl
end Go.Proofs.YtbilphfbfnohmaaGreatDoor.Pz
