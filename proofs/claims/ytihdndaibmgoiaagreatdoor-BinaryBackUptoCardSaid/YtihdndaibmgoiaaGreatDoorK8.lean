/-
  Part K8 of the proofs of this seat, merged by a program out of 3 texts; remarks are struck.
-/
import Derived.Shelf.Strings.Trim
import Derived.Ground.MpProg
import Derived.Shelf.LaysM
import Derived.Test.YtihdndaibmgoiaaGreatDoorProg
import Derived.Shelf.Strings.OnBuilder
import Derived.Shelf.Strings.SlTrimAscii
import Derived.Laws.AppendOwn
import Derived.Test.YtihdndaibmgoiaaGreatDoorK7
namespace Go.Proofs.YtihdndaibmgoiaaGreatDoor.Pz
open Go.Shelf
def Tryz.lays162_ren:Go.Shelf.Ren:=⟨fun | 162=>85 | 232=>129 | 227=>130 | 234=>131 | 236=>132 | 228=>157 | 271=>158 | 151=>159 | 120=>182 | 197=>161 | 152=>183 | 260=>184 | 137=>97 | 119=>204 | 224=>171 | 225=>170 | 217=>139 | 266=>167 | n=>n,fun | 9=>9 | 4=>4 | 3=>3 | 5=>5 | 117=>147 | 116=>146 | 0=>0 | 124=>150 | 21=>21 | 105=>173 | 46=>98 | 119=>153 | 139=>156 | 138=>155 | n=>n,fun | 3=>0 | 4=>1 | n=>n⟩
theorem Tryz.lays162:Go.Proofs.Lays.n162 Tryz.prog Tryz.lays162_ren:={
 mixed:=by kernel_rfl
 f119:=Tryz.func204.trans (congrArg some (by kernel_rfl))
 f120:=Tryz.func182.trans (congrArg some (by kernel_rfl))
 f137:=Tryz.func97.trans (congrArg some (by kernel_rfl))
 f151:=Tryz.func159.trans (congrArg some (by kernel_rfl))
 f152:=Tryz.func183.trans (congrArg some (by kernel_rfl))
 f162:=Tryz.func85.trans (congrArg some (by kernel_rfl))
 f197:=Tryz.func161.trans (congrArg some (by kernel_rfl))
 f217:=Tryz.func139.trans (congrArg some (by kernel_rfl))
 f224:=Tryz.func171.trans (congrArg some (by kernel_rfl))
 f225:=Tryz.func170.trans (congrArg some (by kernel_rfl))
 f227:=Tryz.func130.trans (congrArg some (by kernel_rfl))
 f228:=Tryz.func157.trans (congrArg some (by kernel_rfl))
 f232:=Tryz.func129.trans (congrArg some (by kernel_rfl))
 f234:=Tryz.func131.trans (congrArg some (by kernel_rfl))
 f236:=Tryz.func132.trans (congrArg some (by kernel_rfl))
 f260:=Tryz.func184.trans (congrArg some (by kernel_rfl))
 f266:=Tryz.func167.trans (congrArg some (by kernel_rfl))
 f271:=Tryz.func158.trans (congrArg some (by kernel_rfl))
 t0:=Tryz.underlying0
 a0:=Tryz.isAgg0
 z0:=Tryz.sizeOf0
 v0:=Tryz.zeroValue0
 t3:=Tryz.underlying3
 a3:=Tryz.isAgg3
 z3:=Tryz.sizeOf3
 v3:=Tryz.zeroValue3
 t4:=Tryz.underlying4
 a4:=Tryz.isAgg4
 z4:=Tryz.sizeOf4
 v4:=Tryz.zeroValue4
 t5:=Tryz.underlying5
 a5:=Tryz.isAgg5
 z5:=Tryz.sizeOf5
 v5:=Tryz.zeroValue5
 t9:=Tryz.underlying9
 a9:=Tryz.isAgg9
 z9:=Tryz.sizeOf9
 v9:=Tryz.zeroValue9
 t21:=Tryz.underlying21
 a21:=Tryz.isAgg21
 z21:=Tryz.sizeOf21
 v21:=Tryz.zeroValue21
 t46:=Tryz.underlying98
 a46:=Tryz.isAgg98
 z46:=Tryz.sizeOf98
 v46:=Tryz.zeroValue98
 t105:=Tryz.underlying173
 a105:=Tryz.isAgg173
 z105:=Tryz.sizeOf173
 v105:=Tryz.zeroValue173
 t116:=Tryz.underlying146
 a116:=Tryz.isAgg146
 z116:=Tryz.sizeOf146
 t117:=Tryz.underlying147
 a117:=Tryz.isAgg147
 z117:=Tryz.sizeOf147
 v117:=Tryz.zeroValue147
 t119:=Tryz.underlying153
 a119:=Tryz.isAgg153
 z119:=Tryz.sizeOf153
 t124:=Tryz.underlying150
 a124:=Tryz.isAgg150
 z124:=Tryz.sizeOf150
 v124:=Tryz.zeroValue150
 t138:=Tryz.underlying155
 a138:=Tryz.isAgg155
 z138:=Tryz.sizeOf155
 v138:=Tryz.zeroValue155
 t139:=Tryz.underlying156
 a139:=Tryz.isAgg156
 z139:=Tryz.sizeOf156
 v139:=Tryz.zeroValue156
 g3:=by kernel_rfl
 g4:=by kernel_rfl }
end Go.Proofs.YtihdndaibmgoiaaGreatDoor.Pz
namespace Go.Proofs.YtihdndaibmgoiaaGreatDoor.Pz
open Go.Shelf
def Tryz.lays156_ren:Go.Shelf.Ren:=⟨fun | 156=>21 | 165=>76 | 166=>77 | 169=>78 | 240=>123 | 241=>124 | 276=>153 | 277=>154 | n=>n,fun | 31=>22 | 9=>9 | 3=>3 | 4=>4 | 0=>0 | 20=>20 | 72=>88 | 76=>92 | 70=>86 | 37=>46 | 75=>91 | 127=>140 | 164=>169 | 5=>5 | 80=>94 | n=>n,fun | n=>n⟩
theorem Tryz.lays156:Go.Proofs.Lays.n156 Tryz.prog Tryz.lays156_ren:={
 mixed:=by kernel_rfl
 f156:=Tryz.func21.trans (congrArg some (by kernel_rfl))
 f165:=Tryz.func76.trans (congrArg some (by kernel_rfl))
 f166:=Tryz.func77.trans (congrArg some (by kernel_rfl))
 f169:=Tryz.func78.trans (congrArg some (by kernel_rfl))
 f240:=Tryz.func123.trans (congrArg some (by kernel_rfl))
 f241:=Tryz.func124.trans (congrArg some (by kernel_rfl))
 f276:=Tryz.func153.trans (congrArg some (by kernel_rfl))
 f277:=Tryz.func154.trans (congrArg some (by kernel_rfl))
 t0:=Tryz.underlying0
 a0:=Tryz.isAgg0
 z0:=Tryz.sizeOf0
 v0:=Tryz.zeroValue0
 t3:=Tryz.underlying3
 a3:=Tryz.isAgg3
 z3:=Tryz.sizeOf3
 v3:=Tryz.zeroValue3
 t4:=Tryz.underlying4
 a4:=Tryz.isAgg4
 z4:=Tryz.sizeOf4
 v4:=Tryz.zeroValue4
 t9:=Tryz.underlying9
 a9:=Tryz.isAgg9
 z9:=Tryz.sizeOf9
 v9:=Tryz.zeroValue9
 t20:=Tryz.underlying20
 a20:=Tryz.isAgg20
 z20:=Tryz.sizeOf20
 v20:=Tryz.zeroValue20
 t31:=Tryz.underlying22
 a31:=Tryz.isAgg22
 z31:=Tryz.sizeOf22
 v31:=Tryz.zeroValue22
 t37:=Tryz.underlying46
 a37:=Tryz.isAgg46
 z37:=Tryz.sizeOf46
 v37:=Tryz.zeroValue46
 t70:=Tryz.underlying86
 a70:=Tryz.isAgg86
 z70:=Tryz.sizeOf86
 v70:=Tryz.zeroValue86
 t72:=Tryz.underlying88
 a72:=Tryz.isAgg88
 z72:=Tryz.sizeOf88
 v72:=Tryz.zeroValue88
 t75:=Tryz.underlying91
 a75:=Tryz.isAgg91
 z75:=Tryz.sizeOf91
 v75:=Tryz.zeroValue91
 t76:=Tryz.underlying92
 a76:=Tryz.isAgg92
 z76:=Tryz.sizeOf92
 v76:=Tryz.zeroValue92
 t127:=Tryz.underlying140
 a127:=Tryz.isAgg140
 z127:=Tryz.sizeOf140
 v127:=Tryz.zeroValue140
 t164:=Tryz.underlying169
 a164:=Tryz.isAgg169
 z164:=Tryz.sizeOf169
 v164:=Tryz.zeroValue169 }
theorem Tryz.Builder_Extra_156:Builder.Extra Tryz.prog Tryz.lays156_ren:={
 sizeBuilder:=by kernel_rfl
 liesBuilder:=by kernel_rfl
 t5:=Tryz.underlying5
 a5:=Tryz.isAgg5
 z5:=Tryz.sizeOf5
 v5:=Tryz.zeroValue5
 infoByte:=by kernel_rfl
 cellsByte:=by kernel_rfl
 sizeByte:=by kernel_rfl
 neB5:=by decide }
open Go.RowKit in
theorem Tryz.strings_Join (bk o c:Nat) (xs:List ByteArray) (sep:ByteArray) (w:World) (hcells:∀ (j:Nat) x,xs[j]? = some x→w.cell? ⟨bk,o+j,none⟩=some (.string x)) (hbk:bk<w.heap.size) (hN:xs.length≤140737488355328) (hcap:xs.length≤c) (hlen:(Lib.join (xs.map (·.data.toList)) sep.data.toList).length≤140737488355328) :
  Calls Tryz.prog 21 #[.slice (some ⟨bk,o,none⟩) xs.length c,.string sep] w fun e w'=>e=.returned (.string ⟨(Lib.join (xs.map (·.data.toList)) sep.data.toList).toArray⟩)∧Below w.heap.size w w':=Any.strings_Join Tryz.lays156 Tryz.Builder_Extra_156 bk o c xs sep w hcells hbk hN hcap hlen
open Go.RowKit in
theorem Tryz.strings_Join_none (a:Option Addr) (c:Nat) (sep:ByteArray) (w:World) :
  Calls Tryz.prog 21 #[.slice a 0 c,.string sep] w fun e w'=>e=.returned (.string ⟨#[]⟩)∧w'=w:=Any.strings_Join_none Tryz.lays156 Tryz.Builder_Extra_156 a c sep w
end Go.Proofs.YtihdndaibmgoiaaGreatDoor.Pz
namespace Go.Proofs.YtihdndaibmgoiaaGreatDoor.Pz
open Go.RowKit
attribute [local go_sem] Oper.semAt_some
theorem app_one_op {w:World} {o:Oper} {a:Act} {K:Act→World→Prop} {Q:Exit→Act→World→Prop} (s x:Operand)
  (ho:o.op=.call { callee:=.builtin .append,args:=#[s,x],argTypes:=#[22,22] })
  (B:Nat) (v:Value) (l:List Str) (q:Str) (hs:a.eval s=v) (hown:RowS B w v l)
  (hx:a.eval x=.slice (some ⟨w.heap.size,0,none⟩) 1 1) (hl:l.length≤10000000) (hB:B≤w.heap.size)
  (h:∀ v' w',RowS B w' v' (l++[q])→w.grownBy w' v.ownBlock→K (a.put o.dst v') w') :
  o.wp Tryz.prog a (w.alloc (.cells #[.string ⟨q.toArray⟩] 9)) K Q:=by
 obtain ⟨i0,hi,hz0,hz1,hz2⟩:=info_parts Tryz.infoS
 have hown':(w.alloc (.cells #[.string ⟨q.toArray⟩] 9)).ownsRow B 9 1 v l.length (strCells l):=World.ownsRow.alloc hown _
 refine wp_append_own _ s x 22 ho B 9 i0 (.string ⟨#[]⟩) 1 16 Tryz.underlying22 hi hz0 hz1 hz2 rfl (by decide) v l.length (strCells l) hs hown' ⟨w.heap.size,0,none⟩ 1 1 [.string ⟨q.toArray⟩] hx rfl (World.news_of_block (heap_alloc_new _ _)) (strCells_one [q]) ?_ ?_ ?_ ?_
 ·unfold maxLen;omega
 ·omega
 ·simp;omega
 ·intro v' w' hrow hg _
  refine h v' w' ?_ ?_
  ·show w'.ownsRow B 9 1 v' (l++[q]).length (strCells (l++[q]))
   rw [strCells_app,List.length_append]
   exact hrow
  ·refine ⟨hg.os,hg.tape,hg.output,?_,fun k hk hr=>?_⟩
   ·have:=hg.size;simp at this;omega
   ·rw [hg.block k (by simp;omega) hr]
    exact Below.heap_alloc _ _ _ (by omega)
def clsB (c:UInt8):Bool:=c == 97 || c == 65 || c == 120
 || (textL c && c != 97 && c != 65 && c != 120 && widthL c == 0)
 || (!textL c && c != 120 && c != 97 && c != 65 && (widthL c == 1 || widthL c == 2 || widthL c == 4 || widthL c == 8))
theorem fld_class {c:UInt8} (hk:knownL c=true) (h64:c≠64):c=97∨c=65∨c=120∨(textL c=true∧c≠97∧c≠65∧c≠120∧widthL c=0)∨(textL c=false∧c≠120∧c≠97∧c≠65∧(widthL c=1∨widthL c=2∨widthL c=4∨widthL c=8)):=by
 have h:(List.range 256).all (fun n=>!knownL (UInt8.ofNat n) || UInt8.ofNat n == 64 || clsB (UInt8.ofNat n))=true:=by kernel_rfl
 have h2:=List.all_eq_true.1 h c.toNat (List.mem_range.2 c.toNat_lt)
 rw [UInt8.ofNat_toNat] at h2
 simp only [hk,Bool.not_true,Bool.false_or,Bool.or_eq_true,beq_iff_eq,h64,false_or] at h2
 unfold clsB at h2
 simp only [Bool.or_eq_true,Bool.and_eq_true,beq_iff_eq,bne_iff_ne,ne_eq,Bool.not_eq_true'] at h2
 rcases h2 with ((((h | h) | h) | h) | h)
 ·exact .inl h
 ·exact .inr (.inl h)
 ·exact .inr (.inr (.inl h))
 ·obtain ⟨⟨⟨⟨a1,a2⟩,a3⟩,a4⟩,a5⟩:=h
  exact .inr (.inr (.inr (.inl ⟨a1,a2,a3,a4,a5⟩)))
 ·obtain ⟨⟨⟨⟨a1,a2⟩,a3⟩,a4⟩,a5⟩:=h
  exact .inr (.inr (.inr (.inr ⟨a1,a2,a3,a4,by omega⟩)))
theorem byte_is {c:UInt8} {d:UInt8} {k:Int} (h:c=d) (hk:(d.toNat:Int)=k):((c.toNat:Int) == k)=true:=by rw [h,hk];simp
theorem byte_is' {c:UInt8} {d:UInt8} {k:Int} (h:c=d) (hk:(d.toNat:Int)=k):((c.toNat:Int) != k)=false:=by rw [h,hk];simp
theorem trimZ_eq (s:Str):Lib.trimRightS s [32,0]=trimZ s:=by
 unfold Lib.trimRightS trimZ
 congr 2
 funext c
 by_cases h1:c=32
 ·subst h1;rfl
 ·by_cases h2:c=0
  ·subst h2;rfl
  ·simp [h1,h2]
theorem trimR_fn (s:Str) (w:World) (hl:s.length≤1000000) :
  Calls Tryz.prog 85 #[.string ⟨s.toArray⟩,.string ⟨#[32,0]⟩] w fun e w'=>e=.returned (.string ⟨(trimZ s).toArray⟩)∧Below w.heap.size w w':=by
 have h:=Any.strings_TrimRight_laid Tryz.lays162 (by kernel_rfl) ⟨s.toArray⟩ ⟨#[32,0]⟩ w (by rw [Lib.size_mk];omega) (by decide) (ascii_of_all (by decide))
 rw [show (⟨s.toArray⟩:ByteArray).data.toList=s from rfl,show (⟨#[32,0]⟩:ByteArray).data.toList=[32,0] from rfl,trimZ_eq] at h
 exact h
theorem join_B:∀ l:List Str,Lib.join l [32]=joinB l
 | []=>rfl
 | [a]=>Lib.join_one a _
 | a::b::l=>by
  have ih:=join_B (b::l)
  rw [Lib.join_cons] at ih
  rw [Lib.join_cons,joinB,← ih]
  simp [Lib.joinTail]
theorem joinB_len:∀ l:List Str,(joinB l).length≤sumT l+l.length
 | []=>Nat.le_refl _
 | [a]=>by rw [joinB,sumT,sumT];simp
 | a::b::l=>by
  have:=joinB_len (b::l)
  rw [joinB,sumT,List.length_append,List.length_cons,List.length_cons]
  omega
theorem joinB_fn (l:List Str) (v:Value) (w:World) (hv:StrsAt w v l) (hb:sumT l≤100000000) (hln:l.length≤10000000) :
  Calls Tryz.prog 21 #[v,.string ⟨#[32]⟩] w fun e w'=>e=.returned (.string ⟨(joinB l).toArray⟩)∧Below w.heap.size w w':=by
 obtain ⟨a,cap,rfl,hcap,hcell⟩:=hv
 cases l with
 | nil=>exact (Tryz.strings_Join_none a cap ⟨#[32]⟩ w).mono fun e w' h=>⟨h.1,by rw [h.2];exact Below.refl _ _⟩
 | cons x l=>
  obtain ⟨p,rfl,hbk,hc⟩:=hcell 0 (by simp)
  have hsp:=World.cell?_spot hc
  obtain ⟨bk,o,spot⟩:=p
  obtain rfl:spot=none:=by simpa [Addr.add] using hsp
  have hm:((x::l).map fun s:Str=>(⟨s.toArray⟩:ByteArray)).map (·.data.toList)=x::l:=by
   rw [List.map_map]
   conv=>rhs;rw [← List.map_id (x::l)]
   rfl
  have h:=Tryz.strings_Join bk o cap ((x::l).map fun s:Str=>(⟨s.toArray⟩:ByteArray)) ⟨#[32]⟩ w (fun j y hy=>by
   rw [List.getElem?_map] at hy
   cases hj:(x::l)[j]? with
   | none=>rw [hj] at hy;cases hy
   | some z=>
    rw [hj] at hy
    have hy:=Option.some.inj hy
    subst hy
    obtain ⟨hjl,hz⟩:=List.getElem?_eq_some_iff.1 hj
    obtain ⟨q,hq,_,hcq⟩:=hcell j hjl
    have hq:=Option.some.inj hq
    subst hq
    rw [add_none,hz] at hcq
    exact hcq) hbk (by rw [List.length_map];omega) (by rw [List.length_map];exact hcap) (by
    rw [hm,show (⟨#[32]⟩:ByteArray).data.toList=[32] from rfl,join_B]
    have:=joinB_len (x::l)
    omega)
  rw [hm,show (⟨#[32]⟩:ByteArray).data.toList=[32] from rfl,join_B,List.length_map] at h
  exact h
theorem chunksE_eq (k:Nat):∀ (n:Nat) (s:Str),chunksE k n s=(List.range n).map fun i=>(s.drop (k*i)).take k
 | 0,_=>rfl
 | n+1,s=>by
  rw [chunksE,chunksE_eq k n,List.range_succ_eq_map,List.map_cons,List.map_map]
  congr 1
  apply List.map_congr_left
  intro i _
  show ((s.drop k).drop (k*i)).take k=(s.drop (k*(i+1))).take k
  rw [List.drop_drop,Nat.mul_succ,Nat.add_comm]
def numsU (c:UInt8) (p:Bool) (k:Nat) (s:Str) (i:Nat):List Str:=(List.range i).map fun j=>numberE c p ((s.drop (k*j)).take k)
theorem numsU_all (c:UInt8) (p:Bool) (k n:Nat) (s:Str):(chunksE k n s).map (numberE c p)=numsU c p k s n:=by
 rw [chunksE_eq,List.map_map]
 rfl
theorem numsU_snoc (c:UInt8) (p:Bool) (k:Nat) (s:Str) (i:Nat):numsU c p k s (i+1)=numsU c p k s i++[numberE c p ((s.drop (k*i)).take k)]:=by
 unfold numsU
 rw [List.range_succ,List.map_append]
 rfl
theorem numsU_len (c:UInt8) (p:Bool) (k:Nat) (s:Str) (i:Nat):(numsU c p k s i).length=i:=by
 unfold numsU
 rw [List.length_map,List.length_range]
theorem numberE_len (c:UInt8) (p:Bool) (s:Str) (hs:s.length≤8):(numberE c p s).length≤40:=by
 have h1:∀ (n:Nat) (b:Bool),n<10 ^ 38→(numText 10 n b).length≤40:=by
  intro n b hn
  have h2:(strOf 10 n).length≤38:=by rw [strOf_length];exact (dlen_le_iff 10 n 38 (by decide)).2 hn
  unfold numText
  split
  ·simp
  ·split
   ·simp only [List.length_cons];omega
   ·omega
 have h3:∀ l:Str,l.length=s.length→ofLE l<256 ^ 8:=fun l hl=>Nat.lt_of_lt_of_le (ofLE_lt l) (Nat.pow_le_pow_right (by decide) (by omega))
 have h4:(ordE (highL c) s).length=s.length:=by
  unfold ordE
  split
  ·exact List.length_reverse
  ·rfl
 have h5:=h3 _ h4
 have h6:(256:Nat) ^ 8=18446744073709551616:=by decide
 have h7:(10:Nat) ^ 38=100000000000000000000000000000000000000:=by decide
 unfold numberE
 refine h1 _ _ ?_
 have hp:(2:Nat) ^ (8*s.length)≤2 ^ 64:=Nat.pow_le_pow_right (by decide) (by omega)
 have hp2:(2:Nat) ^ 64=18446744073709551616:=by decide
 generalize ofLE (ordE (highL c) s)=v at *
 split
 ·omega
 ·unfold signedE
  generalize (2:Nat) ^ (8*s.length)=B at *
  split<;>omega
theorem numsU_sum (c:UInt8) (p:Bool) (k:Nat) (hk:k≤8) (s:Str):∀ i,sumT (numsU c p k s i)≤40*i
 | 0=>Nat.le_refl _
 | i+1=>by
  have h0:∀ a b:List Str,sumT (a++b)=sumT a+sumT b:=by
   intro a b
   induction a with
   | nil=>rw [List.nil_append,sumT];omega
   | cons x a ih=>rw [List.cons_append,sumT,sumT,ih];omega
  have:=numsU_sum c p k hk s i
  have h1:=numberE_len c p ((s.drop (k*i)).take k) (by rw [List.length_take];omega)
  rw [numsU_snoc,h0,sumT,sumT]
  omega
def unpkR (f:Fld) (s:Str):Str×Nat×Bool:=
 if s.length<lenL f.letter (cntU f s.length) then ([],0,false)
 else (toldE f (cntU f s.length) (s.take (lenL f.letter (cntU f s.length))),lenL f.letter (cntU f s.length),true)
def UnpkQ (f:Fld) (s:Str) (w:World) (e:Ending) (w':World):Prop:=e=.returned (.tuple #[.string ⟨(unpkR f s).1.toArray⟩,.int .i64 ((unpkR f s).2.1:Nat),.bool (unpkR f s).2.2])∧Below w.heap.size w w'
theorem cntU_le (c:UInt8) (p:Bool) (n:Int) (hn:-2≤n∧n≤9999) (m:Nat) (hm:m≤100000):cntU ⟨c,p,n⟩ m≤800000:=by
 unfold cntU oneC
 dsimp only
 split
 ·split
  ·omega
  ·split
   ·have:=Nat.div_le_self (m*8) (bitsL c)
    omega
   ·have:=Nat.div_le_self m (max 1 (widthL c))
    omega
 ·split<;>omega
set_option maxRecDepth 100000 in
set_option maxHeartbeats 8000000 in
theorem unpacked_fn (c:UInt8) (p:Bool) (n:Int) (hn:-2≤n∧n≤9999) (hkn:knownL c=true) (h64:c≠64) (s:Str) (hs:s.length≤100000) (w:World) (htab:Tab w) :
  Calls Tryz.prog 80 #[.agg #[.int .u8 (c.toNat:Nat),.bool p,.int .i64 n],.string ⟨s.toArray⟩] w (UnpkQ ⟨c,p,n⟩ s w):=by
 have hsz:(⟨s.toArray⟩:ByteArray).size=s.length:=Lib.size_mk _
 obtain ⟨N,hN⟩:∃ N,N=cntU ⟨c,p,n⟩ s.length:=⟨_,rfl⟩
 have hN8:N≤800000:=by rw [hN];exact cntU_le c p n hn _ hs
 obtain ⟨w0,hw0⟩:∃ w0,w0=w.alloc (.cells #[.int .u8 (c.toNat:Nat),.bool p,.int .i64 n] 79):=⟨_,rfl⟩
 have hF0:FBlk w.heap.size w0 ⟨c,p,n⟩:=⟨by rw [hw0];exact heap_alloc_new _ _⟩
 have hb0:Below w.heap.size w w0:=by rw [hw0];exact (Below.refl _ _).alloc (Nat.le_refl _) _
 have HONE:=hid (one_fldC c p n w0)
 have HW0:=hid hw0
 have HF0:=hid hF0
 have HB0:=hid hb0
 have HN:=hid hN
 have HT:=hid htab
 have HCLS:=hid (fld_class hkn h64)
 have c0:=hF0.c0
 have c1:=hF0.c1
 have c2:=hF0.c2
 clear hw0 hF0 hb0 hN htab hkn h64
 go_enter Tryz.func80,Tryz.ntmps80
 go_upto_if 15 with (rw [← HW0.out];(with_reducible refine HONE.out.mono ?_);rintro e w1 ⟨rfl,hb1⟩;have hF1:=HF0.out.on hb1;have d0:=hF1.c0;have d1:=hF1.c1;have d2:=hF1.c2;have HF1:=hid hF1;have HB1:=hid (HB0.out.trans (hb1.mono HB0.out.size));clear hF1 hb1)
 go_cut [7] from 16 to 104 (fun nv wx=>nv=.int .i64 (N:Nat)∧FBlk w.heap.size wx ⟨c,p,n⟩∧Below w.heap.size w wx)
 case first=>
  by_cases h2:n = -2
  ·subst h2
   have e2:((-2:Int) == -2)=true:=rfl
   rcases HCLS.out with h97 | h65 | h120 | ⟨htx,h97,h65,h120,hwd⟩ | ⟨htx,h120,h97,h65,hwd⟩
   ·have y97:((c.toNat:Int) != 97)=false:=byte_is' h97 rfl
    have y120:((c.toNat:Int) == 120)=false:=byte_ne 120 (show c≠120 from by rw [h97];decide) rfl
    have htx:textL c=true:=by rw [h97];decide
    have hwd:widthL c=0:=by rw [h97];decide
    have HN2:=hid (show N=s.length by rw [HN.out];unfold cntU;dsimp only;rw [if_pos rfl,if_neg (by rw [h97];decide),if_neg (by rw [h97];decide),hwd];exact Nat.div_one _)
    have HWD:=hid (show ∀ u,Calls Tryz.prog 121 #[.agg #[.int .u8 (c.toNat:Nat),.bool p,.int .i64 (-2)]] u fun e w'=>e=.returned (.int .i64 0)∧Below u.heap.size u w' from fun u=>by have h:=width_fn c p (-2) u;rw [hwd] at h;exact h)
    have HTX:=hid (show ∀ u,Calls Tryz.prog 122 #[.agg #[.int .u8 (c.toNat:Nat),.bool p,.int .i64 (-2)]] u fun e w'=>e=.returned (.bool true)∧Below u.heap.size u w' from fun u=>by have h:=text_fn c p (-2) u;rw [htx] at h;exact h)
    clear htx hwd h97
    go_wp2_with (first|((with_reducible refine (HWD.out _).mono ?_);rintro e w2 ⟨rfl,hb2⟩;have hF2:=HF1.out.on hb2;have g0:=hF2.c0;have g1:=hF2.c1;have g2:=hF2.c2;have HF2:=hid hF2;have HB2:=hid (HB1.out.trans (hb2.mono HB1.out.size));clear hF2 hb2)|((with_reducible refine (HTX.out _).mono ?_);rintro e w3 ⟨rfl,hb3⟩;have hF3:=HF2.out.on hb3;have k0:=hF3.c0;have k1:=hF3.c1;have k2:=hF3.c2;have HF3:=hid hF3;have HB3:=hid (HB2.out.trans (hb3.mono HB2.out.size));clear hF3 hb3))
    go_meet
    case rel=>exact ⟨congrArg (Value.int .i64) (by have:=HN2.out;(try rw [show max (1:Int) 8=8 from by decide]);(try rw [show max (1:Int) (8*8)=64 from by decide]);(try rw [show max (1:Int) (8*max 1 0)=8 from by decide]);(try rw [show max (1:Int) (8*max 1 2)=16 from by decide]);(try rw [show max (1:Int) (8*max 1 4)=32 from by decide]);(try rw [show max (1:Int) (8*max 1 8)=64 from by decide]);omega),HF3.out,HB3.out⟩
   ·have y97:((c.toNat:Int) != 97)=true:=byte_ne' 97 (show c≠97 from by rw [h65];decide) rfl
    have y65:((c.toNat:Int) != 65)=false:=byte_is' h65 rfl
    have y120:((c.toNat:Int) == 120)=false:=byte_ne 120 (show c≠120 from by rw [h65];decide) rfl
    have htx:textL c=true:=by rw [h65];decide
    have hwd:widthL c=0:=by rw [h65];decide
    have HN2:=hid (show N=s.length by rw [HN.out];unfold cntU;dsimp only;rw [if_pos rfl,if_neg (by rw [h65];decide),if_neg (by rw [h65];decide),hwd];exact Nat.div_one _)
    have HWD:=hid (show ∀ u,Calls Tryz.prog 121 #[.agg #[.int .u8 (c.toNat:Nat),.bool p,.int .i64 (-2)]] u fun e w'=>e=.returned (.int .i64 0)∧Below u.heap.size u w' from fun u=>by have h:=width_fn c p (-2) u;rw [hwd] at h;exact h)
    have HTX:=hid (show ∀ u,Calls Tryz.prog 122 #[.agg #[.int .u8 (c.toNat:Nat),.bool p,.int .i64 (-2)]] u fun e w'=>e=.returned (.bool true)∧Below u.heap.size u w' from fun u=>by have h:=text_fn c p (-2) u;rw [htx] at h;exact h)
    clear htx hwd h65
    go_wp2_with (first|((with_reducible refine (HWD.out _).mono ?_);rintro e w2 ⟨rfl,hb2⟩;have hF2:=HF1.out.on hb2;have g0:=hF2.c0;have g1:=hF2.c1;have g2:=hF2.c2;have HF2:=hid hF2;have HB2:=hid (HB1.out.trans (hb2.mono HB1.out.size));clear hF2 hb2)|((with_reducible refine (HTX.out _).mono ?_);rintro e w3 ⟨rfl,hb3⟩;have hF3:=HF2.out.on hb3;have k0:=hF3.c0;have k1:=hF3.c1;have k2:=hF3.c2;have HF3:=hid hF3;have HB3:=hid (HB2.out.trans (hb3.mono HB2.out.size));clear hF3 hb3))
    go_meet
    case rel=>exact ⟨congrArg (Value.int .i64) (by have:=HN2.out;(try rw [show max (1:Int) 8=8 from by decide]);(try rw [show max (1:Int) (8*8)=64 from by decide]);(try rw [show max (1:Int) (8*max 1 0)=8 from by decide]);(try rw [show max (1:Int) (8*max 1 2)=16 from by decide]);(try rw [show max (1:Int) (8*max 1 4)=32 from by decide]);(try rw [show max (1:Int) (8*max 1 8)=64 from by decide]);omega),HF3.out,HB3.out⟩
   ·have y120:((c.toNat:Int) == 120)=true:=byte_is h120 rfl
    have htx:textL c=false:=by rw [h120];decide
    have hwd:widthL c=0:=by rw [h120];decide
    have HN2:=hid (show N=1 by rw [HN.out];unfold cntU;dsimp only;rw [if_pos rfl,if_pos (by rw [h120];rfl)])
    have HWD:=hid (show ∀ u,Calls Tryz.prog 121 #[.agg #[.int .u8 (c.toNat:Nat),.bool p,.int .i64 (-2)]] u fun e w'=>e=.returned (.int .i64 0)∧Below u.heap.size u w' from fun u=>by have h:=width_fn c p (-2) u;rw [hwd] at h;exact h)
    have HTX:=hid (show ∀ u,Calls Tryz.prog 122 #[.agg #[.int .u8 (c.toNat:Nat),.bool p,.int .i64 (-2)]] u fun e w'=>e=.returned (.bool false)∧Below u.heap.size u w' from fun u=>by have h:=text_fn c p (-2) u;rw [htx] at h;exact h)
    clear htx hwd h120
    go_wp2_with (first|((with_reducible refine (HWD.out _).mono ?_);rintro e w2 ⟨rfl,hb2⟩;have hF2:=HF1.out.on hb2;have g0:=hF2.c0;have g1:=hF2.c1;have g2:=hF2.c2;have HF2:=hid hF2;have HB2:=hid (HB1.out.trans (hb2.mono HB1.out.size));clear hF2 hb2)|((with_reducible refine (HTX.out _).mono ?_);rintro e w3 ⟨rfl,hb3⟩;have hF3:=HF2.out.on hb3;have k0:=hF3.c0;have k1:=hF3.c1;have k2:=hF3.c2;have HF3:=hid hF3;have HB3:=hid (HB2.out.trans (hb3.mono HB2.out.size));clear hF3 hb3))
    go_meet
    case rel=>exact ⟨congrArg (Value.int .i64) (by have:=HN2.out;(try rw [show max (1:Int) 8=8 from by decide]);(try rw [show max (1:Int) (8*8)=64 from by decide]);(try rw [show max (1:Int) (8*max 1 0)=8 from by decide]);(try rw [show max (1:Int) (8*max 1 2)=16 from by decide]);(try rw [show max (1:Int) (8*max 1 4)=32 from by decide]);(try rw [show max (1:Int) (8*max 1 8)=64 from by decide]);omega),HF3.out,HB3.out⟩
   ·rcases bitsL_cases c with hbt | hbt
    ·have y97:=byte_ne' 97 h97 rfl
     have y65:=byte_ne' 65 h65 rfl
     have y120:=byte_ne 120 h120 rfl
     have HN2:=hid (show N=s.length*8 / 1 by rw [HN.out];unfold cntU;dsimp only;rw [if_pos rfl,if_neg (by simpa using h120),if_pos (by rw [htx];simp [h97,h65]),hbt])
     have HWD:=hid (show ∀ u,Calls Tryz.prog 121 #[.agg #[.int .u8 (c.toNat:Nat),.bool p,.int .i64 (-2)]] u fun e w'=>e=.returned (.int .i64 0)∧Below u.heap.size u w' from fun u=>by have h:=width_fn c p (-2) u;rw [hwd] at h;exact h)
     have HTX:=hid (show ∀ u,Calls Tryz.prog 122 #[.agg #[.int .u8 (c.toNat:Nat),.bool p,.int .i64 (-2)]] u fun e w'=>e=.returned (.bool true)∧Below u.heap.size u w' from fun u=>by have h:=text_fn c p (-2) u;rw [htx] at h;exact h)
     have HDG:=hid (show ∀ u,Calls Tryz.prog 125 #[.int .u8 (c.toNat:Nat)] u fun e w'=>e=.returned (.int .i64 1)∧w'=u from fun u=>by have h:=digitsOf_fn c u;rw [hbt] at h;exact h)
     clear htx h97 h65 h120 hwd hbt
     go_wp2_with (first|((with_reducible refine (HWD.out _).mono ?_);rintro e w2 ⟨rfl,hb2⟩;have hF2:=HF1.out.on hb2;have g0:=hF2.c0;have g1:=hF2.c1;have g2:=hF2.c2;have HF2:=hid hF2;have HB2:=hid (HB1.out.trans (hb2.mono HB1.out.size));clear hF2 hb2)|((with_reducible refine (HTX.out _).mono ?_);rintro e w3 ⟨rfl,hb3⟩;have hF3:=HF2.out.on hb3;have k0:=hF3.c0;have k1:=hF3.c1;have k2:=hF3.c2;have HF3:=hid hF3;have HB3:=hid (HB2.out.trans (hb3.mono HB2.out.size));clear hF3 hb3)|((with_reducible refine (HDG.out _).mono ?_);rintro e w3 ⟨rfl,rfl⟩))
     go_meet
     case rel=>exact ⟨congrArg (Value.int .i64) (by have:=HN2.out;(try rw [show max (1:Int) 8=8 from by decide]);(try rw [show max (1:Int) (8*8)=64 from by decide]);(try rw [show max (1:Int) (8*max 1 0)=8 from by decide]);(try rw [show max (1:Int) (8*max 1 2)=16 from by decide]);(try rw [show max (1:Int) (8*max 1 4)=32 from by decide]);(try rw [show max (1:Int) (8*max 1 8)=64 from by decide]);omega),HF3.out,HB3.out⟩
    ·have y97:=byte_ne' 97 h97 rfl
     have y65:=byte_ne' 65 h65 rfl
     have y120:=byte_ne 120 h120 rfl
     have HN2:=hid (show N=s.length*8 / 4 by rw [HN.out];unfold cntU;dsimp only;rw [if_pos rfl,if_neg (by simpa using h120),if_pos (by rw [htx];simp [h97,h65]),hbt])
     have HWD:=hid (show ∀ u,Calls Tryz.prog 121 #[.agg #[.int .u8 (c.toNat:Nat),.bool p,.int .i64 (-2)]] u fun e w'=>e=.returned (.int .i64 0)∧Below u.heap.size u w' from fun u=>by have h:=width_fn c p (-2) u;rw [hwd] at h;exact h)
     have HTX:=hid (show ∀ u,Calls Tryz.prog 122 #[.agg #[.int .u8 (c.toNat:Nat),.bool p,.int .i64 (-2)]] u fun e w'=>e=.returned (.bool true)∧Below u.heap.size u w' from fun u=>by have h:=text_fn c p (-2) u;rw [htx] at h;exact h)
     have HDG:=hid (show ∀ u,Calls Tryz.prog 125 #[.int .u8 (c.toNat:Nat)] u fun e w'=>e=.returned (.int .i64 4)∧w'=u from fun u=>by have h:=digitsOf_fn c u;rw [hbt] at h;exact h)
     clear htx h97 h65 h120 hwd hbt
     go_wp2_with (first|((with_reducible refine (HWD.out _).mono ?_);rintro e w2 ⟨rfl,hb2⟩;have hF2:=HF1.out.on hb2;have g0:=hF2.c0;have g1:=hF2.c1;have g2:=hF2.c2;have HF2:=hid hF2;have HB2:=hid (HB1.out.trans (hb2.mono HB1.out.size));clear hF2 hb2)|((with_reducible refine (HTX.out _).mono ?_);rintro e w3 ⟨rfl,hb3⟩;have hF3:=HF2.out.on hb3;have k0:=hF3.c0;have k1:=hF3.c1;have k2:=hF3.c2;have HF3:=hid hF3;have HB3:=hid (HB2.out.trans (hb3.mono HB2.out.size));clear hF3 hb3)|((with_reducible refine (HDG.out _).mono ?_);rintro e w3 ⟨rfl,rfl⟩))
     go_meet
     case rel=>exact ⟨congrArg (Value.int .i64) (by have:=HN2.out;(try rw [show max (1:Int) 8=8 from by decide]);(try rw [show max (1:Int) (8*8)=64 from by decide]);(try rw [show max (1:Int) (8*max 1 0)=8 from by decide]);(try rw [show max (1:Int) (8*max 1 2)=16 from by decide]);(try rw [show max (1:Int) (8*max 1 4)=32 from by decide]);(try rw [show max (1:Int) (8*max 1 8)=64 from by decide]);omega),HF3.out,HB3.out⟩
   ·rcases hwd with hwd | hwd | hwd | hwd
    ·have y120:=byte_ne 120 h120 rfl
     have HN2:=hid (show N=s.length / 1 by rw [HN.out];unfold cntU;dsimp only;rw [if_pos rfl,if_neg (by simpa using h120),if_neg (by rw [htx];simp),hwd];rfl)
     have HWD:=hid (show ∀ u,Calls Tryz.prog 121 #[.agg #[.int .u8 (c.toNat:Nat),.bool p,.int .i64 (-2)]] u fun e w'=>e=.returned (.int .i64 1)∧Below u.heap.size u w' from fun u=>by have h:=width_fn c p (-2) u;rw [hwd] at h;exact h)
     have HTX:=hid (show ∀ u,Calls Tryz.prog 122 #[.agg #[.int .u8 (c.toNat:Nat),.bool p,.int .i64 (-2)]] u fun e w'=>e=.returned (.bool false)∧Below u.heap.size u w' from fun u=>by have h:=text_fn c p (-2) u;rw [htx] at h;exact h)
     clear htx h97 h65 h120 hwd
     go_wp2_with (first|((with_reducible refine (HWD.out _).mono ?_);rintro e w2 ⟨rfl,hb2⟩;have hF2:=HF1.out.on hb2;have g0:=hF2.c0;have g1:=hF2.c1;have g2:=hF2.c2;have HF2:=hid hF2;have HB2:=hid (HB1.out.trans (hb2.mono HB1.out.size));clear hF2 hb2)|((with_reducible refine (HTX.out _).mono ?_);rintro e w3 ⟨rfl,hb3⟩;have hF3:=HF2.out.on hb3;have k0:=hF3.c0;have k1:=hF3.c1;have k2:=hF3.c2;have HF3:=hid hF3;have HB3:=hid (HB2.out.trans (hb3.mono HB2.out.size));clear hF3 hb3))
     go_meet
     case rel=>exact ⟨congrArg (Value.int .i64) (by have:=HN2.out;(try rw [show max (1:Int) 8=8 from by decide]);(try rw [show max (1:Int) (8*8)=64 from by decide]);(try rw [show max (1:Int) (8*max 1 0)=8 from by decide]);(try rw [show max (1:Int) (8*max 1 2)=16 from by decide]);(try rw [show max (1:Int) (8*max 1 4)=32 from by decide]);(try rw [show max (1:Int) (8*max 1 8)=64 from by decide]);omega),HF3.out,HB3.out⟩
    ·have y120:=byte_ne 120 h120 rfl
     have HN2:=hid (show N=s.length / 2 by rw [HN.out];unfold cntU;dsimp only;rw [if_pos rfl,if_neg (by simpa using h120),if_neg (by rw [htx];simp),hwd];rfl)
     have HWD:=hid (show ∀ u,Calls Tryz.prog 121 #[.agg #[.int .u8 (c.toNat:Nat),.bool p,.int .i64 (-2)]] u fun e w'=>e=.returned (.int .i64 2)∧Below u.heap.size u w' from fun u=>by have h:=width_fn c p (-2) u;rw [hwd] at h;exact h)
     have HTX:=hid (show ∀ u,Calls Tryz.prog 122 #[.agg #[.int .u8 (c.toNat:Nat),.bool p,.int .i64 (-2)]] u fun e w'=>e=.returned (.bool false)∧Below u.heap.size u w' from fun u=>by have h:=text_fn c p (-2) u;rw [htx] at h;exact h)
     clear htx h97 h65 h120 hwd
     go_wp2_with (first|((with_reducible refine (HWD.out _).mono ?_);rintro e w2 ⟨rfl,hb2⟩;have hF2:=HF1.out.on hb2;have g0:=hF2.c0;have g1:=hF2.c1;have g2:=hF2.c2;have HF2:=hid hF2;have HB2:=hid (HB1.out.trans (hb2.mono HB1.out.size));clear hF2 hb2)|((with_reducible refine (HTX.out _).mono ?_);rintro e w3 ⟨rfl,hb3⟩;have hF3:=HF2.out.on hb3;have k0:=hF3.c0;have k1:=hF3.c1;have k2:=hF3.c2;have HF3:=hid hF3;have HB3:=hid (HB2.out.trans (hb3.mono HB2.out.size));clear hF3 hb3))
     go_meet
     case rel=>exact ⟨congrArg (Value.int .i64) (by have:=HN2.out;(try rw [show max (1:Int) 8=8 from by decide]);(try rw [show max (1:Int) (8*8)=64 from by decide]);(try rw [show max (1:Int) (8*max 1 0)=8 from by decide]);(try rw [show max (1:Int) (8*max 1 2)=16 from by decide]);(try rw [show max (1:Int) (8*max 1 4)=32 from by decide]);(try rw [show max (1:Int) (8*max 1 8)=64 from by decide]);omega),HF3.out,HB3.out⟩
    ·have y120:=byte_ne 120 h120 rfl
     have HN2:=hid (show N=s.length / 4 by rw [HN.out];unfold cntU;dsimp only;rw [if_pos rfl,if_neg (by simpa using h120),if_neg (by rw [htx];simp),hwd];rfl)
     have HWD:=hid (show ∀ u,Calls Tryz.prog 121 #[.agg #[.int .u8 (c.toNat:Nat),.bool p,.int .i64 (-2)]] u fun e w'=>e=.returned (.int .i64 4)∧Below u.heap.size u w' from fun u=>by have h:=width_fn c p (-2) u;rw [hwd] at h;exact h)
     have HTX:=hid (show ∀ u,Calls Tryz.prog 122 #[.agg #[.int .u8 (c.toNat:Nat),.bool p,.int .i64 (-2)]] u fun e w'=>e=.returned (.bool false)∧Below u.heap.size u w' from fun u=>by have h:=text_fn c p (-2) u;rw [htx] at h;exact h)
     clear htx h97 h65 h120 hwd
     go_wp2_with (first|((with_reducible refine (HWD.out _).mono ?_);rintro e w2 ⟨rfl,hb2⟩;have hF2:=HF1.out.on hb2;have g0:=hF2.c0;have g1:=hF2.c1;have g2:=hF2.c2;have HF2:=hid hF2;have HB2:=hid (HB1.out.trans (hb2.mono HB1.out.size));clear hF2 hb2)|((with_reducible refine (HTX.out _).mono ?_);rintro e w3 ⟨rfl,hb3⟩;have hF3:=HF2.out.on hb3;have k0:=hF3.c0;have k1:=hF3.c1;have k2:=hF3.c2;have HF3:=hid hF3;have HB3:=hid (HB2.out.trans (hb3.mono HB2.out.size));clear hF3 hb3))
     go_meet
     case rel=>exact ⟨congrArg (Value.int .i64) (by have:=HN2.out;(try rw [show max (1:Int) 8=8 from by decide]);(try rw [show max (1:Int) (8*8)=64 from by decide]);(try rw [show max (1:Int) (8*max 1 0)=8 from by decide]);(try rw [show max (1:Int) (8*max 1 2)=16 from by decide]);(try rw [show max (1:Int) (8*max 1 4)=32 from by decide]);(try rw [show max (1:Int) (8*max 1 8)=64 from by decide]);omega),HF3.out,HB3.out⟩
    ·have y120:=byte_ne 120 h120 rfl
     have HN2:=hid (show N=s.length / 8 by rw [HN.out];unfold cntU;dsimp only;rw [if_pos rfl,if_neg (by simpa using h120),if_neg (by rw [htx];simp),hwd];rfl)
     have HWD:=hid (show ∀ u,Calls Tryz.prog 121 #[.agg #[.int .u8 (c.toNat:Nat),.bool p,.int .i64 (-2)]] u fun e w'=>e=.returned (.int .i64 8)∧Below u.heap.size u w' from fun u=>by have h:=width_fn c p (-2) u;rw [hwd] at h;exact h)
     have HTX:=hid (show ∀ u,Calls Tryz.prog 122 #[.agg #[.int .u8 (c.toNat:Nat),.bool p,.int .i64 (-2)]] u fun e w'=>e=.returned (.bool false)∧Below u.heap.size u w' from fun u=>by have h:=text_fn c p (-2) u;rw [htx] at h;exact h)
     clear htx h97 h65 h120 hwd
     go_wp2_with (first|((with_reducible refine (HWD.out _).mono ?_);rintro e w2 ⟨rfl,hb2⟩;have hF2:=HF1.out.on hb2;have g0:=hF2.c0;have g1:=hF2.c1;have g2:=hF2.c2;have HF2:=hid hF2;have HB2:=hid (HB1.out.trans (hb2.mono HB1.out.size));clear hF2 hb2)|((with_reducible refine (HTX.out _).mono ?_);rintro e w3 ⟨rfl,hb3⟩;have hF3:=HF2.out.on hb3;have k0:=hF3.c0;have k1:=hF3.c1;have k2:=hF3.c2;have HF3:=hid hF3;have HB3:=hid (HB2.out.trans (hb3.mono HB2.out.size));clear hF3 hb3))
     go_meet
     case rel=>exact ⟨congrArg (Value.int .i64) (by have:=HN2.out;(try rw [show max (1:Int) 8=8 from by decide]);(try rw [show max (1:Int) (8*8)=64 from by decide]);(try rw [show max (1:Int) (8*max 1 0)=8 from by decide]);(try rw [show max (1:Int) (8*max 1 2)=16 from by decide]);(try rw [show max (1:Int) (8*max 1 4)=32 from by decide]);(try rw [show max (1:Int) (8*max 1 8)=64 from by decide]);omega),HF3.out,HB3.out⟩
  ·have e2:(n == -2)=false:=by simpa using h2
   have HN2:=hid (show N=oneC ⟨c,p,n⟩ by rw [HN.out];unfold cntU;rw [if_neg h2])
   go_wp2
   go_meet
   case rel=>exact ⟨by rw [HN2.out],HF1.out,HB1.out⟩
 obtain ⟨rfl,hF2,hB2⟩:=hcut
 clear HF1 HB1 d0 d1 d2 HF0 HB0 HONE c0 c1 c2
 have c0:=hF2.c0
 have c1:=hF2.c1
 have c2:=hF2.c2
 obtain ⟨M,hM⟩:∃ M,M=lenL c N:=⟨_,rfl⟩
 have hMb:M≤10000000:=by rw [hM];exact lenL_le c N (by omega)
 have hlen:=fun u=>length_fn c p n N (by omega) u
 rw [← hM] at hlen
 have HLEN:=hid hlen
 have HM:=hid hM
 have HF2:=hid hF2
 have HB2:=hid hB2
 clear hF2 hB2 hlen hM
 by_cases hbig:s.length<M
 ·have hbI:(s.length:Int)<(M:Int):=by omega
  have HRR:=hid (show unpkR ⟨c,p,n⟩ s=([],0,false) by unfold unpkR;rw [← HN.out,← HM.out,if_pos hbig])
  go_wp2_with ((with_reducible refine (HLEN.out _).mono ?_);rintro e w3 ⟨rfl,hb3⟩;have HB3:=hid (HB2.out.trans (hb3.mono HB2.out.size));clear hb3)
  go_ret3
  exact ⟨by rw [HRR.out];rfl,HB3.out⟩
 have hbI:¬ ((s.length:Int)<(M:Int)):=by omega
 have hext:(⟨s.toArray⟩:ByteArray).extract 0 M=⟨(s.take M).toArray⟩:=by rw [Lib.extract_mk];simp
 have hMs:(M:Int)≤(s.length:Int):=by omega
 obtain ⟨t,ht⟩:∃ t,t=s.take M:=⟨_,rfl⟩
 rw [← ht] at hext
 have htl:t.length=M:=by rw [ht,List.length_take];omega
 have htz:(⟨t.toArray⟩:ByteArray).size=t.length:=Lib.size_mk _
 have HRR:=hid (show unpkR ⟨c,p,n⟩ s=(toldE ⟨c,p,n⟩ N t,M,true) by unfold unpkR;rw [← HN.out,← HM.out,if_neg hbig,← ht])
 rw [htl] at htz
 have HTL:=hid htl
 clear hbig ht htl
 rcases HCLS.out with h97 | h65 | h120 | ⟨htx,h97,h65,h120,hwd⟩ | ⟨htx,h120,h97,h65,hwd⟩
 ·have y97:((c.toNat:Int) == 97)=true:=byte_is h97 rfl
  have HTD:=hid (show toldE ⟨c,p,n⟩ N t=t by subst h97;rfl)
  clear h97
  go_wp2_with ((with_reducible refine (HLEN.out _).mono ?_);rintro e w3 ⟨rfl,hb3⟩;have hF3:=HF2.out.on hb3;have d0:=hF3.c0;have HB3:=hid (HB2.out.trans (hb3.mono HB2.out.size));clear hF3 hb3)
  go_ret3
  exact ⟨by rw [HRR.out,HTD.out];rfl,HB3.out⟩
 ·have y97:((c.toNat:Int) == 97)=false:=byte_ne 97 (show c≠97 from by rw [h65];decide) rfl
  have y120:((c.toNat:Int) == 120)=false:=byte_ne 120 (show c≠120 from by rw [h65];decide) rfl
  have y65:((c.toNat:Int) == 65)=true:=byte_is h65 rfl
  have HTD:=hid (show toldE ⟨c,p,n⟩ N t=trimZ t by subst h65;rfl)
  have HTR:=hid (fun u=>trimR_fn t u (by have:=HTL.out;omega))
  clear h65
  go_wp2_with (first|((with_reducible refine (HLEN.out _).mono ?_);rintro e w3 ⟨rfl,hb3⟩;have hF3:=HF2.out.on hb3;have d0:=hF3.c0;have HB3:=hid (HB2.out.trans (hb3.mono HB2.out.size));clear hF3 hb3)|((with_reducible refine (HTR.out _).mono ?_);rintro e w4 ⟨rfl,hb4⟩;have HB4:=hid (HB3.out.trans (hb4.mono HB3.out.size));clear hb4))
  go_ret3
  exact ⟨by rw [HRR.out,HTD.out];rfl,HB4.out⟩
 ·have y97:((c.toNat:Int) == 97)=false:=byte_ne 97 (show c≠97 from by rw [h120];decide) rfl
  have y120:((c.toNat:Int) == 120)=true:=byte_is h120 rfl
  have HTD:=hid (show toldE ⟨c,p,n⟩ N t=t by subst h120;rfl)
  clear h120
  go_wp2_with ((with_reducible refine (HLEN.out _).mono ?_);rintro e w3 ⟨rfl,hb3⟩;have hF3:=HF2.out.on hb3;have d0:=hF3.c0;have HB3:=hid (HB2.out.trans (hb3.mono HB2.out.size));clear hF3 hb3)
  go_ret3
  exact ⟨by rw [HRR.out,HTD.out];rfl,HB3.out⟩
 ·have y97:=byte_ne 97 h97 rfl
  have y120:=byte_ne 120 h120 rfl
  have y65:=byte_ne 65 h65 rfl
  have HTD:=hid (show toldE ⟨c,p,n⟩ N t=tellE c t N by
   unfold toldE
   rw [if_neg (by simp [h97,h120]),if_neg (by simpa using h65),if_pos htx])
  have HTX:=hid (show ∀ u,Calls Tryz.prog 122 #[.agg #[.int .u8 (c.toNat:Nat),.bool p,.int .i64 n]] u fun e w'=>e=.returned (.bool true)∧Below u.heap.size u w' from fun u=>by have h:=text_fn c p n u;rw [htx] at h;exact h)
  have HDG:=hid (fun u=>digits_fn c p n t (by have:=HTL.out;omega) N (by
   rw [HTL.out,HM.out]
   rcases bitsL_cases c with h | h
   ·rw [h];exact lenL_room1 h
   ·rw [h];exact lenL_room4 h htx h97 h65) hN8 u)
  clear htx h97 h65 h120 hwd
  go_wp2_with (first|((with_reducible refine (HLEN.out _).mono ?_);rintro e w3 ⟨rfl,hb3⟩;have hF3:=HF2.out.on hb3;have d0:=hF3.c0;have d1:=hF3.c1;have d2:=hF3.c2;have HF3:=hid hF3;have HB3:=hid (HB2.out.trans (hb3.mono HB2.out.size));clear hF3 hb3)|((with_reducible refine (HTX.out _).mono ?_);rintro e w4 ⟨rfl,hb4⟩;have hF4:=HF3.out.on hb4;have x0:=hF4.c0;have x1:=hF4.c1;have x2:=hF4.c2;have HF4:=hid hF4;have HB4:=hid (HB3.out.trans (hb4.mono HB3.out.size));clear hF4 hb4)|((with_reducible refine (HDG.out _).mono ?_);rintro e w5 ⟨rfl,hb5⟩;have HB5:=hid (HB4.out.trans (hb5.mono HB4.out.size));clear hb5))
  go_ret3
  exact ⟨by rw [HRR.out,HTD.out];rfl,HB5.out⟩
 ·have y97:=byte_ne 97 h97 rfl
  have y120:=byte_ne 120 h120 rfl
  have y65:=byte_ne 65 h65 rfl
  have HTX:=hid (show ∀ u,Calls Tryz.prog 122 #[.agg #[.int .u8 (c.toNat:Nat),.bool p,.int .i64 n]] u fun e w'=>e=.returned (.bool false)∧Below u.heap.size u w' from fun u=>by have h:=text_fn c p n u;rw [htx] at h;exact h)
  have HTD:=hid (show toldE ⟨c,p,n⟩ N t=joinB (numsU c p (widthL c) t N) by
   unfold toldE
   rw [if_neg (by simp [h97,h120]),if_neg (by simpa using h65),if_neg (by rw [htx];decide),numsU_all])
  have HML:=hid (show M=widthL c*N by
   rw [HM.out]
   unfold lenL
   have g1:¬ ((c == 104 || c == 72)=true):=by
    intro h
    simp only [Bool.or_eq_true,beq_iff_eq] at h
    rcases h with rfl | rfl
    ·exact absurd htx (by decide)
    ·exact absurd htx (by decide)
   have g2:¬ ((c == 98 || c == 66)=true):=by
    intro h
    simp only [Bool.or_eq_true,beq_iff_eq] at h
    rcases h with rfl | rfl
    ·exact absurd htx (by decide)
    ·exact absurd htx (by decide)
   rw [if_neg g1,if_neg g2]
   congr 1
   omega)
  have HWF:=hid (fun u=>width_fn c p n u)
  have HNF:=hid (fun (x:Str) (hx:x.length=1∨x.length=2∨x.length=4∨x.length=8) u (hu:Tab u)=>number_fn c p n x hx u hu)
  clear htx h97 h65 h120
  go_upto_block 3 with (first|((with_reducible refine (HLEN.out _).mono ?_);rintro e w3 ⟨rfl,hb3⟩;have hF3:=HF2.out.on hb3;have d0:=hF3.c0;have d1:=hF3.c1;have d2:=hF3.c2;have HF3:=hid hF3;have HB3:=hid (HB2.out.trans (hb3.mono HB2.out.size));clear hF3 hb3)|((with_reducible refine (HTX.out _).mono ?_);rintro e w4 ⟨rfl,hb4⟩;have hF4:=HF3.out.on hb4;have HF4:=hid hF4;have HB4:=hid (HB3.out.trans (hb4.mono HB3.out.size));clear hF4 hb4))
  clear y97 y120 y65 HTX HLEN d0 d1 d2 c0 c1 c2
  rcases hwd with hwd | hwd | hwd | hwd
  ·rw [hwd] at HTD HML HWF
   have HWK:=hid (show ∀ u,Calls Tryz.prog 121 #[.agg #[.int .u8 (c.toNat:Nat),.bool p,.int .i64 n]] u fun e w'=>e=.returned (.int .i64 1)∧Below u.heap.size u w' from HWF.out)
   clear hwd HWF
   have HT4:=hid (HT.out.below HB4.out)
   go_wp2_with fail
   go_loopg [9,10] M (fun k lv iv wr=>∃ (i o:Nat),o=1*i∧i≤N∧iv=.int .i64 (o:Nat)∧RowS w4.heap.size wr lv (numsU c p 1 t i)∧FBlk w.heap.size wr ⟨c,p,n⟩∧Below w4.heap.size w4 wr∧k=M-o)
   case atStart=>exact ⟨0,0,rfl,Nat.zero_le _,rfl,RowS.nil _ _,HF4.out,Below.refl _ _,by omega⟩
   case round=>
    obtain ⟨i,o,hoe,hiN,rfl,hro,hF,hbl,hk⟩:=hrel
    replace hk:=hk.symm
    subst hk
    have HOE:=hid hoe
    have HRO:=hid hro
    have HFF:=hid hF
    have HBL:=hid hbl
    obtain ⟨ao,co,he⟩:=hro.shape
    rw [numsU_len] at he
    subst he
    clear hoe hro hF hbl
    have hs4:=HBL.out.size
    rcases Nat.lt_or_ge i N with hlt | hge
    ·have hoM:o+1≤M:=by have:=HOE.out;have:=HML.out;omega
     have hltI:(o:Int)<(M:Int):=by omega
     have hc0:=HFF.out.c0
     have hc1:=HFF.out.c1
     have hc2:=HFF.out.c2
     obtain ⟨x,hx⟩:∃ x,x=(t.drop o).take 1:=⟨_,rfl⟩
     have hxl:x.length=1:=by rw [hx,List.length_take,List.length_drop,HTL.out];omega
     have hext2:(⟨t.toArray⟩:ByteArray).extract o (o+1)=⟨x.toArray⟩:=by rw [Lib.extract_mk,hx,show o+1-o=1 by omega]
     have hsn:numsU c p 1 t (i+1)=numsU c p 1 t i++[numberE c p x]:=by rw [numsU_snoc,hx,HOE.out]
     have HSN:=hid hsn
     have HXL:=hid hxl
     have HEXT:=hid hext2
     clear hx hsn hxl hext2
     have S0:Hid ((fun u:World=>u.cell? ⟨w.heap.size,0,none⟩=some (.int .u8 (c.toNat:Nat))∧u.cell? ⟨w.heap.size,1,none⟩=some (.bool p)∧u.cell? ⟨w.heap.size,2,none⟩=some (.int .i64 n)) wr.drew):=hid ⟨hc0,hc1,hc2⟩
     clear hc0 hc1 hc2
     go_upto_region 22 with fail
     refine U_begin (late:=fun k=>decide (11≤k)) (S:=fun u:World=>u.cell? ⟨w.heap.size,0,none⟩=some (.int .u8 (c.toNat:Nat))∧u.cell? ⟨w.heap.size,1,none⟩=some (.bool p)∧u.cell? ⟨w.heap.size,2,none⟩=some (.int .i64 n)) (by kernel_rfl) ?_
     refine U_take2 8 (i:=0) (v:=.slice ao i co) rfl (by kernel_rfl) (by kernel_rfl) (by kernel_rfl) (by kernel_rfl) (by kernel_rfl) (fun _ _ _ h=>h) (.inl ⟨rfl,fun u hu=>(by go_simp)⟩) S0.out ?_
     refine U_take2 8 (i:=1) (v:=.agg #[.int .u8 (c.toNat:Nat),.bool p,.int .i64 n]) rfl (by kernel_rfl) (by kernel_rfl) (by kernel_rfl) (by kernel_rfl) (by kernel_rfl) (fun _ _ _ h=>h) (.inl ⟨rfl,fun u hu=>(by obtain ⟨h1,h2,h3⟩:=hu;go_simp)⟩) S0.out ?_
     refine U_take2 8 (i:=2) (v:=.string ⟨t.toArray⟩) rfl (by kernel_rfl) (by kernel_rfl) (by kernel_rfl) (by kernel_rfl) (by kernel_rfl) (fun _ _ _ h=>h) (.inl ⟨rfl,fun u hu=>(by go_simp)⟩) S0.out ?_
     refine U_take2 8 (i:=3) (v:=.int .i64 (o:Nat)) rfl (by kernel_rfl) (by kernel_rfl) (by kernel_rfl) (by kernel_rfl) (by kernel_rfl) (fun _ _ _ h=>h) (.inl ⟨rfl,fun u hu=>(by go_simp)⟩) S0.out ?_
     refine U_take2 8 (i:=4) (v:=.int .i64 (o:Nat)) rfl (by kernel_rfl) (by kernel_rfl) (by kernel_rfl) (by kernel_rfl) (by kernel_rfl) (fun _ _ _ h=>h) (.inl ⟨rfl,fun u hu=>(by go_simp)⟩) S0.out ?_
     refine U_take2 8 (i:=5) (v:=.agg #[.int .u8 (c.toNat:Nat),.bool p,.int .i64 n]) rfl (by kernel_rfl) (by kernel_rfl) (by kernel_rfl) (by kernel_rfl) (by kernel_rfl) (fun _ _ _ h=>h) (.inl ⟨rfl,fun u hu=>(by obtain ⟨h1,h2,h3⟩:=hu;go_simp)⟩) S0.out ?_
     refine U_step (j:=6) (by kernel_rfl) rfl (fun K hK=>?_)
     go_simp
     (with_reducible refine (HWK.out _).mono ?_);rintro e w6 ⟨rfl,hb6⟩
     have HB6:=hid (show Below wr.heap.size wr w6 from (Below.refl _ wr).drew.trans hb6)
     have hF6:=HFF.out.on HB6.out
     have S6:Hid ((fun u:World=>u.cell? ⟨w.heap.size,0,none⟩=some (.int .u8 (c.toNat:Nat))∧u.cell? ⟨w.heap.size,1,none⟩=some (.bool p)∧u.cell? ⟨w.heap.size,2,none⟩=some (.int .i64 n)) w6):=hid ⟨hF6.c0,hF6.c1,hF6.c2⟩
     refine hK.out _ _ (.inr S6.out) ?_
     clear hK K S0 hb6
     have HF6:=hid hF6
     clear hF6
     refine U_take2 8 (i:=7) (v:=.int .i64 ((o:Int)+1)) rfl (by kernel_rfl) (by kernel_rfl) (by kernel_rfl) (by kernel_rfl) (by kernel_rfl) (fun _ _ _ h=>h) (.inl ⟨rfl,fun u hu=>(by go_simp<;>exact IntWalk.i64_in _ (by omega))⟩) S6.out ?_
     refine U_take2 8 (i:=8) (v:=.string ⟨x.toArray⟩) rfl (by kernel_rfl) (by kernel_rfl) (by kernel_rfl) (by kernel_rfl) (by kernel_rfl) (fun _ _ _ h=>h) (.inl ⟨rfl,fun u hu=>(by go_simp<;>(try rw [if_pos ⟨by omega,by omega⟩])<;>(try rw [show ((o:Int)+1).toNat=o+1 by omega])<;>(try rw [HEXT.out])<;>(try rw [if_pos (show (o:Int)≤(o:Int)+1 by omega)])<;>(try rw [HEXT.out]))⟩) S6.out ?_
     refine U_step (j:=9) (by kernel_rfl) rfl (fun K hK=>?_)
     go_simp
     (with_reducible refine (HNF.out x (by have:=HXL.out;omega) _ ((HT4.out.below (HBL.out.trans (HB6.out.mono hs4)))) ).mono ?_);rintro e w7 ⟨rfl,hb7⟩
     have HB7:=hid (show Below wr.heap.size wr w7 from HB6.out.trans (hb7.mono HB6.out.size))
     have hF7:=HFF.out.on HB7.out
     have S7:Hid ((fun u:World=>u.cell? ⟨w.heap.size,0,none⟩=some (.int .u8 (c.toNat:Nat))∧u.cell? ⟨w.heap.size,1,none⟩=some (.bool p)∧u.cell? ⟨w.heap.size,2,none⟩=some (.int .i64 n)) w7):=hid ⟨hF7.c0,hF7.c1,hF7.c2⟩
     refine hK.out _ _ (.inr S7.out) ?_
     clear hK K S6 hb7
     have HF7:=hid hF7
     clear hF7
     refine U_step (j:=10) (by kernel_rfl) rfl (fun K hK=>?_)
     go_simp
     have hF8:=HF7.out.on (belowA w7 (.cells #[.string ⟨(numberE c p x).toArray⟩] 9))
     refine hK.out _ _ (.inr ⟨hF8.c0,hF8.c1,hF8.c2⟩) ?_
     clear hK K hF8
     refine U_step (j:=11) (by kernel_rfl) rfl (fun K hK=>?_)
     rw [if_pos (show Region.wanted _ _=true by simp [Region.wanted])]
     have hsw:w4.heap.size≤w7.heap.size:=Nat.le_trans hs4 HB7.out.size
     refine app_one_op (w:=w7) (.tmp 90) (.tmp 100) rfl w4.heap.size (.slice ao i co) (numsU c p 1 t i) (numberE c p x) rfl (HRO.out.on HB7.out) rfl (by rw [numsU_len];omega) hsw ?_
     intro v9 w9 hr9 hg9
     refine hK.out _ _ (.inl rfl) ?_
     clear hK K S7
     have HR9:=hid hr9
     have HB9:=hid (show Below w4.heap.size w4 w9 from (HBL.out.trans (HB7.out.mono hs4)).grown hg9 hsw (fun k hk=>(HRO.out.lt k hk).2))
     have HF9:=hid (HF4.out.on HB9.out)
     clear hr9 hg9
     refine U_step (j:=12) (by kernel_rfl) rfl (fun K hK=>?_)
     go_simp
     refine hK.out _ _ (.inl rfl) ?_
     clear hK K
     refine U_done (by kernel_rfl) ?_ _
     have x0:=HF9.out.c0
     have x1:=HF9.out.c1
     have x2:=HF9.out.c2
     go_wp2_with ((with_reducible refine (HWK.out _).mono ?_);rintro e wz ⟨rfl,hbz⟩;have HBZ:=hid hbz;clear hbz)
     go_roundg (M-(o+1))
     case measure=>omega
     case rel=>exact ⟨i+1,o+1,by have:=HOE.out;omega,hlt,by go_num,by rw [HSN.out];exact HR9.out.on HBZ.out,HF9.out.on HBZ.out,HB9.out.trans (HBZ.out.mono HB9.out.size),rfl⟩
    ·obtain rfl:i=N:=by omega
     have hoM:¬ ((o:Int)<(M:Int)):=by have:=HOE.out;have:=HML.out;omega
     have HJ:=hid (joinB_fn _ _ wr HRO.out.strs (Nat.le_trans (numsU_sum c p 1 (by decide) t i) (by omega)) (by rw [numsU_len];omega))
     go_wp2_with (go_at_call 21;refine HJ.out.mono ?_;rintro e w8 ⟨rfl,hb8⟩;have HB8:=hid hb8;clear hb8)
     go_ret3
     exact ⟨by rw [HRR.out,HTD.out];rfl,(HB4.out.trans (HBL.out.mono HB4.out.size)).trans (HB8.out.mono (Nat.le_trans HB4.out.size hs4))⟩
  ·rw [hwd] at HTD HML HWF
   have HWK:=hid (show ∀ u,Calls Tryz.prog 121 #[.agg #[.int .u8 (c.toNat:Nat),.bool p,.int .i64 n]] u fun e w'=>e=.returned (.int .i64 2)∧Below u.heap.size u w' from HWF.out)
   clear hwd HWF
   have HT4:=hid (HT.out.below HB4.out)
   go_wp2_with fail
   go_loopg [9,10] M (fun k lv iv wr=>∃ (i o:Nat),o=2*i∧i≤N∧iv=.int .i64 (o:Nat)∧RowS w4.heap.size wr lv (numsU c p 2 t i)∧FBlk w.heap.size wr ⟨c,p,n⟩∧Below w4.heap.size w4 wr∧k=M-o)
   case atStart=>exact ⟨0,0,rfl,Nat.zero_le _,rfl,RowS.nil _ _,HF4.out,Below.refl _ _,by omega⟩
   case round=>
    obtain ⟨i,o,hoe,hiN,rfl,hro,hF,hbl,hk⟩:=hrel
    replace hk:=hk.symm
    subst hk
    have HOE:=hid hoe
    have HRO:=hid hro
    have HFF:=hid hF
    have HBL:=hid hbl
    obtain ⟨ao,co,he⟩:=hro.shape
    rw [numsU_len] at he
    subst he
    clear hoe hro hF hbl
    have hs4:=HBL.out.size
    rcases Nat.lt_or_ge i N with hlt | hge
    ·have hoM:o+2≤M:=by have:=HOE.out;have:=HML.out;omega
     have hltI:(o:Int)<(M:Int):=by omega
     have hc0:=HFF.out.c0
     have hc1:=HFF.out.c1
     have hc2:=HFF.out.c2
     obtain ⟨x,hx⟩:∃ x,x=(t.drop o).take 2:=⟨_,rfl⟩
     have hxl:x.length=2:=by rw [hx,List.length_take,List.length_drop,HTL.out];omega
     have hext2:(⟨t.toArray⟩:ByteArray).extract o (o+2)=⟨x.toArray⟩:=by rw [Lib.extract_mk,hx,show o+2-o=2 by omega]
     have hsn:numsU c p 2 t (i+1)=numsU c p 2 t i++[numberE c p x]:=by rw [numsU_snoc,hx,HOE.out]
     have HSN:=hid hsn
     have HXL:=hid hxl
     have HEXT:=hid hext2
     clear hx hsn hxl hext2
     have S0:Hid ((fun u:World=>u.cell? ⟨w.heap.size,0,none⟩=some (.int .u8 (c.toNat:Nat))∧u.cell? ⟨w.heap.size,1,none⟩=some (.bool p)∧u.cell? ⟨w.heap.size,2,none⟩=some (.int .i64 n)) wr.drew):=hid ⟨hc0,hc1,hc2⟩
     clear hc0 hc1 hc2
     go_upto_region 22 with fail
     refine U_begin (late:=fun k=>decide (11≤k)) (S:=fun u:World=>u.cell? ⟨w.heap.size,0,none⟩=some (.int .u8 (c.toNat:Nat))∧u.cell? ⟨w.heap.size,1,none⟩=some (.bool p)∧u.cell? ⟨w.heap.size,2,none⟩=some (.int .i64 n)) (by kernel_rfl) ?_
     refine U_take2 8 (i:=0) (v:=.slice ao i co) rfl (by kernel_rfl) (by kernel_rfl) (by kernel_rfl) (by kernel_rfl) (by kernel_rfl) (fun _ _ _ h=>h) (.inl ⟨rfl,fun u hu=>(by go_simp)⟩) S0.out ?_
     refine U_take2 8 (i:=1) (v:=.agg #[.int .u8 (c.toNat:Nat),.bool p,.int .i64 n]) rfl (by kernel_rfl) (by kernel_rfl) (by kernel_rfl) (by kernel_rfl) (by kernel_rfl) (fun _ _ _ h=>h) (.inl ⟨rfl,fun u hu=>(by obtain ⟨h1,h2,h3⟩:=hu;go_simp)⟩) S0.out ?_
     refine U_take2 8 (i:=2) (v:=.string ⟨t.toArray⟩) rfl (by kernel_rfl) (by kernel_rfl) (by kernel_rfl) (by kernel_rfl) (by kernel_rfl) (fun _ _ _ h=>h) (.inl ⟨rfl,fun u hu=>(by go_simp)⟩) S0.out ?_
     refine U_take2 8 (i:=3) (v:=.int .i64 (o:Nat)) rfl (by kernel_rfl) (by kernel_rfl) (by kernel_rfl) (by kernel_rfl) (by kernel_rfl) (fun _ _ _ h=>h) (.inl ⟨rfl,fun u hu=>(by go_simp)⟩) S0.out ?_
     refine U_take2 8 (i:=4) (v:=.int .i64 (o:Nat)) rfl (by kernel_rfl) (by kernel_rfl) (by kernel_rfl) (by kernel_rfl) (by kernel_rfl) (fun _ _ _ h=>h) (.inl ⟨rfl,fun u hu=>(by go_simp)⟩) S0.out ?_
     refine U_take2 8 (i:=5) (v:=.agg #[.int .u8 (c.toNat:Nat),.bool p,.int .i64 n]) rfl (by kernel_rfl) (by kernel_rfl) (by kernel_rfl) (by kernel_rfl) (by kernel_rfl) (fun _ _ _ h=>h) (.inl ⟨rfl,fun u hu=>(by obtain ⟨h1,h2,h3⟩:=hu;go_simp)⟩) S0.out ?_
     refine U_step (j:=6) (by kernel_rfl) rfl (fun K hK=>?_)
     go_simp
     (with_reducible refine (HWK.out _).mono ?_);rintro e w6 ⟨rfl,hb6⟩
     have HB6:=hid (show Below wr.heap.size wr w6 from (Below.refl _ wr).drew.trans hb6)
     have hF6:=HFF.out.on HB6.out
     have S6:Hid ((fun u:World=>u.cell? ⟨w.heap.size,0,none⟩=some (.int .u8 (c.toNat:Nat))∧u.cell? ⟨w.heap.size,1,none⟩=some (.bool p)∧u.cell? ⟨w.heap.size,2,none⟩=some (.int .i64 n)) w6):=hid ⟨hF6.c0,hF6.c1,hF6.c2⟩
     refine hK.out _ _ (.inr S6.out) ?_
     clear hK K S0 hb6
     have HF6:=hid hF6
     clear hF6
     refine U_take2 8 (i:=7) (v:=.int .i64 ((o:Int)+2)) rfl (by kernel_rfl) (by kernel_rfl) (by kernel_rfl) (by kernel_rfl) (by kernel_rfl) (fun _ _ _ h=>h) (.inl ⟨rfl,fun u hu=>(by go_simp<;>exact IntWalk.i64_in _ (by omega))⟩) S6.out ?_
     refine U_take2 8 (i:=8) (v:=.string ⟨x.toArray⟩) rfl (by kernel_rfl) (by kernel_rfl) (by kernel_rfl) (by kernel_rfl) (by kernel_rfl) (fun _ _ _ h=>h) (.inl ⟨rfl,fun u hu=>(by go_simp<;>(try rw [if_pos ⟨by omega,by omega⟩])<;>(try rw [show ((o:Int)+2).toNat=o+2 by omega])<;>(try rw [HEXT.out])<;>(try rw [if_pos (show (o:Int)≤(o:Int)+2 by omega)])<;>(try rw [HEXT.out]))⟩) S6.out ?_
     refine U_step (j:=9) (by kernel_rfl) rfl (fun K hK=>?_)
     go_simp
     (with_reducible refine (HNF.out x (by have:=HXL.out;omega) _ ((HT4.out.below (HBL.out.trans (HB6.out.mono hs4)))) ).mono ?_);rintro e w7 ⟨rfl,hb7⟩
     have HB7:=hid (show Below wr.heap.size wr w7 from HB6.out.trans (hb7.mono HB6.out.size))
     have hF7:=HFF.out.on HB7.out
     have S7:Hid ((fun u:World=>u.cell? ⟨w.heap.size,0,none⟩=some (.int .u8 (c.toNat:Nat))∧u.cell? ⟨w.heap.size,1,none⟩=some (.bool p)∧u.cell? ⟨w.heap.size,2,none⟩=some (.int .i64 n)) w7):=hid ⟨hF7.c0,hF7.c1,hF7.c2⟩
     refine hK.out _ _ (.inr S7.out) ?_
     clear hK K S6 hb7
     have HF7:=hid hF7
     clear hF7
     refine U_step (j:=10) (by kernel_rfl) rfl (fun K hK=>?_)
     go_simp
     have hF8:=HF7.out.on (belowA w7 (.cells #[.string ⟨(numberE c p x).toArray⟩] 9))
     refine hK.out _ _ (.inr ⟨hF8.c0,hF8.c1,hF8.c2⟩) ?_
     clear hK K hF8
     refine U_step (j:=11) (by kernel_rfl) rfl (fun K hK=>?_)
     rw [if_pos (show Region.wanted _ _=true by simp [Region.wanted])]
     have hsw:w4.heap.size≤w7.heap.size:=Nat.le_trans hs4 HB7.out.size
     refine app_one_op (w:=w7) (.tmp 90) (.tmp 100) rfl w4.heap.size (.slice ao i co) (numsU c p 2 t i) (numberE c p x) rfl (HRO.out.on HB7.out) rfl (by rw [numsU_len];omega) hsw ?_
     intro v9 w9 hr9 hg9
     refine hK.out _ _ (.inl rfl) ?_
     clear hK K S7
     have HR9:=hid hr9
     have HB9:=hid (show Below w4.heap.size w4 w9 from (HBL.out.trans (HB7.out.mono hs4)).grown hg9 hsw (fun k hk=>(HRO.out.lt k hk).2))
     have HF9:=hid (HF4.out.on HB9.out)
     clear hr9 hg9
     refine U_step (j:=12) (by kernel_rfl) rfl (fun K hK=>?_)
     go_simp
     refine hK.out _ _ (.inl rfl) ?_
     clear hK K
     refine U_done (by kernel_rfl) ?_ _
     have x0:=HF9.out.c0
     have x1:=HF9.out.c1
     have x2:=HF9.out.c2
     go_wp2_with ((with_reducible refine (HWK.out _).mono ?_);rintro e wz ⟨rfl,hbz⟩;have HBZ:=hid hbz;clear hbz)
     go_roundg (M-(o+2))
     case measure=>omega
     case rel=>exact ⟨i+1,o+2,by have:=HOE.out;omega,hlt,by go_num,by rw [HSN.out];exact HR9.out.on HBZ.out,HF9.out.on HBZ.out,HB9.out.trans (HBZ.out.mono HB9.out.size),rfl⟩
    ·obtain rfl:i=N:=by omega
     have hoM:¬ ((o:Int)<(M:Int)):=by have:=HOE.out;have:=HML.out;omega
     have HJ:=hid (joinB_fn _ _ wr HRO.out.strs (Nat.le_trans (numsU_sum c p 2 (by decide) t i) (by omega)) (by rw [numsU_len];omega))
     go_wp2_with (go_at_call 21;refine HJ.out.mono ?_;rintro e w8 ⟨rfl,hb8⟩;have HB8:=hid hb8;clear hb8)
     go_ret3
     exact ⟨by rw [HRR.out,HTD.out];rfl,(HB4.out.trans (HBL.out.mono HB4.out.size)).trans (HB8.out.mono (Nat.le_trans HB4.out.size hs4))⟩
  ·rw [hwd] at HTD HML HWF
   have HWK:=hid (show ∀ u,Calls Tryz.prog 121 #[.agg #[.int .u8 (c.toNat:Nat),.bool p,.int .i64 n]] u fun e w'=>e=.returned (.int .i64 4)∧Below u.heap.size u w' from HWF.out)
   clear hwd HWF
   have HT4:=hid (HT.out.below HB4.out)
   go_wp2_with fail
   go_loopg [9,10] M (fun k lv iv wr=>∃ (i o:Nat),o=4*i∧i≤N∧iv=.int .i64 (o:Nat)∧RowS w4.heap.size wr lv (numsU c p 4 t i)∧FBlk w.heap.size wr ⟨c,p,n⟩∧Below w4.heap.size w4 wr∧k=M-o)
   case atStart=>exact ⟨0,0,rfl,Nat.zero_le _,rfl,RowS.nil _ _,HF4.out,Below.refl _ _,by omega⟩
   case round=>
    obtain ⟨i,o,hoe,hiN,rfl,hro,hF,hbl,hk⟩:=hrel
    replace hk:=hk.symm
    subst hk
    have HOE:=hid hoe
    have HRO:=hid hro
    have HFF:=hid hF
    have HBL:=hid hbl
    obtain ⟨ao,co,he⟩:=hro.shape
    rw [numsU_len] at he
    subst he
    clear hoe hro hF hbl
    have hs4:=HBL.out.size
    rcases Nat.lt_or_ge i N with hlt | hge
    ·have hoM:o+4≤M:=by have:=HOE.out;have:=HML.out;omega
     have hltI:(o:Int)<(M:Int):=by omega
     have hc0:=HFF.out.c0
     have hc1:=HFF.out.c1
     have hc2:=HFF.out.c2
     obtain ⟨x,hx⟩:∃ x,x=(t.drop o).take 4:=⟨_,rfl⟩
     have hxl:x.length=4:=by rw [hx,List.length_take,List.length_drop,HTL.out];omega
     have hext2:(⟨t.toArray⟩:ByteArray).extract o (o+4)=⟨x.toArray⟩:=by rw [Lib.extract_mk,hx,show o+4-o=4 by omega]
     have hsn:numsU c p 4 t (i+1)=numsU c p 4 t i++[numberE c p x]:=by rw [numsU_snoc,hx,HOE.out]
     have HSN:=hid hsn
     have HXL:=hid hxl
     have HEXT:=hid hext2
     clear hx hsn hxl hext2
     have S0:Hid ((fun u:World=>u.cell? ⟨w.heap.size,0,none⟩=some (.int .u8 (c.toNat:Nat))∧u.cell? ⟨w.heap.size,1,none⟩=some (.bool p)∧u.cell? ⟨w.heap.size,2,none⟩=some (.int .i64 n)) wr.drew):=hid ⟨hc0,hc1,hc2⟩
     clear hc0 hc1 hc2
     go_upto_region 22 with fail
     refine U_begin (late:=fun k=>decide (11≤k)) (S:=fun u:World=>u.cell? ⟨w.heap.size,0,none⟩=some (.int .u8 (c.toNat:Nat))∧u.cell? ⟨w.heap.size,1,none⟩=some (.bool p)∧u.cell? ⟨w.heap.size,2,none⟩=some (.int .i64 n)) (by kernel_rfl) ?_
     refine U_take2 8 (i:=0) (v:=.slice ao i co) rfl (by kernel_rfl) (by kernel_rfl) (by kernel_rfl) (by kernel_rfl) (by kernel_rfl) (fun _ _ _ h=>h) (.inl ⟨rfl,fun u hu=>(by go_simp)⟩) S0.out ?_
     refine U_take2 8 (i:=1) (v:=.agg #[.int .u8 (c.toNat:Nat),.bool p,.int .i64 n]) rfl (by kernel_rfl) (by kernel_rfl) (by kernel_rfl) (by kernel_rfl) (by kernel_rfl) (fun _ _ _ h=>h) (.inl ⟨rfl,fun u hu=>(by obtain ⟨h1,h2,h3⟩:=hu;go_simp)⟩) S0.out ?_
     refine U_take2 8 (i:=2) (v:=.string ⟨t.toArray⟩) rfl (by kernel_rfl) (by kernel_rfl) (by kernel_rfl) (by kernel_rfl) (by kernel_rfl) (fun _ _ _ h=>h) (.inl ⟨rfl,fun u hu=>(by go_simp)⟩) S0.out ?_
     refine U_take2 8 (i:=3) (v:=.int .i64 (o:Nat)) rfl (by kernel_rfl) (by kernel_rfl) (by kernel_rfl) (by kernel_rfl) (by kernel_rfl) (fun _ _ _ h=>h) (.inl ⟨rfl,fun u hu=>(by go_simp)⟩) S0.out ?_
     refine U_take2 8 (i:=4) (v:=.int .i64 (o:Nat)) rfl (by kernel_rfl) (by kernel_rfl) (by kernel_rfl) (by kernel_rfl) (by kernel_rfl) (fun _ _ _ h=>h) (.inl ⟨rfl,fun u hu=>(by go_simp)⟩) S0.out ?_
     refine U_take2 8 (i:=5) (v:=.agg #[.int .u8 (c.toNat:Nat),.bool p,.int .i64 n]) rfl (by kernel_rfl) (by kernel_rfl) (by kernel_rfl) (by kernel_rfl) (by kernel_rfl) (fun _ _ _ h=>h) (.inl ⟨rfl,fun u hu=>(by obtain ⟨h1,h2,h3⟩:=hu;go_simp)⟩) S0.out ?_
     refine U_step (j:=6) (by kernel_rfl) rfl (fun K hK=>?_)
     go_simp
     (with_reducible refine (HWK.out _).mono ?_);rintro e w6 ⟨rfl,hb6⟩
     have HB6:=hid (show Below wr.heap.size wr w6 from (Below.refl _ wr).drew.trans hb6)
     have hF6:=HFF.out.on HB6.out
     have S6:Hid ((fun u:World=>u.cell? ⟨w.heap.size,0,none⟩=some (.int .u8 (c.toNat:Nat))∧u.cell? ⟨w.heap.size,1,none⟩=some (.bool p)∧u.cell? ⟨w.heap.size,2,none⟩=some (.int .i64 n)) w6):=hid ⟨hF6.c0,hF6.c1,hF6.c2⟩
     refine hK.out _ _ (.inr S6.out) ?_
     clear hK K S0 hb6
     have HF6:=hid hF6
     clear hF6
     refine U_take2 8 (i:=7) (v:=.int .i64 ((o:Int)+4)) rfl (by kernel_rfl) (by kernel_rfl) (by kernel_rfl) (by kernel_rfl) (by kernel_rfl) (fun _ _ _ h=>h) (.inl ⟨rfl,fun u hu=>(by go_simp<;>exact IntWalk.i64_in _ (by omega))⟩) S6.out ?_
     refine U_take2 8 (i:=8) (v:=.string ⟨x.toArray⟩) rfl (by kernel_rfl) (by kernel_rfl) (by kernel_rfl) (by kernel_rfl) (by kernel_rfl) (fun _ _ _ h=>h) (.inl ⟨rfl,fun u hu=>(by go_simp<;>(try rw [if_pos ⟨by omega,by omega⟩])<;>(try rw [show ((o:Int)+4).toNat=o+4 by omega])<;>(try rw [HEXT.out])<;>(try rw [if_pos (show (o:Int)≤(o:Int)+4 by omega)])<;>(try rw [HEXT.out]))⟩) S6.out ?_
     refine U_step (j:=9) (by kernel_rfl) rfl (fun K hK=>?_)
     go_simp
     (with_reducible refine (HNF.out x (by have:=HXL.out;omega) _ ((HT4.out.below (HBL.out.trans (HB6.out.mono hs4)))) ).mono ?_);rintro e w7 ⟨rfl,hb7⟩
     have HB7:=hid (show Below wr.heap.size wr w7 from HB6.out.trans (hb7.mono HB6.out.size))
     have hF7:=HFF.out.on HB7.out
     have S7:Hid ((fun u:World=>u.cell? ⟨w.heap.size,0,none⟩=some (.int .u8 (c.toNat:Nat))∧u.cell? ⟨w.heap.size,1,none⟩=some (.bool p)∧u.cell? ⟨w.heap.size,2,none⟩=some (.int .i64 n)) w7):=hid ⟨hF7.c0,hF7.c1,hF7.c2⟩
     refine hK.out _ _ (.inr S7.out) ?_
     clear hK K S6 hb7
     have HF7:=hid hF7
     clear hF7
     refine U_step (j:=10) (by kernel_rfl) rfl (fun K hK=>?_)
     go_simp
     have hF8:=HF7.out.on (belowA w7 (.cells #[.string ⟨(numberE c p x).toArray⟩] 9))
     refine hK.out _ _ (.inr ⟨hF8.c0,hF8.c1,hF8.c2⟩) ?_
     clear hK K hF8
     refine U_step (j:=11) (by kernel_rfl) rfl (fun K hK=>?_)
     rw [if_pos (show Region.wanted _ _=true by simp [Region.wanted])]
     have hsw:w4.heap.size≤w7.heap.size:=Nat.le_trans hs4 HB7.out.size
     refine app_one_op (w:=w7) (.tmp 90) (.tmp 100) rfl w4.heap.size (.slice ao i co) (numsU c p 4 t i) (numberE c p x) rfl (HRO.out.on HB7.out) rfl (by rw [numsU_len];omega) hsw ?_
     intro v9 w9 hr9 hg9
     refine hK.out _ _ (.inl rfl) ?_
     clear hK K S7
     have HR9:=hid hr9
     have HB9:=hid (show Below w4.heap.size w4 w9 from (HBL.out.trans (HB7.out.mono hs4)).grown hg9 hsw (fun k hk=>(HRO.out.lt k hk).2))
     have HF9:=hid (HF4.out.on HB9.out)
     clear hr9 hg9
     refine U_step (j:=12) (by kernel_rfl) rfl (fun K hK=>?_)
     go_simp
     refine hK.out _ _ (.inl rfl) ?_
     clear hK K
     refine U_done (by kernel_rfl) ?_ _
     have x0:=HF9.out.c0
     have x1:=HF9.out.c1
     have x2:=HF9.out.c2
     go_wp2_with ((with_reducible refine (HWK.out _).mono ?_);rintro e wz ⟨rfl,hbz⟩;have HBZ:=hid hbz;clear hbz)
     go_roundg (M-(o+4))
     case measure=>omega
     case rel=>exact ⟨i+1,o+4,by have:=HOE.out;omega,hlt,by go_num,by rw [HSN.out];exact HR9.out.on HBZ.out,HF9.out.on HBZ.out,HB9.out.trans (HBZ.out.mono HB9.out.size),rfl⟩
    ·obtain rfl:i=N:=by omega
     have hoM:¬ ((o:Int)<(M:Int)):=by have:=HOE.out;have:=HML.out;omega
     have HJ:=hid (joinB_fn _ _ wr HRO.out.strs (Nat.le_trans (numsU_sum c p 4 (by decide) t i) (by omega)) (by rw [numsU_len];omega))
     go_wp2_with (go_at_call 21;refine HJ.out.mono ?_;rintro e w8 ⟨rfl,hb8⟩;have HB8:=hid hb8;clear hb8)
     go_ret3
     exact ⟨by rw [HRR.out,HTD.out];rfl,(HB4.out.trans (HBL.out.mono HB4.out.size)).trans (HB8.out.mono (Nat.le_trans HB4.out.size hs4))⟩
  ·rw [hwd] at HTD HML HWF
   have HWK:=hid (show ∀ u,Calls Tryz.prog 121 #[.agg #[.int .u8 (c.toNat:Nat),.bool p,.int .i64 n]] u fun e w'=>e=.returned (.int .i64 8)∧Below u.heap.size u w' from HWF.out)
   clear hwd HWF
   have HT4:=hid (HT.out.below HB4.out)
   go_wp2_with fail
   go_loopg [9,10] M (fun k lv iv wr=>∃ (i o:Nat),o=8*i∧i≤N∧iv=.int .i64 (o:Nat)∧RowS w4.heap.size wr lv (numsU c p 8 t i)∧FBlk w.heap.size wr ⟨c,p,n⟩∧Below w4.heap.size w4 wr∧k=M-o)
   case atStart=>exact ⟨0,0,rfl,Nat.zero_le _,rfl,RowS.nil _ _,HF4.out,Below.refl _ _,by omega⟩
   case round=>
    obtain ⟨i,o,hoe,hiN,rfl,hro,hF,hbl,hk⟩:=hrel
    replace hk:=hk.symm
    subst hk
    have HOE:=hid hoe
    have HRO:=hid hro
    have HFF:=hid hF
    have HBL:=hid hbl
    obtain ⟨ao,co,he⟩:=hro.shape
    rw [numsU_len] at he
    subst he
    clear hoe hro hF hbl
    have hs4:=HBL.out.size
    rcases Nat.lt_or_ge i N with hlt | hge
    ·have hoM:o+8≤M:=by have:=HOE.out;have:=HML.out;omega
     have hltI:(o:Int)<(M:Int):=by omega
     have hc0:=HFF.out.c0
     have hc1:=HFF.out.c1
     have hc2:=HFF.out.c2
     obtain ⟨x,hx⟩:∃ x,x=(t.drop o).take 8:=⟨_,rfl⟩
     have hxl:x.length=8:=by rw [hx,List.length_take,List.length_drop,HTL.out];omega
     have hext2:(⟨t.toArray⟩:ByteArray).extract o (o+8)=⟨x.toArray⟩:=by rw [Lib.extract_mk,hx,show o+8-o=8 by omega]
     have hsn:numsU c p 8 t (i+1)=numsU c p 8 t i++[numberE c p x]:=by rw [numsU_snoc,hx,HOE.out]
     have HSN:=hid hsn
     have HXL:=hid hxl
     have HEXT:=hid hext2
     clear hx hsn hxl hext2
     have S0:Hid ((fun u:World=>u.cell? ⟨w.heap.size,0,none⟩=some (.int .u8 (c.toNat:Nat))∧u.cell? ⟨w.heap.size,1,none⟩=some (.bool p)∧u.cell? ⟨w.heap.size,2,none⟩=some (.int .i64 n)) wr.drew):=hid ⟨hc0,hc1,hc2⟩
     clear hc0 hc1 hc2
     go_upto_region 22 with fail
     refine U_begin (late:=fun k=>decide (11≤k)) (S:=fun u:World=>u.cell? ⟨w.heap.size,0,none⟩=some (.int .u8 (c.toNat:Nat))∧u.cell? ⟨w.heap.size,1,none⟩=some (.bool p)∧u.cell? ⟨w.heap.size,2,none⟩=some (.int .i64 n)) (by kernel_rfl) ?_
     refine U_take2 8 (i:=0) (v:=.slice ao i co) rfl (by kernel_rfl) (by kernel_rfl) (by kernel_rfl) (by kernel_rfl) (by kernel_rfl) (fun _ _ _ h=>h) (.inl ⟨rfl,fun u hu=>(by go_simp)⟩) S0.out ?_
     refine U_take2 8 (i:=1) (v:=.agg #[.int .u8 (c.toNat:Nat),.bool p,.int .i64 n]) rfl (by kernel_rfl) (by kernel_rfl) (by kernel_rfl) (by kernel_rfl) (by kernel_rfl) (fun _ _ _ h=>h) (.inl ⟨rfl,fun u hu=>(by obtain ⟨h1,h2,h3⟩:=hu;go_simp)⟩) S0.out ?_
     refine U_take2 8 (i:=2) (v:=.string ⟨t.toArray⟩) rfl (by kernel_rfl) (by kernel_rfl) (by kernel_rfl) (by kernel_rfl) (by kernel_rfl) (fun _ _ _ h=>h) (.inl ⟨rfl,fun u hu=>(by go_simp)⟩) S0.out ?_
     refine U_take2 8 (i:=3) (v:=.int .i64 (o:Nat)) rfl (by kernel_rfl) (by kernel_rfl) (by kernel_rfl) (by kernel_rfl) (by kernel_rfl) (fun _ _ _ h=>h) (.inl ⟨rfl,fun u hu=>(by go_simp)⟩) S0.out ?_
     refine U_take2 8 (i:=4) (v:=.int .i64 (o:Nat)) rfl (by kernel_rfl) (by kernel_rfl) (by kernel_rfl) (by kernel_rfl) (by kernel_rfl) (fun _ _ _ h=>h) (.inl ⟨rfl,fun u hu=>(by go_simp)⟩) S0.out ?_
     refine U_take2 8 (i:=5) (v:=.agg #[.int .u8 (c.toNat:Nat),.bool p,.int .i64 n]) rfl (by kernel_rfl) (by kernel_rfl) (by kernel_rfl) (by kernel_rfl) (by kernel_rfl) (fun _ _ _ h=>h) (.inl ⟨rfl,fun u hu=>(by obtain ⟨h1,h2,h3⟩:=hu;go_simp)⟩) S0.out ?_
     refine U_step (j:=6) (by kernel_rfl) rfl (fun K hK=>?_)
     go_simp
     (with_reducible refine (HWK.out _).mono ?_);rintro e w6 ⟨rfl,hb6⟩
     have HB6:=hid (show Below wr.heap.size wr w6 from (Below.refl _ wr).drew.trans hb6)
     have hF6:=HFF.out.on HB6.out
     have S6:Hid ((fun u:World=>u.cell? ⟨w.heap.size,0,none⟩=some (.int .u8 (c.toNat:Nat))∧u.cell? ⟨w.heap.size,1,none⟩=some (.bool p)∧u.cell? ⟨w.heap.size,2,none⟩=some (.int .i64 n)) w6):=hid ⟨hF6.c0,hF6.c1,hF6.c2⟩
     refine hK.out _ _ (.inr S6.out) ?_
     clear hK K S0 hb6
     have HF6:=hid hF6
     clear hF6
     refine U_take2 8 (i:=7) (v:=.int .i64 ((o:Int)+8)) rfl (by kernel_rfl) (by kernel_rfl) (by kernel_rfl) (by kernel_rfl) (by kernel_rfl) (fun _ _ _ h=>h) (.inl ⟨rfl,fun u hu=>(by go_simp<;>exact IntWalk.i64_in _ (by omega))⟩) S6.out ?_
     refine U_take2 8 (i:=8) (v:=.string ⟨x.toArray⟩) rfl (by kernel_rfl) (by kernel_rfl) (by kernel_rfl) (by kernel_rfl) (by kernel_rfl) (fun _ _ _ h=>h) (.inl ⟨rfl,fun u hu=>(by go_simp<;>(try rw [if_pos ⟨by omega,by omega⟩])<;>(try rw [show ((o:Int)+8).toNat=o+8 by omega])<;>(try rw [HEXT.out])<;>(try rw [if_pos (show (o:Int)≤(o:Int)+8 by omega)])<;>(try rw [HEXT.out]))⟩) S6.out ?_
     refine U_step (j:=9) (by kernel_rfl) rfl (fun K hK=>?_)
     go_simp
     (with_reducible refine (HNF.out x (by have:=HXL.out;omega) _ ((HT4.out.below (HBL.out.trans (HB6.out.mono hs4)))) ).mono ?_);rintro e w7 ⟨rfl,hb7⟩
     have HB7:=hid (show Below wr.heap.size wr w7 from HB6.out.trans (hb7.mono HB6.out.size))
     have hF7:=HFF.out.on HB7.out
     have S7:Hid ((fun u:World=>u.cell? ⟨w.heap.size,0,none⟩=some (.int .u8 (c.toNat:Nat))∧u.cell? ⟨w.heap.size,1,none⟩=some (.bool p)∧u.cell? ⟨w.heap.size,2,none⟩=some (.int .i64 n)) w7):=hid ⟨hF7.c0,hF7.c1,hF7.c2⟩
     refine hK.out _ _ (.inr S7.out) ?_
     clear hK K S6 hb7
     have HF7:=hid hF7
     clear hF7
     refine U_step (j:=10) (by kernel_rfl) rfl (fun K hK=>?_)
     go_simp
     have hF8:=HF7.out.on (belowA w7 (.cells #[.string ⟨(numberE c p x).toArray⟩] 9))
     refine hK.out _ _ (.inr ⟨hF8.c0,hF8.c1,hF8.c2⟩) ?_
     clear hK K hF8
     refine U_step (j:=11) (by kernel_rfl) rfl (fun K hK=>?_)
     rw [if_pos (show Region.wanted _ _=true by simp [Region.wanted])]
     have hsw:w4.heap.size≤w7.heap.size:=Nat.le_trans hs4 HB7.out.size
     refine app_one_op (w:=w7) (.tmp 90) (.tmp 100) rfl w4.heap.size (.slice ao i co) (numsU c p 8 t i) (numberE c p x) rfl (HRO.out.on HB7.out) rfl (by rw [numsU_len];omega) hsw ?_
     intro v9 w9 hr9 hg9
     refine hK.out _ _ (.inl rfl) ?_
     clear hK K S7
     have HR9:=hid hr9
     have HB9:=hid (show Below w4.heap.size w4 w9 from (HBL.out.trans (HB7.out.mono hs4)).grown hg9 hsw (fun k hk=>(HRO.out.lt k hk).2))
     have HF9:=hid (HF4.out.on HB9.out)
     clear hr9 hg9
     refine U_step (j:=12) (by kernel_rfl) rfl (fun K hK=>?_)
     go_simp
     refine hK.out _ _ (.inl rfl) ?_
     clear hK K
     refine U_done (by kernel_rfl) ?_ _
     have x0:=HF9.out.c0
     have x1:=HF9.out.c1
     have x2:=HF9.out.c2
     go_wp2_with ((with_reducible refine (HWK.out _).mono ?_);rintro e wz ⟨rfl,hbz⟩;have HBZ:=hid hbz;clear hbz)
     go_roundg (M-(o+8))
     case measure=>omega
     case rel=>exact ⟨i+1,o+8,by have:=HOE.out;omega,hlt,by go_num,by rw [HSN.out];exact HR9.out.on HBZ.out,HF9.out.on HBZ.out,HB9.out.trans (HBZ.out.mono HB9.out.size),rfl⟩
    ·obtain rfl:i=N:=by omega
     have hoM:¬ ((o:Int)<(M:Int)):=by have:=HOE.out;have:=HML.out;omega
     have HJ:=hid (joinB_fn _ _ wr HRO.out.strs (Nat.le_trans (numsU_sum c p 8 (by decide) t i) (by omega)) (by rw [numsU_len];omega))
     go_wp2_with (go_at_call 21;refine HJ.out.mono ?_;rintro e w8 ⟨rfl,hb8⟩;have HB8:=hid hb8;clear hb8)
     go_ret3
     exact ⟨by rw [HRR.out,HTD.out];rfl,(HB4.out.trans (HBL.out.mono HB4.out.size)).trans (HB8.out.mono (Nat.le_trans HB4.out.size hs4))⟩
end Go.Proofs.YtihdndaibmgoiaaGreatDoor.Pz
