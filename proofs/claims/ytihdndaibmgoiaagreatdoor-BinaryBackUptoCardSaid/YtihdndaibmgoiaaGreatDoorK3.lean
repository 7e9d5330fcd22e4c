/-
  Part K3 of the proofs of this seat, merged by a program out of 20 texts; remarks are struck.
-/
import Derived.Shelf.Small.Strs
import Derived.Shelf.Strings.BuilderK
import Derived.Shelf.LaysM
import Derived.Test.YtihdndaibmgoiaaGreatDoorProg
import Derived.Below
import Derived.WalkKit
import Derived.WalkSpells
import Derived.WalkLawsBesides
import Derived.Lib.MinMax
import Derived.Lib.Strings
import Derived.Lib.Slices
import Derived.Lib.TrimByte
import Derived.Laws.Strings3
import Derived.Lib.FrozenHead
import Derived.Lib.OthersKept
import Derived.Lib.MakeNoZero
import Derived.Laws.Externs
import Derived.Deep.LoopGhost
import Derived.Laws.EntriesVeiled
import Derived.BigQuiet
import Derived.Maps.AppendAt
import Derived.Laws.AppendOwnNone
import Derived.Laws.CopyOwn
import Derived.Laws.MakeOwn
import Derived.OrdersHeld
import Derived.Deep.AppendLies
import Derived.Deep.RegionLaw
import Derived.Laws.OwnMore
import Derived.Ground.MpProg
import Derived.Shelf.Pu.ParseUintPublic10
import Derived.Test.YtihdndaibmgoiaaGreatDoorK2
import Derived.Test.YtihdndaibmgoiaaGreatDoorK0
namespace Go.Proofs.YtihdndaibmgoiaaGreatDoor.Pz
theorem suf_tail (c:UInt8) (t:Str):t <:+ c::t:=⟨[c],rfl⟩
theorem suf_len {r l:Str} (h:r <:+ l):r.length≤l.length:=h.length_le
end Go.Proofs.YtihdndaibmgoiaaGreatDoor.Pz
namespace Go.Proofs.YtihdndaibmgoiaaGreatDoor.Pz
structure Fld where
 letter:UInt8
 plain:Bool
 count:Int
def noFld:Fld:=⟨0,false,0⟩
def textL (c:UInt8):Bool:=c == 97 || c == 65 || c == 104 || c == 72 || c == 98 || c == 66
def widthL (c:UInt8):Nat:=if c == 99 then 1 else if c == 115 || c == 83 then 2 else if c == 105 || c == 73 then 4 else if c == 119 || c == 87 then 8 else 0
def knownL (c:UInt8):Bool:=textL c || decide (0<widthL c) || c == 120 || c == 64
def isNum (c:UInt8):Bool:=decide (48≤c.toNat) && decide (c.toNat≤57)
def numE:Nat→Nat→Str→Nat×Str
 | _,a,[]=>(a,[])
 | 0,a,l=>(a,l)
 | k+1,a,c::t=>if isNum c then numE k (10*a+(c.toNat-48)) t else (a,c::t)
theorem numE_suf:∀ (k a:Nat) (l:Str),(numE k a l).2 <:+ l
 | _,a,[]=>by rw [numE];exact List.suffix_refl _
 | 0,a,c::t=>by rw [numE];exact List.suffix_refl _;simp
 | k+1,a,c::t=>by
  rw [numE]
  split
  ·exact (numE_suf k _ t).trans (suf_tail c t)
  ·exact List.suffix_refl _
def uE (c:UInt8):Str→Bool×Str
 | []=>(false,[])
 | d::t=>if decide (0<widthL c) && d == 117 then (true,t) else (false,d::t)
theorem uE_suf (c:UInt8) (l:Str):(uE c l).2 <:+ l:=by
 cases l with
 | nil=>exact List.suffix_refl _
 | cons d t=>
  rw [uE]
  split
  ·exact suf_tail d t
  ·exact List.suffix_refl _
def cntE:Str→Int×Bool×Str
 | []=>(-1,true,[])
 | c::t=>if isNum c then ((numE 5 0 (c::t)).1,decide ((numE 5 0 (c::t)).1≤9999) && !(c == 48 && decide ((numE 5 0 (c::t)).2.length<t.length)),(numE 5 0 (c::t)).2)
  else if c == 42 then (-2,true,t) else (-1,true,c::t)
theorem cntE_suf (l:Str):(cntE l).2.2 <:+ l:=by
 cases l with
 | nil=>exact List.suffix_refl _
 | cons c t=>
  rw [cntE]
  split
  ·exact numE_suf _ _ _
  ·split
   ·exact suf_tail c t
   ·exact List.suffix_refl _
def fldE (c:UInt8) (t:Str):Fld×Bool×Str:=
 (⟨c,(uE c t).1,(cntE (uE c t).2).1⟩,knownL c && (cntE (uE c t).2).2.1 && !(c == 64 && decide ((cntE (uE c t).2).1 = -1)),(cntE (uE c t).2).2.2)
theorem fldE_suf (c:UInt8) (t:Str):(fldE c t).2.2 <:+ t:=(cntE_suf _).trans (uE_suf c t)
def fldsF:Nat→Str→List Fld
 | 0,_=>[]
 | _+1,[]=>[]
 | n+1,c::t=>if c == 32 then fldsF n t else if (fldE c t).2.1 then (fldE c t).1::fldsF n (fldE c t).2.2 else [noFld]
theorem fldsF_more:∀ (n m:Nat) (l:Str),l.length≤n→l.length≤m→fldsF n l=fldsF m l
 | 0,0,_,_,_=>rfl
 | 0,m+1,[],_,_=>rfl
 | n+1,0,[],_,_=>rfl
 | n+1,m+1,[],_,_=>rfl
 | 0,m+1,c::t,h,_=>absurd h (by simp)
 | n+1,0,c::t,_,h=>absurd h (by simp)
 | n+1,m+1,c::t,h1,h2=>by
  have h3:t.length≤n:=by simpa using h1
  have h4:t.length≤m:=by simpa using h2
  have:=suf_len (fldE_suf c t)
  rw [fldsF,fldsF,fldsF_more n m t h3 h4,fldsF_more n m (fldE c t).2.2 (by omega) (by omega)]
def fldsE (l:Str):List Fld:=fldsF l.length l
theorem fldsE_nil:fldsE []=[]:=rfl
theorem fldsE_cons (c:UInt8) (t:Str):fldsE (c::t)=if c == 32 then fldsE t else if (fldE c t).2.1 then (fldE c t).1::fldsE (fldE c t).2.2 else [noFld]:=by
 have:=suf_len (fldE_suf c t)
 unfold fldsE
 rw [List.length_cons,fldsF,fldsF_more t.length (fldE c t).2.2.length _ (by omega) (Nat.le_refl _)]
theorem fldsE_blank {c:UInt8} {t:Str} (h:c=32):fldsE (c::t)=fldsE t:=by
 rw [fldsE_cons,if_pos (by simp [h])]
theorem fldsE_good {c:UInt8} {t:Str} (h:c≠32) (hg:(fldE c t).2.1=true):fldsE (c::t)=(fldE c t).1::fldsE (fldE c t).2.2:=by
 rw [fldsE_cons,if_neg (by simp [h]),if_pos hg]
theorem fldsE_bad {c:UInt8} {t:Str} (h:c≠32) (hg:(fldE c t).2.1=false):fldsE (c::t)=[noFld]:=by
 rw [fldsE_cons,if_neg (by simp [h]),if_neg (by simp [hg])]
theorem flds_len:∀ (n:Nat) (l:Str),l.length≤n→(fldsE l).length≤l.length
 | _,[],_=>by rw [fldsE_nil];simp
 | 0,c::t,h=>absurd h (by simp)
 | n+1,c::t,h=>by
  have ht:t.length≤n:=by simpa using h
  by_cases hw:c=32
  ·rw [fldsE_blank hw]
   have:=flds_len n t ht
   simp
   omega
  ·cases hg:(fldE c t).2.1 with
   | true=>
    rw [fldsE_good hw hg]
    have:=suf_len (fldE_suf c t)
    have:=flds_len n (fldE c t).2.2 (by omega)
    simp
    omega
   | false=>
    rw [fldsE_bad hw hg]
    simp
def FldOk (f:Fld):Prop:=knownL f.letter=true∧(f.plain=true→0<widthL f.letter)∧-2≤f.count∧f.count≤9999∧(f.letter=64→f.count≠-1)
theorem known_ne {c:UInt8} (h:knownL c=true):c≠0:=by
 rintro rfl
 exact absurd h (by decide)
theorem cntE_range (l:Str):-2≤(cntE l).1∧((cntE l).2.1=true→(cntE l).1≤9999):=by
 cases l with
 | nil=>exact ⟨by decide,fun _=>by decide⟩
 | cons c t=>
  rw [cntE]
  split
  ·refine ⟨by dsimp only;omega,fun h=>?_⟩
   dsimp only at h ⊢
   simp only [Bool.and_eq_true,decide_eq_true_eq] at h
   omega
  ·split
   ·exact ⟨show (-2:Int)≤-2 by decide,fun _=>show (-2:Int)≤9999 by decide⟩
   ·exact ⟨show (-2:Int)≤-1 by decide,fun _=>show (-1:Int)≤9999 by decide⟩
theorem uE_plain {c:UInt8} {l:Str} (h:(uE c l).1=true):0<widthL c:=by
 cases l with
 | nil=>exact absurd h (by simp [uE])
 | cons d t=>
  rw [uE] at h
  split at h
  ·rename_i hh
   simp only [Bool.and_eq_true,decide_eq_true_eq] at hh
   exact hh.1
  ·exact absurd h (by simp)
theorem fldE_ok {c:UInt8} {t:Str} (h:(fldE c t).2.1=true):FldOk (fldE c t).1:=by
 unfold fldE at h ⊢
 simp only [Bool.and_eq_true,Bool.not_eq_true',Bool.and_eq_false_iff,beq_eq_false_iff_ne,decide_eq_false_iff_not] at h
 obtain ⟨⟨h1,h2⟩,h3⟩:=h
 have hr:=cntE_range (uE c t).2
 exact ⟨h1,fun hp=>uE_plain hp,hr.1,hr.2 h2,fun hc hn=>by
  rcases h3 with h3 | h3
  ·exact h3 hc
  ·exact h3 hn⟩
theorem flds_cases:∀ (n:Nat) (l:Str),l.length≤n→(∀ f∈fldsE l,FldOk f)∨∃ q,fldsE l=q++[noFld]∧∀ f∈q,FldOk f
  | _,[],_=>.inl (by rw [fldsE_nil];simp)
  | 0,c::t,h=>absurd h (by simp)
  | n+1,c::t,h=>by
    have ht:t.length≤n:=by simpa using h
    by_cases hw:c=32
    · rw [fldsE_blank hw]
      exact flds_cases n t ht
    · cases hg:(fldE c t).2.1 with
      | false=>
        rw [fldsE_bad hw hg]
        exact .inr ⟨[],rfl,by simp⟩
      | true=>
        rw [fldsE_good hw hg]
        have:=suf_len (fldE_suf c t)
        rcases flds_cases n (fldE c t).2.2 (by omega) with hh | ⟨q,hq,hh⟩
        · exact .inl fun f hf => by
            rcases List.mem_cons.1 hf with rfl | hf
            · exact fldE_ok hg
            · exact hh f hf
        · exact .inr ⟨(fldE c t).1 :: q, by rw [hq]; rfl, fun f hf => by
            rcases List.mem_cons.1 hf with rfl | hf
            · exact fldE_ok hg
            · exact hh f hf⟩
def validE (s:Str):Bool:=(fldsE s).all fun f=>f.letter != 0
def packingE (s:Str):Bool:=(fldsE s).all fun f=>f.letter != 0 && !f.plain
theorem valid_ok {s:Str} (h:validE s=true):∀ f∈fldsE s,FldOk f:=by
 rcases flds_cases _ s (Nat.le_refl _) with hh | ⟨q,hq,_⟩
 ·exact hh
 ·unfold validE at h
  rw [hq] at h
  exact absurd h (by simp [noFld])
theorem packing_valid {s:Str} (h:packingE s=true):validE s=true:=by
 unfold packingE at h
 unfold validE
 rw [List.all_eq_true] at h ⊢
 intro f hf
 have:=h f hf
 rw [Bool.and_eq_true] at this
 exact this.1
def takesL (c:UInt8):Bool:=c != 120 && c != 64
def lenL (c:UInt8) (n:Nat):Nat:=if c == 104 || c == 72 then (n+1) / 2 else if c == 98 || c == 66 then (n+7) / 8 else max 1 (widthL c)*n
def oneC (f:Fld):Nat:=if f.count<0 then 1 else f.count.toNat
end Go.Proofs.YtihdndaibmgoiaaGreatDoor.Pz
namespace Go.Proofs.YtihdndaibmgoiaaGreatDoor.Pz
def highL (c:UInt8):Bool:=decide (c.toNat<97)
def bitsL (c:UInt8):Nat:=if c == 98 || c == 66 then 1 else 4
def shiftL (c:UInt8) (i bits:Nat):Nat:=if c == 72 || c == 66 then bits*(8 / bits-1-i % (8 / bits)) else bits*(i % (8 / bits))
def hexD (n:Nat):UInt8:=if n<10 then UInt8.ofNat (48+n) else UInt8.ofNat (87+n)
def valH (c:UInt8):Nat:=if 48≤c.toNat∧c.toNat≤57 then c.toNat-48 else if 97≤c.toNat∧c.toNat≤102 then c.toNat-87 else if 65≤c.toNat∧c.toNat≤70 then c.toNat-55 else 16
def b64L (n:Nat):UInt8:=UInt8.ofNat (if n<26 then 65+n else if n<52 then 71+n else if n<62 then n-4 else if n=62 then 43 else 47)
def b64E:Str→Str
 | []=>[]
 | [a]=>[b64L (a.toNat / 4),b64L (a.toNat % 4*16),61,61]
 | [a,b]=>[b64L (a.toNat / 4),b64L (a.toNat % 4*16+b.toNat / 16),b64L (b.toNat % 16*4),61]
 | a::b::c::t=>b64L (a.toNat / 4)::b64L (a.toNat % 4*16+b.toNat / 16)::b64L (b.toNat % 16*4+c.toNat / 64)::b64L (c.toNat % 64)::b64E t
theorem b64E_len:∀ (s:Str),(b64E s).length=(s.length+2) / 3*4
 | []=>rfl
 | [a]=>by simp [b64E]
 | [a,b]=>by simp [b64E]
 | a::b::c::t=>by
  rw [b64E]
  simp only [List.length_cons]
  rw [b64E_len t]
  omega
end Go.Proofs.YtihdndaibmgoiaaGreatDoor.Pz
namespace Go.Proofs.YtihdndaibmgoiaaGreatDoor.Pz
def putE (b:Str) (at0:Nat) (x:Str):Str:=(b++List.replicate (at0-b.length) 0).take at0++x++(b++List.replicate (at0-b.length) 0).drop (at0+x.length)
def digE (c:UInt8) (n:Nat):Nat→Str→Str→Option Str
 | _,[],out=>some out
 | i,d::t,out=>if 2 ^ bitsL c≤valH d then none else digE c n (i+1) t (if i<n then out.set (i*bitsL c / 8) (out.getD (i*bitsL c / 8) 0 ||| UInt8.ofNat (valH d <<< shiftL c i (bitsL c) % 256)) else out)
def cntT (f:Fld) (arg:Str):Nat:=if f.count = -2 then arg.length else oneC f
def textedE (f:Fld) (arg:Str):Option Str:=
 if f.letter == 97 || f.letter == 65 then some (arg.take (cntT f arg)++List.replicate (cntT f arg-arg.length) (if f.letter == 65 then 32 else 0))
 else digE f.letter (cntT f arg) 0 arg (List.replicate (lenL f.letter (cntT f arg)) 0)
def wordsGo:Str→Str→List Str
 | p,[]=>if p=[] then [] else [p]
 | p,c::t=>if white c then (if p=[] then wordsGo [] t else p::wordsGo [] t) else wordsGo (p++[c]) t
def wordsE (s:Str):List Str:=wordsGo [] s
def bytesLE:Nat→Nat→Str
 | 0,_=>[]
 | k+1,v=>UInt8.ofNat (v % 256)::bytesLE k (v / 256)
theorem bytesLE_len:∀ (k v:Nat),(bytesLE k v).length=k
 | 0,_=>rfl
 | k+1,v=>by rw [bytesLE,List.length_cons,bytesLE_len]
def ordE (high:Bool) (l:Str):Str:=if high then l.reverse else l
def v64 (w:Str):Sum Int Nat:=if pOK w then if big600≤(pVal w).natAbs then .inl 4 else .inr (pVal w % 18446744073709551616).toNat else .inl 11
def numsGo (c:UInt8) (n:Nat):Nat→List Str→Str→Sum Int Str
 | _,[],out=>.inr out
 | i,w::t,out=>match v64 w with
  | .inl e=>.inl e
  | .inr v=>numsGo c n (i+1) t (if i<n then out++ordE (highL c) (bytesLE (widthL c) v) else out)
def numberedE (f:Fld) (arg:Str):Sum Int Str:=
 if f.count = -1 then numsGo f.letter 1 0 [arg] []
 else if f.count = -2 then numsGo f.letter (wordsE arg).length 0 (wordsE arg) []
 else if ((wordsE arg).length:Int)<f.count then .inl 11
 else numsGo f.letter f.count.toNat 0 (wordsE arg) []
def packOne (f:Fld) (arg:Str):Sum Int Str:=
 if textL f.letter then (match textedE f arg with | none=>.inl 11 | some x=>.inr x) else numberedE f arg
def packGo:List Fld→List Str→Str→Nat→Sum Int Str
 | [],_,b,_=>.inr b
 | f::fs,args,b,at0=>
  if f.letter == 64 then
   let to':=if f.count = -2 then b.length else f.count.toNat
   if 65536<(putE b to' []).length then .inl 4 else packGo fs args (putE b to' []) to'
  else if f.letter == 120 then
   if 65536<(putE b at0 (List.replicate (oneC f) 0)).length then .inl 4 else packGo fs args (putE b at0 (List.replicate (oneC f) 0)) (at0+oneC f)
  else match args with
   | []=>.inl 8
   | x::args=>match packOne f x with
    | .inl e=>.inl e
    | .inr y=>if 65536<(putE b at0 y).length then .inl 4 else packGo fs args (putE b at0 y) (at0+y.length)
def packRes (layout:Str) (args:List Str):Str×Int:=
 if packingE layout then (match packGo (fldsE layout) args [] 0 with | .inl e=>([],e) | .inr b=>(b,0)) else ([],2)
def tellE (c:UInt8) (s:Str) (n:Nat):Str:=(List.range n).map fun i=>hexD ((s.getD (i*bitsL c / 8) 0).toNat / 2 ^ shiftL c i (bitsL c) % 2 ^ bitsL c)
def ofLE:Str→Nat
 | []=>0
 | c::t=>c.toNat+256*ofLE t
def signedE (k v:Nat):Int:=if 2 ^ (8*k-1)≤v then (v:Int)-(2 ^ (8*k):Nat) else v
def numberE (c:UInt8) (plain:Bool) (s:Str):Str:=
 let z:Int:=if plain then (ofLE (ordE (highL c) s):Int) else signedE s.length (ofLE (ordE (highL c) s))
 numText 10 z.natAbs (decide (z<0))
def cntU (f:Fld) (len:Nat):Nat:=if f.count = -2 then
  if f.letter == 120 then 1 else if textL f.letter && !(f.letter == 97 || f.letter == 65) then len*8 / bitsL f.letter else len / max 1 (widthL f.letter)
 else oneC f
def chunksE (k:Nat):Nat→Str→List Str
 | 0,_=>[]
 | n+1,s=>s.take k::chunksE k n (s.drop k)
def joinB:List Str→Str
 | []=>[]
 | [x]=>x
 | x::y::l=>x++32::joinB (y::l)
def trimZ (s:Str):Str:=(s.reverse.dropWhile fun c=>c == 32 || c == 0).reverse
def toldE (f:Fld) (n:Nat) (s:Str):Str:=
 if f.letter == 97 || f.letter == 120 then s else if f.letter == 65 then trimZ s else if textL f.letter then tellE f.letter s n
 else joinB ((chunksE (widthL f.letter) n s).map (numberE f.letter f.plain))
def unpackGo:List Fld→Str→Nat→List Str→List Str×Bool
 | [],_,_,l=>(l,true)
 | f::fs,s,at0,l=>
  if f.letter == 64 then
   let to':=if f.count = -2 then s.length else f.count.toNat
   if s.length<to' then (l,false) else unpackGo fs s to' l
  else
   let n:=cntU f (s.length-at0)
   let size:=lenL f.letter n
   if s.length-at0<size then (l,false)
   else unpackGo fs s (at0+size) (if takesL f.letter then l++[toldE f n ((s.drop at0).take size)] else l)
def unpackRes (layout s:Str):List Str×Bool×Int:=
 if validE layout then ((unpackGo (fldsE layout) s 0 []).1,(unpackGo (fldsE layout) s 0 []).2,0) else ([],false,2)
end Go.Proofs.YtihdndaibmgoiaaGreatDoor.Pz
namespace Go.Proofs.YtihdndaibmgoiaaGreatDoor.Pz
open Go.Shelf
def Tryz.lays169_ren:Go.Shelf.Ren:=⟨fun | 169=>78 | n=>n,fun | 70=>86 | 9=>9 | 0=>0 | 72=>88 | 37=>46 | 127=>140 | 3=>3 | 5=>5 | n=>n,fun | n=>n⟩
theorem Tryz.lays169:Go.Proofs.Lays.n169 Tryz.prog Tryz.lays169_ren:={
 mixed:=by kernel_rfl
 f169:=Tryz.func78.trans (congrArg some (by kernel_rfl))
 t0:=Tryz.underlying0
 a0:=Tryz.isAgg0
 z0:=Tryz.sizeOf0
 v0:=Tryz.zeroValue0
 t3:=Tryz.underlying3
 a3:=Tryz.isAgg3
 z3:=Tryz.sizeOf3
 v3:=Tryz.zeroValue3
 t9:=Tryz.underlying9
 a9:=Tryz.isAgg9
 z9:=Tryz.sizeOf9
 v9:=Tryz.zeroValue9
 t37:=Tryz.underlying46
 a37:=Tryz.isAgg46
 z37:=Tryz.sizeOf46
 v37:=Tryz.zeroValue46
 t70:=Tryz.underlying86
 a70:=Tryz.isAgg86
 z70:=Tryz.sizeOf86
 v70:=Tryz.zeroValue86
 t72:=Tryz.underlying88
 a72:=Tryz.isAgg88
 z72:=Tryz.sizeOf88
 v72:=Tryz.zeroValue88
 t127:=Tryz.underlying140
 a127:=Tryz.isAgg140
 z127:=Tryz.sizeOf140
 v127:=Tryz.zeroValue140 }
theorem Tryz.Builder_Extra_169:Builder.Extra Tryz.prog Tryz.lays169_ren:={
 sizeBuilder:=by kernel_rfl
 liesBuilder:=by kernel_rfl
 t5:=Tryz.underlying5
 a5:=Tryz.isAgg5
 z5:=Tryz.sizeOf5
 v5:=Tryz.zeroValue5
 infoByte:=by kernel_rfl
 cellsByte:=by kernel_rfl
 sizeByte:=by kernel_rfl
 neB5:=by decide }
open Go.RowKit in
theorem Tryz.Builder_String_any_k (B b:Nat) (l:List UInt8) (w:World) (h:Lib.IsBuilderF 88 5 B b (Lib.byteCells l) w) (hBw:B≤w.heap.size) :
  Calls Tryz.prog 78 #[.pointer (some ⟨b,0,none⟩)] w fun e w'=>e=.returned (.string ⟨l.toArray⟩)∧(Lib.IsBuilderF 88 5 B b (Lib.byteCells l) w'∧Below B w w'∧Lib.OthersKept 5 (some b) w w'):=Any.Builder_String_any_k Tryz.lays169 Tryz.Builder_Extra_169 B b l w h hBw
def Tryz.lays137_ren:Go.Shelf.Ren:=⟨fun | 137=>97 | 217=>139 | 266=>167 | n=>n,fun | 9=>9 | 5=>5 | 3=>3 | n=>n,fun | n=>n⟩
theorem Tryz.lays137:Go.Proofs.Lays.n137 Tryz.prog Tryz.lays137_ren:={
 mixed:=by kernel_rfl
 f137:=Tryz.func97.trans (congrArg some (by kernel_rfl))
 f217:=Tryz.func139.trans (congrArg some (by kernel_rfl))
 f266:=Tryz.func167.trans (congrArg some (by kernel_rfl))
 t3:=Tryz.underlying3
 a3:=Tryz.isAgg3
 z3:=Tryz.sizeOf3
 v3:=Tryz.zeroValue3
 t5:=Tryz.underlying5
 a5:=Tryz.isAgg5
 z5:=Tryz.sizeOf5
 v5:=Tryz.zeroValue5
 t9:=Tryz.underlying9
 a9:=Tryz.isAgg9
 z9:=Tryz.sizeOf9
 v9:=Tryz.zeroValue9 }
open Go.RowKit in
theorem Tryz.strings_IndexByte (s:ByteArray) (c:Int) (w:World) :
  Calls Tryz.prog 97 #[.string s,.int .u8 c] w fun e w'=>e=.returned (.int .i64 (Lib.indexByte s.data.toList c.toNat.toUInt8))∧w'=w:=Any.strings_IndexByte Tryz.lays137 s c w
end Go.Proofs.YtihdndaibmgoiaaGreatDoor.Pz
namespace Go.Proofs.YtihdndaibmgoiaaGreatDoor.Pz
open Go.RowKit
theorem hid {p:Prop} (h:p):Hid p:=h
theorem white_nat (c:UInt8):white c=((decide (9≤c.toNat) && decide (c.toNat≤13)) || decide (c.toNat=32)):=by
 unfold white
 rw [Bool.eq_iff_iff]
 simp [UInt8.le_iff_toNat_le,← UInt8.toNat_inj]
theorem white_fn (c:UInt8) (w:World):Calls Tryz.prog 178 #[.int .u8 c.toNat] w fun e w'=>e=.returned (.bool (white c))∧w'=w:=by
 have hW:=hid (white_nat c)
 have hl:c.toNat<256:=c.toNat_lt
 generalize white c=W at hW ⊢
 generalize c.toNat=x at hl hW ⊢
 go_enter Tryz.func178,Tryz.ntmps178
 by_cases h1:9≤x
 ·by_cases h2:x≤13
  ·go_wp2
   go_ret
   exact ⟨by rw [hW.out,decide_eq_true h1,decide_eq_true h2];rfl,rfl⟩
  ·have h2':¬ (x:Int)≤13:=by omega
   by_cases h3:x=32
   ·subst h3
    go_wp2
    go_ret
    exact ⟨by rw [hW.out];rfl,rfl⟩
   ·have h4:((x:Int) == 32)=false:=by simp;omega
    go_wp2
    go_ret
    refine ⟨?_,rfl⟩
    rw [hW.out,decide_eq_false h2,decide_eq_false h3]
    simp
 ·go_wp2
  go_ret
  refine ⟨?_,rfl⟩
  rw [hW.out,decide_eq_false h1]
  have h3:¬ x=32:=by omega
  have:¬ (x:Int)=32:=by omega
  simp [this,h3]
theorem byte_ne {d k:UInt8} (n:Int) (h:d≠k) (hn:n=(k.toNat:Int)):((d.toNat:Int) == n)=false:=by
 subst hn
 rw [beq_eq_false_iff_ne]
 intro e
 exact h (UInt8.toNat_inj.1 (by omega))
theorem byte_ne' {d k:UInt8} (n:Int) (h:d≠k) (hn:n=(k.toNat:Int)):((d.toNat:Int) != n)=true:=by
 rw [bne,byte_ne n h hn]
 rfl
end Go.Proofs.YtihdndaibmgoiaaGreatDoor.Pz
namespace Go.Proofs.YtihdndaibmgoiaaGreatDoor.Pz
open Go.RowKit
def Bld (w:World) (b:Nat) (l:Str):Prop:=Lib.IsBuilderF 88 5 b b (Lib.byteCells l) w
def Kept (b:Nat) (w w':World):Prop:=Below b w w'∧Lib.OthersKept 5 (some b) w w'
theorem Kept.refl (b:Nat) (w:World):Kept b w w:=⟨Below.refl _ _,Lib.OthersKept.refl _ _ _⟩
theorem Kept.trans {b:Nat} {x y z:World} (h:Kept b x y) (k:Kept b y z):Kept b x z:=⟨h.1.trans k.1,h.2.trans k.2⟩
theorem Bld.at {w:World} {b:Nat} {l:Str} (h:Bld w b l):∃ p,(p=.pointer none∨p=.pointer (some ⟨b,0,none⟩))∧Lib.BuilderAtF 88 5 b b p (Lib.byteCells l) w:=by
 rcases h with h | h
 ·exact ⟨_,.inl rfl,h⟩
 ·exact ⟨_,.inr rfl,h⟩
theorem Bld.lt {w:World} {b:Nat} {l:Str} (h:Bld w b l):b<w.heap.size:=by
 obtain ⟨p,_,h⟩:=h.at
 exact h.lt
theorem Bld.new (w:World):Bld (w.alloc (.cells #[.pointer none,.slice none 0 0] 88)) w.heap.size []:=Lib.IsBuilderF.of (Lib.fresh_isBuilder 88 5 w)
theorem Bld.of {w w':World} {b:Nat} {l:Str} (h:Bld w b l) (hk:∀ k,b≤k→k<w.heap.size→w'.heap[k]? = w.heap[k]?):Bld w' b l:=by
 have go:∀ p,Lib.BuilderAtF 88 5 b b p (Lib.byteCells l) w→Lib.BuilderAtF 88 5 b b p (Lib.byteCells l) w':=by
  intro p h
  have hlt:=h.lt
  obtain ⟨hB,v,hb,hown,hne⟩:=h
  refine ⟨hB,v,(hk b (Nat.le_refl _) hlt).trans hb,⟨hown.1,?_⟩,hne⟩
  rcases hown.2 with hn | ⟨g,cap,cur,fz,hv,hbg,hg,rest⟩
  ·exact .inl hn
  ·exact .inr ⟨g,cap,cur,fz,hv,hbg,(hk g hbg (Array.getElem?_eq_some_iff.1 hg).1).trans hg,rest⟩
 exact h.elim (fun x=>.inl (go _ x)) (fun x=>.inr (go _ x))
theorem Tryz.infoB:(Tryz.prog.info? 88).map (·.size)=some 2:=by kernel_rfl
theorem Tryz.liesB:liesAt Tryz.prog Tryz.prog.depth 88 (2 / Tryz.prog.cellsOf 88) 0 88 1=true:=by kernel_rfl
theorem Tryz.info5:(Tryz.prog.info? 5).map (fun i=>(i.zero,i.size,i.bytes))=some (some (.int .u8 0),1,1):=by kernel_rfl
set_option maxRecDepth 100000 in
set_option maxHeartbeats 1000000 in
theorem copyCheck_fn {w:World} {b:Nat} {l:Str} (h:Bld w b l) :
  Calls Tryz.prog 123 #[.pointer (some ⟨b,0,none⟩)] w fun e w'=>e=.returned (.tuple #[])∧Lib.BuilderAtF 88 5 b b (.pointer (some ⟨b,0,none⟩)) (Lib.byteCells l) w'∧Kept b w w':=by
 obtain ⟨j,hj,hjs⟩:=Option.map_eq_some_iff.1 Tryz.infoB
 rcases h with h | h
 ·have h0:=h.cell0
  have hsh:=h.shape
  have hfz:=h.frozen0
  have H:=hid h
  clear h
  go_enter Tryz.func123,Tryz.ntmps123
  go_wp2
  rw [Lib.run_to_unsafe w ⟨b,0,none⟩ Tryz.underlying86 Tryz.underlying169 hj (by rw [hjs];decide) hsh (Nat.zero_lt_succ 1)]
  simp only [Result.andThen]
  rw [Oper.upon_value]
  go_wp2
  rw [run_callFunc_extern Tryz.func153 (by kernel_rfl) (by kernel_rfl) (by kernel_rfl) (e:=Extern.AbiNoEscape.same) (by kernel_rfl)]
  rw [Lib.run_noEscape]
  simp only [Result.andThen]
  rw [Oper.upon_value]
  go_wp2
  rw [Lib.run_from_unsafe w ⟨b,0,none⟩ Tryz.underlying169 Tryz.underlying86 hj hsh Tryz.liesB]
  simp only [Result.andThen]
  rw [Oper.upon_value]
  go_wp2
  go_end0
  exact ⟨rfl,H.out.used _,(Below.refl b w).setCell (p:=⟨b,0,none⟩) (Nat.le_refl _) _,(Lib.OthersKept.refl _ _ w).setCell ⟨b,0,none⟩ rfl _⟩
 ·have h0:=h.cell0
  have H:=hid h
  clear h
  go_enter Tryz.func123,Tryz.ntmps123
  go_wp2
  rw [Lib.run_neq_ptr_same w _ Tryz.underlying86 hj]
  go_wp2
  go_end0
  exact ⟨rfl,H.out,Kept.refl _ _⟩
set_option maxRecDepth 100000 in
set_option maxHeartbeats 2000000 in
theorem wbyte_fn {w:World} {b:Nat} {l:Str} (h:Bld w b l) (c:UInt8) (hl:l.length≤1000000000) :
  Calls Tryz.prog 91 #[.pointer (some ⟨b,0,none⟩),.int .u8 c.toNat] w fun e w'=>e=.returned .nilIface∧Bld w' b (l++[c])∧Kept b w w':=by
 obtain ⟨i0,hi,hz0,hz1,hz2⟩:=info_parts Tryz.info5
 have hc:=hid (copyCheck_fn h)
 have hwb:=h.lt
 have hcell:Lib.byteCells (l++[c])=Lib.byteCells l++[.int .u8 c.toNat]:=by simp [Lib.byteCells]
 have HC:=hid hcell
 clear h hcell
 generalize hx:(c.toNat:Int)=x at *
 clear hx
 go_enter Tryz.func91,Tryz.ntmps91
 go_wp2_with fail
 (with_reducible refine hc.out.mono ?_)
 rintro e w1 ⟨rfl,⟨hB,v,hbk,hown,hne⟩,hb1,hk1⟩
 rw [Lib.byteCells_length] at hown
 have c0:w1.cell? ⟨b,0,none⟩=some (.pointer (some ⟨b,0,none⟩)):=by rw [Lib.cell_of_heap hbk];rfl
 have c1:w1.cell? ⟨b,1,none⟩=some v:=by rw [Lib.cell_of_heap hbk];rfl
 go_wp2_with (at_builtin;refine wpList_append_ownF _ rfl _ _ 46 rfl b 5 i0 (.int .u8 0) 1 1 Tryz.underlying46 hi hz0 hz1 hz2 rfl (by decide) _ _ _ rfl (hown.alloc _) ⟨w1.heap.size,0,none⟩ 1 1 [.int .u8 x] rfl rfl ?c1 ?c2 ?c3 ?c4 ?c5 ?_)
 case c1=>
  intro j u hj
  match j,hj with
  | 0,hj=>simp at hj;subst hj;simp [Addr.add]
 case c2=>intro u hu;simp at hu;subst hu;rfl
 case c3=>unfold maxLen;omega
 case c4=>omega
 case c5=>have:=hb1.size;simp;omega
 intro v' w2 hown' hgrow _
 have hlt:b<w1.heap.size:=by have:=hb1.size;omega
 have hb2:w2.heap[b]? = some (.cells #[.pointer (some ⟨b,0,none⟩),v] 88 (0,0)):=by
  rw [hgrow.block b (by simp;omega) (fun e=>hne e.symm),Lib.alloc_old w1 _ b hlt]
  exact hbk
 have d0:w2.cell? ⟨b,0,none⟩=some (.pointer (some ⟨b,0,none⟩)):=by rw [Lib.cell_of_heap hb2];rfl
 have d1:w2.cell? ⟨b,1,none⟩=some v:=by rw [Lib.cell_of_heap hb2];rfl
 have f1:w2.frozen? ⟨b,1,none⟩=false:=Lib.frozen_of_heap hb2 1
 obtain ⟨g,cap,rfl⟩:∃ g cap,v'=.slice (some ⟨g,0,none⟩) (l.length+1) cap:=by
  rcases hown'.2 with ⟨_,h0⟩ | ⟨g,cap,cur,fz,hv,_⟩
  ·omega
  ·exact ⟨g,cap,hv⟩
 go_wp2
 go_ret
 refine ⟨rfl,?_,?_,((hk1.alloc _).grown hgrow (Lib.ownsRowF_kind (hown.alloc _))).setCell ⟨b,1,none⟩ rfl _⟩
 ·refine .inr ?_
  rw [HC.out]
  exact Lib.BuilderAtF.put (T:=88) (e:=5) hB hb2 (bs':=Lib.byteCells l++[.int .u8 x]) (by simpa [Lib.byteCells_length] using hown') (by decide)
 ·exact ((hb1.alloc (by have:=hb1.size;omega) _).grown hgrow (by have:=hb1.size;simp;omega) (fun k hk=>(hown.lt k hk).1)).setCell (p:=⟨b,1,none⟩) hB _
theorem str_fn {w:World} {b:Nat} {l:Str} (h:Bld w b l) :
  Calls Tryz.prog 78 #[.pointer (some ⟨b,0,none⟩)] w fun e w'=>e=.returned (.string ⟨l.toArray⟩)∧Bld w' b l∧Kept b w w':=
 (Tryz.Builder_String_any_k b b l w h (Nat.le_of_lt h.lt)).mono fun _ _ ⟨a,b,c,d⟩=>⟨a,b,c,d⟩
end Go.Proofs.YtihdndaibmgoiaaGreatDoor.Pz
namespace Go.Proofs.YtihdndaibmgoiaaGreatDoor.Pz
open Go
structure At (s l:Str) (i:Nat):Prop where
 len:i+l.length=s.length
 rest:s.drop i=l
theorem At.start (s:Str):At s s 0:=⟨by simp,rfl⟩
theorem At.app {s x r:Str} {i:Nat} (h:At s (x++r) i):At s r (i+x.length):=by
 refine ⟨by have:=h.len;simp at this;omega,?_⟩
 rw [← List.drop_drop,h.rest]
 simp
theorem At.tail {s t:Str} {c:UInt8} {i:Nat} (h:At s (c::t) i):At s t (i+1):=At.app (x:=[c]) h
theorem At.lt {s t:Str} {c:UInt8} {i:Nat} (h:At s (c::t) i):i<s.length:=by have:=h.len;simp at this;omega
theorem At.head {s t:Str} {c:UInt8} {i:Nat} (h:At s (c::t) i):s[i]? = some c:=by
 have h1:=h.rest
 have h2:(s.drop i)[0]? = some c:=by rw [h1];rfl
 rw [List.getElem?_drop] at h2
 simpa using h2
theorem At.nil_iff {s l:Str} {i:Nat} (h:At s l i):l=[]↔s.length≤i:=by
 have:=h.len
 constructor
 ·rintro rfl;simp at this;omega
 ·intro h'
  exact List.eq_nil_of_length_eq_zero (by omega)
theorem At.text {s x r:Str} {i:Nat} (h:At s (x++r) i):(⟨s.toArray⟩:ByteArray).extract i (i+x.length)=⟨x.toArray⟩:=by
 rw [Lib.extract_mk]
 have h1:(s.drop i).take x.length=x:=by rw [h.rest];simp
 have h2:(s.take (i+x.length)).drop i=x:=by
  rw [List.drop_take]
  rw [show i+x.length-i=x.length by omega]
  exact h1
 first
  | rw [h2]
  | (rw [show i+x.length-i=x.length by omega];rw [h1])
theorem At.all {s l:Str} {i:Nat} (h:At s l i):(⟨s.toArray⟩:ByteArray).extract i s.length=⟨l.toArray⟩:=by
 have h0:At s (l++[]) i:=by rw [List.append_nil];exact h
 rw [← h.len]
 exact h0.text
end Go.Proofs.YtihdndaibmgoiaaGreatDoor.Pz
namespace Go.Proofs.YtihdndaibmgoiaaGreatDoor.Pz
open Go.RowKit
theorem At.byte {s t:Str} {c:UInt8} {i:Nat} (h:At s (c::t) i):∀ h',(⟨s.toArray⟩:ByteArray)[i]'h'=c:=by
 intro h'
 have h1:=h.head
 have h2:=h.lt
 rw [List.getElem?_eq_getElem h2] at h1
 exact Option.some.inj h1
theorem Bld.below {w w':World} {b:Nat} {l:Str} (h:Bld w b l) (hb:Below w.heap.size w w'):Bld w' b l:=h.of fun k _ hk=>hb.block k hk
end Go.Proofs.YtihdndaibmgoiaaGreatDoor.Pz
namespace Go.Proofs.YtihdndaibmgoiaaGreatDoor.Pz
open Go Go.RowKit
structure But (rb B:Nat) (w w':World):Prop where
 os:w'.os=w.os
 tape:w'.tape=w.tape
 output:w'.output=w.output
 size:w.heap.size≤w'.heap.size
 block:∀ k,k<B→k≠rb→w'.heap[k]? = w.heap[k]?
theorem But.refl (rb B:Nat) (w:World):But rb B w w:=⟨rfl,rfl,rfl,Nat.le_refl _,fun _ _ _=>rfl⟩
theorem But.trans {rb B:Nat} {a b c:World} (h:But rb B a b) (k:But rb B b c):But rb B a c:=
 ⟨k.os.trans h.os,k.tape.trans h.tape,k.output.trans h.output,Nat.le_trans h.size k.size,fun i hi hr=>(k.block i hi hr).trans (h.block i hi hr)⟩
theorem But.mono {rb B B':Nat} {w w':World} (h:But rb B w w') (hB:B'≤B):But rb B' w w':=⟨h.os,h.tape,h.output,h.size,fun k hk=>h.block k (Nat.lt_of_lt_of_le hk hB)⟩
theorem But.below {rb B:Nat} {w w':World} (h:But rb B w w') (hr:B≤rb):Below B w w':=⟨h.os,h.tape,h.output,h.size,fun k hk=>h.block k hk (by omega)⟩
theorem But.drew {rb B:Nat} {a w:World} (h:But rb B a w):But rb B a w.drew:=⟨h.os,h.tape,h.output,h.size,h.block⟩
theorem But.alloc {rb B:Nat} {a w:World} (h:But rb B a w) (hB:B≤w.heap.size) (o:Obj):But rb B a (w.alloc o):=
 h.trans ⟨rfl,rfl,rfl,by simp,fun k hk _=>Below.heap_alloc _ _ _ (by omega)⟩
theorem But.setCell {rb B:Nat} {a w:World} (h:But rb B a w) {p:Addr} (hp:p.block=rb∨B≤p.block) (u:Value):But rb B a (w.setCell p u):=
 h.trans ⟨rfl,rfl,rfl,by simp [World.setCell],fun k hk hr=>Below.heap_setCell _ _ _ _ (by omega)⟩
theorem But.grown {rb B:Nat} {a w w':World} {row:Option Nat} (h:But rb B a w) (hg:w.grownBy w' row) (hB:B≤w.heap.size) (hr:∀ k,row=some k→B≤k):But rb B a w':=
 h.trans ⟨hg.os,hg.tape,hg.output,hg.size,fun k hk _=>hg.block k (by omega) (fun e=>by have:=hr k e.symm;omega)⟩
theorem But.cell {rb B:Nat} {w w':World} (h:But rb B w w') {p:Addr} (hp:p.block<B) (hr:p.block≠rb):w'.cell? p=w.cell? p:=World.cell?_of_block (w:=w) (h.block p.block hp hr)
theorem ownsRow_heap {w w':World} {base:Nat} {e:TypeId} {size:Nat} {v:Value} {n:Nat} {xs:List Value} (h:w.ownsRow base e size v n xs) (hh:∀ g,v.ownBlock=some g→w'.heap[g]? = w.heap[g]?):w'.ownsRow base e size v n xs:=by
 refine ⟨h.1,?_⟩
 rcases h.2 with hn | ⟨g,cap,cur,rfl,hb,hgg,rest⟩
 ·exact .inl hn
 ·exact .inr ⟨g,cap,cur,rfl,hb,(hh g rfl).trans hgg,rest⟩
def RowIs {α:Type} (E:TypeId) (sz:Nat) (elt:List Value→α→Prop) (w:World) (ok:Nat→Prop) (v:Value) (xs:List α):Prop:=
 ∃ css:List (List Value),w.ownsRow 0 E sz v xs.length css.flatten∧(∀ g,v.ownBlock=some g→ok g)∧css.length=xs.length∧∀ i (h1:i<css.length) (h2:i<xs.length),elt css[i] xs[i]∧css[i].length=sz
inductive TokIs (TE:TypeId) (w:World) (ok:Nat→Prop):List Value→Tok→Prop
 | mk (k:Nat) (s:Str) (h:Bool) (ix:List Tok) (v:Value) (css:List (List Value)) (hrow:w.ownsRow 0 TE 4 v ix.length css.flatten) (hok:∀ g,v.ownBlock=some g→ok g)
   (hl:css.length=ix.length) (hs:∀ i (h1:i<css.length) (h2:i<ix.length),TokIs TE w ok css[i] ix[i]) :
   TokIs TE w ok [.int .i64 (k:Int),.string ⟨s.toArray⟩,.bool h,v] (.mk k s h ix)
theorem TokIs.keep {TE:TypeId} {w w':World} {ok ok':Nat→Prop} {cs:List Value} {t:Tok} (h:TokIs TE w ok cs t) (hk:∀ g,ok g→ok' g) (hh:∀ g,ok g→w'.heap[g]? = w.heap[g]?):TokIs TE w' ok' cs t:=by
 induction h with
 | mk k s h ix v css hrow hok hl hs ih=>exact .mk k s h ix v css (ownsRow_heap hrow fun g hg=>hh g (hok g hg)) (fun g hg=>hk g (hok g hg)) hl ih
theorem TokIs.len {TE:TypeId} {w:World} {ok:Nat→Prop} {cs:List Value} {t:Tok} (h:TokIs TE w ok cs t):cs.length=4:=by
 cases h;rfl
def ToksIs (TE:TypeId) (w:World) (ok:Nat→Prop) (v:Value) (ts:List Tok):Prop:=RowIs TE 4 (TokIs TE w ok) w ok v ts
theorem TokIs.of {TE:TypeId} {w:World} {ok:Nat→Prop} {v:Value} {ix:List Tok} (h:ToksIs TE w ok v ix) (k:Nat) (s:Str) (b:Bool):TokIs TE w ok [.int .i64 (k:Int),.string ⟨s.toArray⟩,.bool b,v] (.mk k s b ix):=by
 obtain ⟨css,h1,h2,h3,h4⟩:=h
 exact .mk k s b ix v css h1 h2 h3 fun i a b=>(h4 i a b).1
theorem RowIs.keep {α:Type} {E:TypeId} {sz:Nat} {elt elt':List Value→α→Prop} {w w':World} {ok ok':Nat→Prop} {v:Value} {xs:List α} (h:RowIs E sz elt w ok v xs) (hk:∀ g,ok g→ok' g) (hh:∀ g,ok g→w'.heap[g]? = w.heap[g]?)
  (he:∀ cs x,elt cs x→elt' cs x):RowIs E sz elt' w' ok' v xs:=by
 obtain ⟨css,h1,h2,h3,h4⟩:=h
 exact ⟨css,ownsRow_heap h1 fun g hg=>hh g (h2 g hg),fun g hg=>hk g (h2 g hg),h3,fun i a b=>⟨he _ _ (h4 i a b).1,(h4 i a b).2⟩⟩
theorem RowIs.nil {α:Type} {E:TypeId} {sz:Nat} {elt:List Value→α→Prop} {w:World} {ok:Nat→Prop}:RowIs E sz elt w ok (.slice none 0 0) []:=by
 refine ⟨[],World.ownsRow_nil _ _ _ _,?_,rfl,?_⟩
 ·intro g hg
  simp [Value.ownBlock] at hg
 ·intro i h1
  simp at h1
theorem RowIs.app {α:Type} {E:TypeId} {sz:Nat} {elt:List Value→α→Prop} {w':World} {ok:Nat→Prop} {v':Value} {xs ys:List α} {css ds:List (List Value)}
  (hrow:w'.ownsRow 0 E sz v' (xs.length+ys.length) (css.flatten++ds.flatten)) (hok:∀ g,v'.ownBlock=some g→ok g) (hl:css.length=xs.length) (hl2:ds.length=ys.length)
  (h1:∀ i (h1:i<css.length) (h2:i<xs.length),elt css[i] xs[i]∧css[i].length=sz) (h2:∀ i (h1:i<ds.length) (h2:i<ys.length),elt ds[i] ys[i]∧ds[i].length=sz):RowIs E sz elt w' ok v' (xs++ys):=by
 refine ⟨css++ds,by simpa using hrow,hok,by simp [hl,hl2],fun i a b=>?_⟩
 rcases Nat.lt_or_ge i css.length with hi | hi
 ·rw [List.getElem_append_left hi,List.getElem_append_left (by omega)]
  exact h1 i hi (by omega)
 ·rw [List.getElem_append_right hi]
  have e2:(xs++ys)[i]'b=ys[i-css.length]'(by simp at b;omega):=by
   rw [List.getElem_append_right (by omega)]
   simp [hl]
  rw [e2]
  exact h2 _ _ _
theorem flat_get {css:List (List Value)} {sz:Nat} (hs:∀ i (h:i<css.length),css[i].length=sz):∀ (i j:Nat) (h:i<css.length),j<sz→css.flatten[i*sz+j]? = css[i][j]?:=by
 induction css with
 | nil=>intro i j h;simp at h
 | cons c cs ih=>
  intro i j h hj
  have hc:c.length=sz:=hs 0 (by simp)
  rw [List.flatten_cons]
  cases i with
  | zero=>
   rw [List.getElem?_append_left (by omega)]
   simp
  | succ i=>
   rw [List.getElem?_append_right (by rw [hc,Nat.succ_mul];omega),hc,show (i+1)*sz+j-sz=i*sz+j by rw [Nat.succ_mul];omega]
   rw [ih (fun k hk=>by have:=hs (k+1) (by simp;omega);simpa using this) i j (by simpa using h) hj]
   simp
theorem RowIs.cell {α:Type} {E:TypeId} {sz:Nat} {elt:List Value→α→Prop} {w:World} {ok:Nat→Prop} {v:Value} {xs:List α} (h:RowIs E sz elt w ok v xs) :
  ∃ a cap,v=.slice a xs.length cap∧xs.length≤cap∧∀ i (hi:i<xs.length),∃ g cs,a=some ⟨g,0,none⟩∧elt cs xs[i]∧cs.length=sz∧g<w.heap.size∧∀ j u,cs[j]? = some u→w.cell? ⟨g,i*sz+j,none⟩=some u:=by
 obtain ⟨css,h1,h2,h3,h4⟩:=h
 obtain ⟨hl,⟨rfl,h0⟩ | ⟨g,cap,cur,rfl,hb,hh,hc,hm,hs,ht⟩⟩:=h1
 ·obtain rfl:xs=[]:=List.length_eq_zero_iff.1 h0
  exact ⟨none,0,rfl,Nat.le_refl _,fun i hi=>absurd hi (by simp)⟩
 ·refine ⟨some ⟨g,0,none⟩,cap,rfl,hc,fun i hi=>?_⟩
  obtain ⟨q1,q2⟩:=h4 i (by omega) hi
  refine ⟨g,css[i]'(by omega),rfl,q1,q2,(Array.getElem?_eq_some_iff.1 hh).1,fun j u hu=>?_⟩
  have hj:j<sz:=by
   rcases Nat.lt_or_ge j sz with h' | h'
   ·exact h'
   ·rw [List.getElem?_eq_none (by omega)] at hu;cases hu
  have hf:=flat_get (css:=css) (sz:=sz) (fun i h=>(h4 i h (by omega)).2) i j (by omega) hj
  rw [hu,← ht,List.getElem?_take] at hf
  split at hf
  ·rw [cell_of_row w g (i*sz+j) cur E (0,0) hh]
   simpa using hf
  ·cases hf
theorem ToksIs.keep {TE:TypeId} {w w':World} {ok ok':Nat→Prop} {v:Value} {ts:List Tok} (h:ToksIs TE w ok v ts) (hk:∀ g,ok g→ok' g) (hh:∀ g,ok g→w'.heap[g]? = w.heap[g]?):ToksIs TE w' ok' v ts:=
 RowIs.keep h hk hh fun _ _ he=>he.keep hk hh
def WdIs (TE:TypeId) (w:World) (ok:Nat→Prop) (cs:List Value) (x:Wd):Prop:=∃ v,cs=[.bool x.spread,v]∧ToksIs TE w ok v x.toks
theorem WdIs.keep {TE:TypeId} {w w':World} {ok ok':Nat→Prop} {cs:List Value} {x:Wd} (h:WdIs TE w ok cs x) (hk:∀ g,ok g→ok' g) (hh:∀ g,ok g→w'.heap[g]? = w.heap[g]?):WdIs TE w' ok' cs x:=by
 obtain ⟨v,rfl,h⟩:=h
 exact ⟨v,rfl,h.keep hk hh⟩
def WdsIs (TE WE:TypeId) (w:World) (ok:Nat→Prop) (v:Value) (ws:List Wd):Prop:=RowIs WE 2 (WdIs TE w ok) w ok v ws
theorem WdsIs.keep {TE WE:TypeId} {w w':World} {ok ok':Nat→Prop} {v:Value} {ws:List Wd} (h:WdsIs TE WE w ok v ws) (hk:∀ g,ok g→ok' g) (hh:∀ g,ok g→w'.heap[g]? = w.heap[g]?):WdsIs TE WE w' ok' v ws:=
 RowIs.keep h hk hh fun _ _ he=>he.keep hk hh
def CmdIs (TE WE:TypeId) (n:Nat) (w:World) (ok:Nat→Prop) (cs:List Value) (c:Cmd):Prop:=∃ v,cs=[.int .i64 ((n:Int)-(c.back:Int)),v]∧WdsIs TE WE w ok v c.words
theorem CmdIs.keep {TE WE:TypeId} {n:Nat} {w w':World} {ok ok':Nat→Prop} {cs:List Value} {c:Cmd} (h:CmdIs TE WE n w ok cs c) (hk:∀ g,ok g→ok' g) (hh:∀ g,ok g→w'.heap[g]? = w.heap[g]?):CmdIs TE WE n w' ok' cs c:=by
 obtain ⟨v,rfl,h⟩:=h
 exact ⟨v,rfl,h.keep hk hh⟩
def CmdsIs (TE WE CE:TypeId) (n:Nat) (w:World) (ok:Nat→Prop) (v:Value) (cs:List Cmd):Prop:=RowIs CE 2 (CmdIs TE WE n w ok) w ok v cs
theorem CmdsIs.keep {TE WE CE:TypeId} {n:Nat} {w w':World} {ok ok':Nat→Prop} {v:Value} {cs:List Cmd} (h:CmdsIs TE WE CE n w ok v cs) (hk:∀ g,ok g→ok' g) (hh:∀ g,ok g→w'.heap[g]? = w.heap[g]?):CmdsIs TE WE CE n w' ok' v cs:=
 RowIs.keep h hk hh fun _ _ he=>he.keep hk hh
end Go.Proofs.YtihdndaibmgoiaaGreatDoor.Pz
namespace Go.Proofs.YtihdndaibmgoiaaGreatDoor.Pz
open Go.RowKit
theorem Tryz.infoS:(Tryz.prog.info? 9).map (fun i=>(i.zero,i.size,i.bytes))=some (some (.string ⟨#[]⟩),1,16):=by kernel_rfl
def strCells (l:List Str):List Value:=l.map fun s=>.string ⟨s.toArray⟩
theorem add_none (b o i:Nat):(⟨b,o,none⟩:Addr).add i=⟨b,o+i,none⟩:=by
 simp [Addr.add]
theorem ownsRow_base {w:World} {base:Nat} {e:TypeId} {size:Nat} {v:Value} {n:Nat} {xs:List Value} (h:w.ownsRow base e size v n xs):∀ g,v.ownBlock=some g→base≤g:=by
 intro g hg
 rcases h.2 with ⟨rfl,_⟩ | ⟨g',cap,cur,rfl,hb,hgg,rest⟩
 ·simp [Value.ownBlock] at hg
 ·simp only [Value.ownBlock,Option.some.injEq] at hg
  omega
theorem ownsRow_heap2 {w w':World} {base:Nat} {e:TypeId} {size:Nat} {v:Value} {n:Nat} {xs:List Value} (h:w.ownsRow base e size v n xs)
  (hh:∀ g cur,v.ownBlock=some g→w.heap[g]? = some (.cells cur e (0,0))→w'.heap[g]? = some (.cells cur e (0,0))):w'.ownsRow base e size v n xs:=by
 refine ⟨h.1,?_⟩
 rcases h.2 with hn | ⟨g,cap,cur,rfl,hb,hgg,rest⟩
 ·exact .inl hn
 ·exact .inr ⟨g,cap,cur,rfl,hb,hh g cur rfl hgg,rest⟩
theorem ownsRow_lt {w:World} {base:Nat} {e:TypeId} {size:Nat} {v:Value} {n:Nat} {xs:List Value} (h:w.ownsRow base e size v n xs):∀ g,v.ownBlock=some g→g<w.heap.size∧∃ cur,w.heap[g]? = some (.cells cur e (0,0)):=by
 intro g hg
 rcases h.2 with ⟨rfl,_⟩ | ⟨g',cap,cur,rfl,hb,hgg,rest⟩
 ·simp [Value.ownBlock] at hg
 ·simp only [Value.ownBlock,Option.some.injEq] at hg
  subst hg
  exact ⟨(Array.getElem?_eq_some_iff.1 hgg).1,cur,hgg⟩
theorem strCells_app (a b:List Str):strCells (a++b)=strCells a++strCells b:=by simp [strCells]
theorem strCells_len (a:List Str):(strCells a).length=a.length:=by simp [strCells]
theorem strCells_one (a:List Str):∀ u∈strCells a,u.oneCell'=true:=by
 intro u hu
 obtain ⟨s,_,rfl⟩:=List.mem_map.1 hu
 rfl
def RowS (B:Nat) (w:World) (v:Value) (l:List Str):Prop:=w.ownsRow B 9 1 v l.length (strCells l)
theorem RowS.nil (B:Nat) (w:World):RowS B w (.slice none 0 0) []:=World.ownsRow_nil _ _ _ _
theorem RowS.lt {B:Nat} {w:World} {v:Value} {l:List Str} (h:RowS B w v l):∀ g,v.ownBlock=some g→g<w.heap.size∧B≤g:=fun g hg=>⟨(ownsRow_lt h g hg).1,ownsRow_base h g hg⟩
theorem RowS.below {B C:Nat} {w w':World} {v:Value} {l:List Str} (h:RowS B w v l) (hb:Below C w w') (hC:∀ g,v.ownBlock=some g→g<C):RowS B w' v l:=ownsRow_heap h fun g hg=>hb.block g (hC g hg)
theorem RowS.on {B:Nat} {w w':World} {v:Value} {l:List Str} (h:RowS B w v l) (hb:Below w.heap.size w w'):RowS B w' v l:=h.below hb fun g hg=>(h.lt g hg).1
theorem RowS.grown {C:Nat} {w w':World} {v u:Value} {l:List Str} (h:RowS C w u l) (hg:w.grownBy w' v.ownBlock) (hv:∀ g,v.ownBlock=some g→u.ownBlock≠some g):RowS C w' u l:=by
 refine ownsRow_heap h fun g hgu=>hg.block g (h.lt g hgu).1 fun e=>hv g e.symm hgu
theorem app_one {w:World} {N:Nat} (hN:w.heap.size=N) {ops:Array Oper} {rest:List Oper} {o:Oper} {a:Act} {Q:Exit→Act→World→Prop} (hgd:o.guard=none) (s x:Operand)
  (ho:o.op=.call { callee:=.builtin .append,args:=#[s,x],argTypes:=#[22,22] }) (B:Nat) (v:Value) (l:List Str) (q:Str)
  (hs:a.eval s=v) (hown:RowS B w v l) (hx:a.eval x=.slice (some ⟨N,0,none⟩) 1 1) (hB:B≤w.heap.size) (hl:l.length≤10000000)
  (h:∀ v' w',RowS B w' v' (l++[q])→w.grownBy w' v.ownBlock→(∀ g,v'.ownBlock=some g→v.ownBlock=some g∨w.heap.size≤g)→wpList Tryz.prog ops Q rest (a.put o.dst v') w') :
  wpList Tryz.prog ops Q (o::rest) a (w.alloc (.cells #[.string ⟨q.toArray⟩] 9)):=by
 obtain ⟨i0,hi,hz0,hz1,hz2⟩:=info_parts Tryz.infoS
 subst hN
 have hown':(w.alloc (.cells #[.string ⟨q.toArray⟩] 9)).ownsRow B 9 1 v l.length (strCells l):=World.ownsRow.alloc hown _
 refine wpList_append_own_at _ hgd s x 22 ho B 9 i0 (.string ⟨#[]⟩) 1 16 Tryz.underlying22 hi hz0 hz1 hz2 rfl (by decide) v l.length (strCells l) hs hown' ⟨w.heap.size,0,none⟩ 1 1 [.string ⟨q.toArray⟩] hx rfl (cell_one_new _ _ _) (strCells_one [q]) ?_ ?_ ?_ ?_
 ·unfold maxLen;omega
 ·omega
 ·simp;omega
 ·intro v' w' hrow hg _ hat
  refine h v' w' ?_ ?_ ?_
  ·show w'.ownsRow B 9 1 v' (l++[q]).length (strCells (l++[q]))
   rw [strCells_app,List.length_append]
   exact hrow
  ·refine ⟨hg.os,hg.tape,hg.output,?_,fun k hk hr=>?_⟩
   ·have:=hg.size;simp at this;omega
   ·rw [hg.block k (by simp;omega) hr]
    exact Below.heap_alloc _ _ _ (by omega)
  ·intro g hgv
   rcases hat with h2 | h2
   ·exact .inl (by rw [← h2];exact hgv)
   ·rw [h2] at hgv
    have:=Option.some.inj hgv
    simp at this
    exact .inr (by omega)
theorem RowS.shape {B:Nat} {w:World} {v:Value} {l:List Str} (h:RowS B w v l):∃ a c,v=.slice a l.length c:=by
 rcases h.2 with ⟨rfl,h0⟩ | ⟨g,cap,cur,rfl,_⟩
 ·exact ⟨none,0,by rw [h0]⟩
 ·exact ⟨_,_,rfl⟩
theorem RowS.at {B:Nat} {w:World} {a:Option Addr} {n c:Nat} {l:List Str} (h:RowS B w (.slice a n c) l) {i:Nat} (hi:i<l.length):∃ g,a=some ⟨g,0,none⟩∧n=l.length∧w.cell? ⟨g,i,none⟩=some (.string ⟨l[i].toArray⟩):=by
 rcases h.2 with ⟨_,h0⟩ | ⟨g,cap,cur,e,_⟩
 ·omega
 ·have hc:=World.ownsRow.cells h (show (Value.slice a n c).ownBlock=some g by rw [e];rfl) i (.string ⟨l[i].toArray⟩) (by simp [strCells,hi])
  simp only [Value.slice.injEq] at e
  rw [add_none,Nat.zero_add] at hc
  exact ⟨g,e.1,e.2.1,hc⟩
theorem RowS.mono {B C:Nat} {w:World} {v:Value} {l:List Str} (h:RowS B w v l) (hb:C≤B):RowS C w v l:=by
 refine ⟨h.1,?_⟩
 rcases h.2 with hn | ⟨g,cap,cur,e,hB,rest⟩
 ·exact .inl hn
 ·exact .inr ⟨g,cap,cur,e,by omega,rest⟩
end Go.Proofs.YtihdndaibmgoiaaGreatDoor.Pz
namespace Go.Proofs.YtihdndaibmgoiaaGreatDoor.Pz
open Go.RowKit
theorem add_block (p:Addr) (i:Nat):(p.add i).block=p.block:=by
 unfold Addr.add
 split<;>rfl
def StrsAt (w:World) (v:Value) (l:List Str):Prop:=∃ a cap,v=.slice a l.length cap∧l.length≤cap∧∀ i (h:i<l.length),∃ p:Addr,a=some p∧p.block<w.heap.size∧w.cell? (p.add i)=some (.string ⟨l[i].toArray⟩)
theorem StrsAt.below {w w':World} {v:Value} {l:List Str} (h:StrsAt w v l) (hb:Below w.heap.size w w'):StrsAt w' v l:=by
 obtain ⟨a,cap,rfl,hc,h⟩:=h
 refine ⟨a,cap,rfl,hc,fun i hi=>?_⟩
 obtain ⟨p,h1,h2,h3⟩:=h i hi
 have:=hb.size
 exact ⟨p,h1,by omega,by rw [hb.cell (p:=p.add i) (by rw [add_block];exact h2)];exact h3⟩
theorem RowS.strs {B:Nat} {w:World} {v:Value} {l:List Str} (h:RowS B w v l):StrsAt w v l:=by
 obtain ⟨a,c,rfl⟩:=h.shape
 have hcap:l.length≤c:=by
  rcases h.2 with ⟨e,h0⟩ | ⟨g,cap,cur,e,_,_,hc,_⟩
  ·omega
  ·simp only [Value.slice.injEq] at e
   omega
 refine ⟨a,c,rfl,hcap,fun i hi=>?_⟩
 obtain ⟨g,rfl,_,hc⟩:=h.at hi
 exact ⟨⟨g,0,none⟩,rfl,(h.lt g rfl).1,by rw [add_none,Nat.zero_add];exact hc⟩
section
variable {ops:Array Oper} {rest:List Oper} {o:Oper} {a:Act} {Q:Exit→Act→World→Prop}
end
theorem strs_cells {w:World} {p:Addr} {n c:Nat} {l:List Str} (h:StrsAt w (.slice (some p) n c) l):∀ j u,(strCells l)[j]? = some u→w.cell? (p.add j)=some u:=by
 intro j u hj
 obtain ⟨a,cap,e,_,hcell⟩:=h
 simp only [Value.slice.injEq] at e
 obtain ⟨e1,rfl,rfl⟩:=e
 subst e1
 rw [strCells,List.getElem?_map] at hj
 cases hlj:l[j]? with
 | none=>rw [hlj] at hj;cases hj
 | some z=>
  rw [hlj] at hj
  have hj:=Option.some.inj hj
  subst hj
  obtain ⟨hjl,hz⟩:=List.getElem?_eq_some_iff.1 hlj
  obtain ⟨q,hq,_,hcq⟩:=hcell j hjl
  have hq:=Option.some.inj hq
  subst hq
  rw [hz] at hcq
  exact hcq
theorem app_strs {w:World} {ops:Array Oper} {rest:List Oper} {o:Oper} {a:Act} {Q:Exit→Act→World→Prop} (hgd:o.guard=none) (s x:Operand)
  (ho:o.op=.call { callee:=.builtin .append,args:=#[s,x],argTypes:=#[22,22] }) (B:Nat) (v:Value) (p:Addr) (n c:Nat) (l m:List Str)
  (hs:a.eval s=v) (hown:RowS B w v l) (hx:a.eval x=.slice (some p) n c) (hrow:StrsAt w (.slice (some p) n c) m) (hB:B≤w.heap.size) (hl:l.length+m.length≤10000000)
  (h:∀ v' w',RowS B w' v' (l++m)→w.grownBy w' v.ownBlock→(∀ g,v'.ownBlock=some g→v.ownBlock=some g∨w.heap.size≤g)→wpList Tryz.prog ops Q rest (a.put o.dst v') w') :
  wpList Tryz.prog ops Q (o::rest) a w:=by
 obtain ⟨i0,hi,hz0,hz1,hz2⟩:=info_parts Tryz.infoS
 have hn:n=m.length:=by
  obtain ⟨_,_,e,_⟩:=hrow
  simp only [Value.slice.injEq] at e
  exact e.2.1
 subst hn
 refine wpList_append_own_at w hgd s x 22 ho B 9 i0 (.string ⟨#[]⟩) 1 16 Tryz.underlying22 hi hz0 hz1 hz2 rfl (by decide) v l.length (strCells l) hs hown p m.length c (strCells m) hx (by rw [strCells_len];omega) (strs_cells hrow) (strCells_one m) ?_ ?_ hB ?_
 ·unfold maxLen;omega
 ·omega
 ·intro v' w' hrow' hg' _ hat
  refine h v' w' ?_ hg' ?_
  ·show w'.ownsRow B 9 1 v' (l++m).length (strCells (l++m))
   rw [strCells_app,List.length_append]
   exact hrow'
  ·intro g2 hgv
   rcases hat with h2 | h2
   ·exact .inl (by rw [← h2];exact hgv)
   ·rw [h2] at hgv
    have:=Option.some.inj hgv
    exact .inr (by omega)
theorem app_any {w:World} {ops:Array Oper} {rest:List Oper} {o:Oper} {a:Act} {Q:Exit→Act→World→Prop} (hgd:o.guard=none) (s x:Operand)
  (ho:o.op=.call { callee:=.builtin .append,args:=#[s,x],argTypes:=#[22,22] }) (B:Nat) (v u:Value) (l m:List Str)
  (hs:a.eval s=v) (hown:RowS B w v l) (hx:a.eval x=u) (hrow:StrsAt w u m) (hnil:∀ n c,u=.slice none n c→c=0) (hB:B≤w.heap.size) (hl:l.length+m.length≤10000000)
  (h:∀ v' w',RowS B w' v' (l++m)→w.grownBy w' v.ownBlock→(∀ g,v'.ownBlock=some g→v.ownBlock=some g∨w.heap.size≤g)→wpList Tryz.prog ops Q rest (a.put o.dst v') w') :
  wpList Tryz.prog ops Q (o::rest) a w:=by
 obtain ⟨i0,hi,hz0,hz1,hz2⟩:=info_parts Tryz.infoS
 have hrow2:=hrow
 obtain ⟨p,c,rfl,hcap,hcell⟩:=hrow
 cases p with
 | none=>
  obtain rfl:c=0:=hnil _ _ rfl
  have h0:m.length=0:=by omega
  obtain rfl:m=[]:=List.eq_nil_of_length_eq_zero h0
  refine wpList_append_own_none hgd s x 22 ho B 9 i0 1 Tryz.underlying22 hi v l.length (strCells l) hs hown hx ?_
  exact h v w (by simpa using hown) ⟨rfl,rfl,rfl,Nat.le_refl _,fun _ _ _=>rfl⟩ fun g hg=>.inl hg
 | some p=>exact app_strs hgd s x ho B v p m.length c l m hs hown hx hrow2 hB hl h
theorem strs_cut {w:World} {g n c i j:Nat} {l:List Str} (h:StrsAt w (.slice (some ⟨g,0,none⟩) n c) l) (hij:i≤j) (hj:j≤n):StrsAt w (.slice (some ⟨g,i,none⟩) (j-i) (c-i)) ((l.take j).drop i):=by
 obtain ⟨a,cap,e,hcap,hcell⟩:=h
 simp only [Value.slice.injEq] at e
 obtain ⟨rfl,rfl,rfl⟩:=e
 have hlen:((l.take j).drop i).length=j-i:=by rw [List.length_drop,List.length_take];omega
 refine ⟨some ⟨g,i,none⟩,c-i,by rw [hlen],by rw [hlen];omega,fun m hm=>?_⟩
 rw [hlen] at hm
 obtain ⟨p,hp,hb,hc⟩:=hcell (i+m) (by omega)
 have hp:=Option.some.inj hp
 subst hp
 refine ⟨_,rfl,hb,?_⟩
 rw [add_none] at hc ⊢
 rw [Nat.zero_add] at hc
 rw [hc]
 simp
theorem strs_take {w:World} {g n c:Nat} {l:List Str} (h:StrsAt w (.slice (some ⟨g,0,none⟩) n c) l) {i:Nat} (hi:i≤n):StrsAt w (.slice (some ⟨g,0,none⟩) i c) (l.take i):=by
 have:=strs_cut h (Nat.zero_le i) hi
 simpa using this
end Go.Proofs.YtihdndaibmgoiaaGreatDoor.Pz
namespace Go.Proofs.YtihdndaibmgoiaaGreatDoor.Pz
open Go.RowKit
theorem byteCells_one (l:Str):∀ u∈Lib.byteCells l,u.oneCell'=true:=by
 intro u hu
 obtain ⟨s,_,rfl⟩:=List.mem_map.1 hu
 rfl
def RowY (B:Nat) (w:World) (v:Value) (l:Str):Prop:=w.ownsRow B 5 1 v l.length (Lib.byteCells l)
theorem RowY.nil (B:Nat) (w:World):RowY B w (.slice none 0 0) []:=World.ownsRow_nil _ _ _ _
theorem RowY.lt {B:Nat} {w:World} {v:Value} {l:Str} (h:RowY B w v l):∀ g,v.ownBlock=some g→g<w.heap.size∧B≤g:=fun g hg=>⟨(ownsRow_lt h g hg).1,ownsRow_base h g hg⟩
theorem RowY.below {B C:Nat} {w w':World} {v:Value} {l:Str} (h:RowY B w v l) (hb:Below C w w') (hC:∀ g,v.ownBlock=some g→g<C):RowY B w' v l:=ownsRow_heap h fun g hg=>hb.block g (hC g hg)
theorem RowY.on {B:Nat} {w w':World} {v:Value} {l:Str} (h:RowY B w v l) (hb:Below w.heap.size w w'):RowY B w' v l:=h.below hb fun g hg=>(h.lt g hg).1
theorem RowY.grown {C:Nat} {w w':World} {v u:Value} {l:Str} (h:RowY C w u l) (hg:w.grownBy w' v.ownBlock) (hv:∀ g,v.ownBlock=some g→u.ownBlock≠some g):RowY C w' u l:=by
 refine ownsRow_heap h fun g hgu=>hg.block g (h.lt g hgu).1 fun e=>hv g e.symm hgu
theorem appB_one {w:World} {N:Nat} (hN:w.heap.size=N) {ops:Array Oper} {rest:List Oper} {o:Oper} {a:Act} {Q:Exit→Act→World→Prop} (hgd:o.guard=none) (s x:Operand)
  (ho:o.op=.call { callee:=.builtin .append,args:=#[s,x],argTypes:=#[46,46] }) (B:Nat) (v:Value) (l:Str) (q:UInt8)
  (hs:a.eval s=v) (hown:RowY B w v l) (hx:a.eval x=.slice (some ⟨N,0,none⟩) 1 1) (hB:B≤w.heap.size) (hl:l.length≤1000000000)
  (h:∀ v' w',RowY B w' v' (l++[q])→w.grownBy w' v.ownBlock→(∀ g,v'.ownBlock=some g→v.ownBlock=some g∨w.heap.size≤g)→wpList Tryz.prog ops Q rest (a.put o.dst v') w') :
  wpList Tryz.prog ops Q (o::rest) a (w.alloc (.cells #[.int .u8 (q.toNat:Nat)] 5)):=by
 obtain ⟨i0,hi,hz0,hz1,hz2⟩:=info_parts Tryz.info5
 subst hN
 have hown':(w.alloc (.cells #[.int .u8 (q.toNat:Nat)] 5)).ownsRow B 5 1 v l.length (Lib.byteCells l):=World.ownsRow.alloc hown _
 refine wpList_append_own_at _ hgd s x 46 ho B 5 i0 (.int .u8 0) 1 1 Tryz.underlying46 hi hz0 hz1 hz2 rfl (by decide) v l.length (Lib.byteCells l) hs hown' ⟨w.heap.size,0,none⟩ 1 1 [.int .u8 (q.toNat:Nat)] hx rfl (cell_one_new _ _ _) (byteCells_one [q]) ?_ ?_ ?_ ?_
 ·unfold maxLen;omega
 ·omega
 ·simp;omega
 ·intro v' w' hrow hg _ hat
  refine h v' w' ?_ ?_ ?_
  ·show w'.ownsRow B 5 1 v' (l++[q]).length (Lib.byteCells (l++[q]))
   rw [Lib.byteCells_append,List.length_append]
   exact hrow
  ·refine ⟨hg.os,hg.tape,hg.output,?_,fun k hk hr=>?_⟩
   ·have:=hg.size;simp at this;omega
   ·rw [hg.block k (by simp;omega) hr]
    exact Below.heap_alloc _ _ _ (by omega)
  ·intro g hgv
   rcases hat with h2 | h2
   ·exact .inl (by rw [← h2];exact hgv)
   ·rw [h2] at hgv
    have:=Option.some.inj hgv
    simp at this
    exact .inr (by omega)
theorem appB_row {w:World} {ops:Array Oper} {rest:List Oper} {o:Oper} {a:Act} {Q:Exit→Act→World→Prop} (hgd:o.guard=none) (s x:Operand)
  (ho:o.op=.call { callee:=.builtin .append,args:=#[s,x],argTypes:=#[46,46] }) (B C:Nat) (v u:Value) (l m:Str)
  (hs:a.eval s=v) (hown:RowY B w v l) (hx:a.eval x=u) (hrow:RowY C w u m) (hB:B≤w.heap.size) (hl:l.length+m.length≤1000000000)
  (h:∀ v' w',RowY B w' v' (l++m)→w.grownBy w' v.ownBlock→(∀ g,v'.ownBlock=some g→v.ownBlock=some g∨w.heap.size≤g)→wpList Tryz.prog ops Q rest (a.put o.dst v') w') :
  wpList Tryz.prog ops Q (o::rest) a w:=by
 obtain ⟨i0,hi,hz0,hz1,hz2⟩:=info_parts Tryz.info5
 rcases hrow.2 with ⟨rfl,hm0⟩ | ⟨g,cap,cur,rfl,hb,hg,rest'⟩
 ·obtain rfl:m=[]:=List.length_eq_zero_iff.1 hm0
  refine wpList_append_own_none hgd s x 46 ho B 5 i0 1 Tryz.underlying46 hi v l.length (Lib.byteCells l) hs hown hx ?_
  exact h v w (by simpa using hown) ⟨rfl,rfl,rfl,Nat.le_refl _,fun _ _ _=>rfl⟩ fun g hg=>.inl hg
 ·refine wpList_append_own_at w hgd s x 46 ho B 5 i0 (.int .u8 0) 1 1 Tryz.underlying46 hi hz0 hz1 hz2 rfl (by decide) v l.length (Lib.byteCells l) hs hown ⟨g,0,none⟩ m.length cap (Lib.byteCells m) hx (by rw [Lib.byteCells_length];omega) (fun j u hj=>World.ownsRow.cells hrow rfl j u hj) (byteCells_one m) ?_ ?_ hB ?_
  ·unfold maxLen;omega
  ·omega
  ·intro v' w' hrow' hg' _ hat
   refine h v' w' ?_ hg' ?_
   ·show w'.ownsRow B 5 1 v' (l++m).length (Lib.byteCells (l++m))
    rw [Lib.byteCells_append,List.length_append]
    exact hrow'
   ·intro g2 hgv
    rcases hat with h2 | h2
    ·exact .inl (by rw [← h2];exact hgv)
    ·rw [h2] at hgv
     have:=Option.some.inj hgv
     exact .inr (by omega)
theorem RowY.shape {B:Nat} {w:World} {v:Value} {l:Str} (h:RowY B w v l):∃ a c,v=.slice a l.length c:=by
 rcases h.2 with ⟨rfl,h0⟩ | ⟨g,cap,cur,rfl,_⟩
 ·exact ⟨none,0,by rw [h0]⟩
 ·exact ⟨_,_,rfl⟩
theorem RowY.at {B:Nat} {w:World} {a:Option Addr} {n c:Nat} {l:Str} (h:RowY B w (.slice a n c) l) {i:Nat} (hi:i<l.length):∃ g,a=some ⟨g,0,none⟩∧n=l.length∧w.cell? ⟨g,i,none⟩=some (.int .u8 (l[i].toNat:Nat)):=by
 rcases h.2 with ⟨_,h0⟩ | ⟨g,cap,cur,e,_⟩
 ·omega
 ·have hc:=World.ownsRow.cells h (show (Value.slice a n c).ownBlock=some g by rw [e];rfl) i (.int .u8 (l[i].toNat:Nat)) (by simp [Lib.byteCells,hi])
  simp only [Value.slice.injEq] at e
  rw [add_none,Nat.zero_add] at hc
  exact ⟨g,e.1,e.2.1,hc⟩
theorem RowY.mono {B C:Nat} {w:World} {v:Value} {l:Str} (h:RowY B w v l) (hb:C≤B):RowY C w v l:=by
 refine ⟨h.1,?_⟩
 rcases h.2 with hn | ⟨g,cap,cur,e,hB,rest⟩
 ·exact .inl hn
 ·exact .inr ⟨g,cap,cur,e,by omega,rest⟩
def BytsAt (w:World) (v:Value) (l:Str):Prop:=∃ a cap,v=.slice a l.length cap∧l.length≤cap∧∀ i (h:i<l.length),∃ p:Addr,a=some p∧p.block<w.heap.size∧w.cell? (p.add i)=some (.int .u8 (l[i].toNat:Nat))
theorem BytsAt.below {w w':World} {v:Value} {l:Str} (h:BytsAt w v l) (hb:Below w.heap.size w w'):BytsAt w' v l:=by
 obtain ⟨a,cap,rfl,hc,h⟩:=h
 refine ⟨a,cap,rfl,hc,fun i hi=>?_⟩
 obtain ⟨p,h1,h2,h3⟩:=h i hi
 have:=hb.size
 exact ⟨p,h1,by omega,by rw [hb.cell (p:=p.add i) (by rw [add_block];exact h2)];exact h3⟩
theorem RowY.byts {B:Nat} {w:World} {v:Value} {l:Str} (h:RowY B w v l):BytsAt w v l:=by
 obtain ⟨a,c,rfl⟩:=h.shape
 have hcap:l.length≤c:=by
  rcases h.2 with ⟨e,h0⟩ | ⟨g,cap,cur,e,_,_,hc,_⟩
  ·omega
  ·simp only [Value.slice.injEq] at e
   omega
 refine ⟨a,c,rfl,hcap,fun i hi=>?_⟩
 obtain ⟨g,rfl,_,hc⟩:=h.at hi
 exact ⟨⟨g,0,none⟩,rfl,(h.lt g rfl).1,by rw [add_none,Nat.zero_add];exact hc⟩
section
variable {ops:Array Oper} {rest:List Oper} {o:Oper} {a:Act} {Q:Exit→Act→World→Prop}
end
theorem byts_cells {w:World} {p:Addr} {n c:Nat} {l:Str} (h:BytsAt w (.slice (some p) n c) l):∀ j u,(Lib.byteCells l)[j]? = some u→w.cell? (p.add j)=some u:=by
 intro j u hj
 obtain ⟨a,cap,e,_,hcell⟩:=h
 simp only [Value.slice.injEq] at e
 obtain ⟨e1,rfl,rfl⟩:=e
 subst e1
 unfold Lib.byteCells at hj;rw [List.getElem?_map] at hj
 cases hlj:l[j]? with
 | none=>rw [hlj] at hj;cases hj
 | some z=>
  rw [hlj] at hj
  have hj:=Option.some.inj hj
  subst hj
  obtain ⟨hjl,hz⟩:=List.getElem?_eq_some_iff.1 hlj
  obtain ⟨q,hq,_,hcq⟩:=hcell j hjl
  have hq:=Option.some.inj hq
  subst hq
  rw [hz] at hcq
  exact hcq
theorem appB_byts {w:World} {ops:Array Oper} {rest:List Oper} {o:Oper} {a:Act} {Q:Exit→Act→World→Prop} (hgd:o.guard=none) (s x:Operand)
  (ho:o.op=.call { callee:=.builtin .append,args:=#[s,x],argTypes:=#[46,46] }) (B:Nat) (v:Value) (p:Addr) (n c:Nat) (l m:Str)
  (hs:a.eval s=v) (hown:RowY B w v l) (hx:a.eval x=.slice (some p) n c) (hrow:BytsAt w (.slice (some p) n c) m) (hB:B≤w.heap.size) (hl:l.length+m.length≤1000000000)
  (h:∀ v' w',RowY B w' v' (l++m)→w.grownBy w' v.ownBlock→(∀ g,v'.ownBlock=some g→v.ownBlock=some g∨w.heap.size≤g)→wpList Tryz.prog ops Q rest (a.put o.dst v') w') :
  wpList Tryz.prog ops Q (o::rest) a w:=by
 obtain ⟨i0,hi,hz0,hz1,hz2⟩:=info_parts Tryz.info5
 have hn:n=m.length:=by
  obtain ⟨_,_,e,_⟩:=hrow
  simp only [Value.slice.injEq] at e
  exact e.2.1
 subst hn
 refine wpList_append_own_at w hgd s x 46 ho B 5 i0 (.int .u8 0) 1 1 Tryz.underlying46 hi hz0 hz1 hz2 rfl (by decide) v l.length (Lib.byteCells l) hs hown p m.length c (Lib.byteCells m) hx (by rw [Lib.byteCells_length];omega) (byts_cells hrow) (byteCells_one m) ?_ ?_ hB ?_
 ·unfold maxLen;omega
 ·omega
 ·intro v' w' hrow' hg' _ hat
  refine h v' w' ?_ hg' ?_
  ·show w'.ownsRow B 5 1 v' (l++m).length (Lib.byteCells (l++m))
   rw [Lib.byteCells_append,List.length_append]
   exact hrow'
  ·intro g2 hgv
   rcases hat with h2 | h2
   ·exact .inl (by rw [← h2];exact hgv)
   ·rw [h2] at hgv
    have:=Option.some.inj hgv
    exact .inr (by omega)
theorem appB_any {w:World} {ops:Array Oper} {rest:List Oper} {o:Oper} {a:Act} {Q:Exit→Act→World→Prop} (hgd:o.guard=none) (s x:Operand)
  (ho:o.op=.call { callee:=.builtin .append,args:=#[s,x],argTypes:=#[46,46] }) (B:Nat) (v u:Value) (l m:Str)
  (hs:a.eval s=v) (hown:RowY B w v l) (hx:a.eval x=u) (hrow:BytsAt w u m) (hnil:∀ n c,u=.slice none n c→c=0) (hB:B≤w.heap.size) (hl:l.length+m.length≤1000000000)
  (h:∀ v' w',RowY B w' v' (l++m)→w.grownBy w' v.ownBlock→(∀ g,v'.ownBlock=some g→v.ownBlock=some g∨w.heap.size≤g)→wpList Tryz.prog ops Q rest (a.put o.dst v') w') :
  wpList Tryz.prog ops Q (o::rest) a w:=by
 obtain ⟨i0,hi,hz0,hz1,hz2⟩:=info_parts Tryz.info5
 have hrow2:=hrow
 obtain ⟨p,c,rfl,hcap,hcell⟩:=hrow
 cases p with
 | none=>
  obtain rfl:c=0:=hnil _ _ rfl
  have h0:m.length=0:=by omega
  obtain rfl:m=[]:=List.eq_nil_of_length_eq_zero h0
  refine wpList_append_own_none hgd s x 46 ho B 5 i0 1 Tryz.underlying46 hi v l.length (Lib.byteCells l) hs hown hx ?_
  exact h v w (by simpa using hown) ⟨rfl,rfl,rfl,Nat.le_refl _,fun _ _ _=>rfl⟩ fun g hg=>.inl hg
 | some p=>exact appB_byts hgd s x ho B v p m.length c l m hs hown hx hrow2 hB hl h
theorem byts_cut {w:World} {g n c i j:Nat} {l:Str} (h:BytsAt w (.slice (some ⟨g,0,none⟩) n c) l) (hij:i≤j) (hj:j≤n):BytsAt w (.slice (some ⟨g,i,none⟩) (j-i) (c-i)) ((l.take j).drop i):=by
 obtain ⟨a,cap,e,hcap,hcell⟩:=h
 simp only [Value.slice.injEq] at e
 obtain ⟨rfl,rfl,rfl⟩:=e
 have hlen:((l.take j).drop i).length=j-i:=by rw [List.length_drop,List.length_take];omega
 refine ⟨some ⟨g,i,none⟩,c-i,by rw [hlen],by rw [hlen];omega,fun m hm=>?_⟩
 rw [hlen] at hm
 obtain ⟨p,hp,hb,hc⟩:=hcell (i+m) (by omega)
 have hp:=Option.some.inj hp
 subst hp
 refine ⟨_,rfl,hb,?_⟩
 rw [add_none] at hc ⊢
 rw [Nat.zero_add] at hc
 rw [hc]
 simp
theorem byts_none {w:World} {a:Option Addr} {c:Nat}:BytsAt w (.slice a 0 c) []:=⟨a,c,rfl,Nat.zero_le _,fun i hi=>absurd hi (by simp)⟩
theorem byts_drop {w:World} {g n c:Nat} {l:Str} (h:BytsAt w (.slice (some ⟨g,0,none⟩) n c) l) {i:Nat} (hi:i≤n):BytsAt w (.slice (if c=i then some ⟨g,0,none⟩ else some ⟨g,i,none⟩) (n-i) (c-i)) (l.drop i):=by
 have hn:n=l.length∧n≤c:=by
  obtain ⟨a,cap,e,hc,_⟩:=h
  simp only [Value.slice.injEq] at e
  omega
 by_cases hc:c=i
 ·subst hc
  have h0:n-c=0:=by omega
  rw [if_pos rfl,h0,List.drop_eq_nil_of_le (by omega)]
  exact byts_none
 ·rw [if_neg hc]
  have:=byts_cut h hi (Nat.le_refl n)
  rw [hn.1,List.take_length,← hn.1] at this
  exact this
end Go.Proofs.YtihdndaibmgoiaaGreatDoor.Pz
namespace Go.Proofs.YtihdndaibmgoiaaGreatDoor.Pz
open Go.RowKit
section
variable {P:Program} {ops:Array Oper} {Q:Exit→Act→World→Prop} {md:Region.Mode} {S:World→Prop} {late:Nat→Bool}
def anyU (P:Program) (md:Region.Mode) (ops:Array Oper) (Q:Exit→Act→World→Prop) (late:Nat→Bool) (S:World→Prop):Nat→Array Bool→Act→World→Prop
 | 0,listed,a,w=>Region.ready md ops listed=[]∧Q .normal a w
 | fuel+1,listed,a,w=>(Region.ready md ops listed=[]→Q .normal a w)∧
   ∀ i∈Region.ready md ops listed,wpOp P ops Q i (fun b u=>(late i=true∨S u)∧anyU P md ops Q late S fuel (listed.setIfInBounds i true) b u) a w
theorem any_of_U:∀ (fuel:Nat) (listed:Array Bool) (a:Act) (w:World),anyU P md ops Q late S fuel listed a w→wpAny P md ops Q fuel listed a w
 | 0,_,_,_,h=>h
 | fuel+1,_,_,_,h=>⟨h.1,fun i hi=>wpOp_mono (fun b u k=>any_of_U fuel _ b u k.2) (h.2 i hi)⟩
theorem unlisted_of_ready {i:Nat} {listed:Array Bool} (h:i∈Region.ready md ops listed):listed.getD i false=false:=by
 have h0:=(mem_ready.1 h).1
 by_cases hlt:i<listed.size
 ·simp [hlt] at h0 ⊢;exact h0
 ·simp [Array.getElem?_eq_none (Nat.le_of_not_lt hlt)]
def Closed (md:Region.Mode) (ops:Array Oper) (listed:Array Bool):Prop:=∀ j oj,ops[j]? = some oj→listed.getD j false=true→∀ e∈oj.after,Region.binds md e=true→listed.getD e.on false=true
theorem Closed.add {j:Nat} {listed:Array Bool} (h:Closed md ops listed) (hj:j∈Region.ready md ops listed):Closed md ops (listed.setIfInBounds j true):=by
 obtain ⟨_,oj,hoj,hall⟩:=mem_ready.1 hj
 intro k ok hk hl e he hb
 apply getD_set_true
 rcases Nat.decEq j k with hjk | rfl
 ·rw [getD_set_ne false hjk] at hl
  exact h k ok hk hl e he hb
 ·have:=Option.some.inj (hoj.symm.trans hk)
  subst this
  exact hall e he hb
def waitsB (md:Region.Mode) (ops:Array Oper) (j i:Nat):Bool:=
 ((ops[j]?).map fun o=>o.after.any fun e=>Region.binds md e && (e.on == i || ((ops[e.on]?).map fun o'=>o'.after.any fun e'=>Region.binds md e' && e'.on == i).getD false)).getD false
theorem waitsB_listed {i j:Nat} {listed:Array Bool} (h:waitsB md ops j i=true) (hc:Closed md ops listed) (hj:j∈Region.ready md ops listed):listed.getD i false=true:=by
 obtain ⟨_,oj,hoj,hall⟩:=mem_ready.1 hj
 unfold waitsB at h
 rw [hoj] at h
 have h2:(oj.after.any fun e=>Region.binds md e && (e.on == i || ((ops[e.on]?).map fun o'=>o'.after.any fun e'=>Region.binds md e' && e'.on == i).getD false))=true:=h
 obtain ⟨e,he,hb⟩:=Array.any_eq_true'.1 h2
 simp only [Bool.and_eq_true,Bool.or_eq_true,beq_iff_eq] at hb
 rcases hb.2 with h3 | h3
 ·rw [← h3];exact hall e he hb.1
 ·cases ho:ops[e.on]? with
  | none=>rw [ho] at h3;cases h3
  | some o'=>
   rw [ho] at h3
   have h4:(o'.after.any fun e'=>Region.binds md e' && e'.on == i)=true:=h3
   obtain ⟨e',he',hb'⟩:=Array.any_eq_true'.1 h4
   simp only [Bool.and_eq_true,beq_iff_eq] at hb'
   rw [← hb'.2]
   exact hc e.on o' ho (hall e he hb.1) e' he' hb'.1
theorem U_first {i:Nat} {oi:Oper} {v:Value} (hi:ops[i]? = some oi) (hsel:∀ (j:Nat) (o:Oper) cs b,ops[j]? = some o→o.op≠.select cs b)
  (hQ:∀ c a w,Q (.panic c) (a.put oi.dst v) w→Q (.panic c) a w)
  (hlate:∀ j,j<ops.size→late j=true→waitsB md ops j i=true) :
  ∀ (fuel:Nat) (listed:Array Bool) (a:Act) (w:World),Closed md ops listed→
   (∀ j oj,ops[j]? = some oj→j≠i→listed.getD j true=false→(∀ e∈oj.after,Region.binds md e=true→e.on≠i)→oi.apart ops oj=true)→
   i∈Region.ready md ops listed→YieldsIf P ops S oi v a→S w→
   anyU P md ops Q late S fuel (listed.setIfInBounds i true) (a.put oi.dst v) w→anyU P md ops Q late S (fuel+1) listed a w
 | 0,listed,a,w,_,_,hr,hy,hS,H=>by
  refine ⟨fun h=>(by rw [h] at hr;cases hr),fun j hj=>?_⟩
  rcases Nat.decEq j i with hji | rfl
  ·have hm:=ready_mono hj hji
   rw [H.1] at hm;cases hm
  ·exact hy.wpOp hi hS ⟨.inr hS,H⟩
 | fuel+1,listed,a,w,hcl,hfree,hr,hy,hS,H=>by
  refine ⟨fun h=>(by rw [h] at hr;cases hr),fun j hj=>?_⟩
  rcases Nat.decEq j i with hji | rfl
  ·obtain ⟨hjun,oj,hoj,hall⟩:=mem_ready.1 hj
   have hno:∀ e∈oj.after,Region.binds md e=true→e.on≠i:=fun e he hb heq=>by
    have h1:=hall e he hb
    rw [heq,unlisted_of_ready hr] at h1;cases h1
   have hnl:¬ late j=true:=fun hl=>by
    have h1:=waitsB_listed (hlate j (Array.getElem?_eq_some_iff.1 hoj).1 hl) hcl hj
    rw [unlisted_of_ready hr] at h1;cases h1
   have h2:=wpOp_putIf hoj (hfree j oj hoj hji hjun hno) (fun cs b=>hsel i oi cs b hi) (fun cs b=>hsel j oj cs b hoj) hQ hy (H.2 j (ready_mono hj hji))
   refine wpOp_mono (fun b u k=>?_) h2
   have hSu:=k.2.1.resolve_left hnl
   refine ⟨.inr hSu,U_first hi hsel hQ hlate fuel _ b u (hcl.add hj) ?_ (ready_mono hr (Ne.symm hji)) k.1 hSu ?_⟩
   ·intro l ol hol hli hun hw
    refine hfree l ol hol hli ?_ hw
    by_cases hjl:j=l
    ·exact hjl ▸ hjun
    ·rwa [getD_set_ne true hjl] at hun
   ·rw [Array.setIfInBounds_comm _ _ hji];exact k.2.2
  ·exact hy.wpOp hi hS ⟨.inr hS,H⟩
def lateB (md:Region.Mode) (ops:Array Oper) (late:Nat→Bool) (i:Nat):Bool:=(List.range ops.size).all fun j=>!late j || waitsB md ops j i
theorem lateB_spec {i:Nat} (h:lateB md ops late i=true) (j:Nat) (hj:j<ops.size) (hl:late j=true):waitsB md ops j i=true:=by
 have h1:=List.all_eq_true.1 h j (List.mem_range.2 hj)
 rwa [hl] at h1
def closedB (md:Region.Mode) (ops:Array Oper) (listed:Array Bool):Bool:=(List.range ops.size).all fun j=>!listed.getD j false || ((ops[j]?).map fun o=>o.after.all fun e=>!Region.binds md e || listed.getD e.on false).getD true
theorem closedB_spec {listed:Array Bool} (h:closedB md ops listed=true):Closed md ops listed:=by
 intro j oj hj hl e he hb
 have h1:=List.all_eq_true.1 h j (List.mem_range.2 (Array.getElem?_eq_some_iff.1 hj).1)
 rw [hl,hj] at h1
 have h2:(oj.after.all fun e=>!Region.binds md e || listed.getD e.on false)=true:=h1
 have h3:=Array.all_eq_true_iff_forall_mem.1 h2 e he
 rw [hb] at h3
 exact h3
theorem U_take {i:Nat} {oi:Oper} {v:Value} {fuel:Nat} {listed:Array Bool} {a:Act} {w:World} (hi:ops[i]? = some oi)
  (hs:Region.noSelect ops=true) (hf:Region.free md ops listed i=true) (hr:(Region.ready md ops listed).contains i=true) (hl:lateB md ops late i=true) (hc:closedB md ops listed=true)
  (hQ:∀ c a w,Q (.panic c) (a.put oi.dst v) w→Q (.panic c) a w) (hy:YieldsIf P ops S oi v a) (hS:S w)
  (h:anyU P md ops Q late S fuel (listed.setIfInBounds i true) (a.put oi.dst v) w):anyU P md ops Q late S (fuel+1) listed a w:=
 U_first hi (Region.noSelect_spec hs) hQ (lateB_spec hl) fuel listed a w (closedB_spec hc) (Region.free_spec hi hf) (by simpa using hr) hy hS h
theorem U_begin {id:Nat} {a:Act} {w:World} (hm:P.follows .mixedOrders=true) (h:anyU P .any ops Q late S ops.size (Array.replicate ops.size false) a w.drew):(Code.region id ops true).wp P Q a w:=
 wp_region_any hm (any_of_U _ _ _ _ h)
theorem U_step {j:Nat} {o:Oper} {fuel:Nat} {listed:Array Bool} {a:Act} {w:World} (hr:Region.ready md ops listed=[j]) (ho:ops[j]? = some o)
  (h:∀ K:Act→World→Prop,Hid (∀ b u,(late j=true∨S u)→anyU P md ops Q late S fuel (listed.setIfInBounds j true) b u→K b u)→if Region.wanted o (yielded ops a.tmps)=true then Oper.wp P o a w K Q else K (a.put o.dst undef) w) :
  anyU P md ops Q late S (fuel+1) listed a w:=by
 refine ⟨fun h0=>(by rw [hr] at h0;cases h0),fun i hi=>?_⟩
 rw [hr] at hi
 obtain rfl:i=j:=by simpa using hi
 exact wpOp_step ho fun K hK=>h K fun b u h1 h2=>hK b u ⟨h1,h2⟩
theorem U_two {j1 j2:Nat} {o1 o2:Oper} {fuel:Nat} {listed:Array Bool} {a:Act} {w:World} (hr:Region.ready md ops listed=[j1,j2]) (ho1:ops[j1]? = some o1) (ho2:ops[j2]? = some o2)
  (h1:∀ K:Act→World→Prop,Hid (∀ b u,(late j1=true∨S u)→anyU P md ops Q late S fuel (listed.setIfInBounds j1 true) b u→K b u)→if Region.wanted o1 (yielded ops a.tmps)=true then Oper.wp P o1 a w K Q else K (a.put o1.dst undef) w)
  (h2:∀ K:Act→World→Prop,Hid (∀ b u,(late j2=true∨S u)→anyU P md ops Q late S fuel (listed.setIfInBounds j2 true) b u→K b u)→if Region.wanted o2 (yielded ops a.tmps)=true then Oper.wp P o2 a w K Q else K (a.put o2.dst undef) w) :
  anyU P md ops Q late S (fuel+1) listed a w:=by
 refine ⟨fun h0=>(by rw [hr] at h0;cases h0),fun i hi=>?_⟩
 rw [hr] at hi
 simp only [List.mem_cons,List.mem_nil_iff,or_false] at hi
 rcases hi with rfl | rfl
 ·exact wpOp_step ho1 fun K hK=>h1 K fun b u h1 h2=>hK b u ⟨h1,h2⟩
 ·exact wpOp_step ho2 fun K hK=>h2 K fun b u h1 h2=>hK b u ⟨h1,h2⟩
theorem U_done {listed:Array Bool} {a:Act} {w:World} (hr:Region.ready md ops listed=[]) (h:Q .normal a w):∀ fuel,anyU P md ops Q late S fuel listed a w
 | 0=>⟨hr,h⟩
 | _+1=>⟨fun _=>h,by rw [hr];simp⟩
end
section
variable {P:Program} {ops:Array Oper} {Q:Exit→Act→World→Prop} {md:Region.Mode} {S:World→Prop} {late:Nat→Bool}
def waitsN (md:Region.Mode) (ops:Array Oper):Nat→Nat→Nat→Bool
 | 0,_,_=>false
 | f+1,j,i=>((ops[j]?).map fun o=>o.after.any fun e=>Region.binds md e && (e.on == i || waitsN md ops f e.on i)).getD false
theorem waitsN_of {i:Nat} {listed:Array Bool} (hc:Closed md ops listed):∀ (f j:Nat),waitsN md ops f j i=true→(∀ oj,ops[j]? = some oj→∀ e∈oj.after,Region.binds md e=true→listed.getD e.on false=true)→listed.getD i false=true
 | 0,_,h,_=>by cases h
 | f+1,j,h,hall=>by
  unfold waitsN at h
  cases hoj:ops[j]? with
  | none=>rw [hoj] at h;cases h
  | some oj=>
   rw [hoj] at h
   have h2:(oj.after.any fun e=>Region.binds md e && (e.on == i || waitsN md ops f e.on i))=true:=h
   obtain ⟨e,he,hb⟩:=Array.any_eq_true'.1 h2
   simp only [Bool.and_eq_true,Bool.or_eq_true,beq_iff_eq] at hb
   have hl:=hall oj hoj e he hb.1
   rcases hb.2 with h3 | h3
   ·rw [← h3];exact hl
   ·exact waitsN_of hc f e.on h3 fun o' ho e' he' hb'=>hc e.on o' ho hl e' he' hb'
theorem waitsN_listed {i j f:Nat} {listed:Array Bool} (h:waitsN md ops f j i=true) (hc:Closed md ops listed) (hj:j∈Region.ready md ops listed):listed.getD i false=true:=by
 obtain ⟨_,oj,hoj,hall⟩:=mem_ready.1 hj
 refine waitsN_of hc f j h fun o ho e he hb=>?_
 have:=Option.some.inj (hoj.symm.trans ho)
 subst this
 exact hall e he hb
theorem U_first2 {i f:Nat} {oi:Oper} {v:Value} (hi:ops[i]? = some oi) (hsel:∀ (j:Nat) (o:Oper) cs b,ops[j]? = some o→o.op≠.select cs b)
  (hQ:∀ c a w,Q (.panic c) (a.put oi.dst v) w→Q (.panic c) a w)
  (hlate:∀ j,j<ops.size→late j=true→waitsN md ops f j i=true) :
  ∀ (fuel:Nat) (listed:Array Bool) (a:Act) (w:World),Closed md ops listed→
   (∀ j oj,ops[j]? = some oj→j≠i→listed.getD j true=false→waitsN md ops f j i=false→oi.apart ops oj=true)→
   i∈Region.ready md ops listed→YieldsIf P ops S oi v a→S w→
   anyU P md ops Q late S fuel (listed.setIfInBounds i true) (a.put oi.dst v) w→anyU P md ops Q late S (fuel+1) listed a w
 | 0,listed,a,w,_,_,hr,hy,hS,H=>by
  refine ⟨fun h=>(by rw [h] at hr;cases hr),fun j hj=>?_⟩
  rcases Nat.decEq j i with hji | rfl
  ·have hm:=ready_mono hj hji
   rw [H.1] at hm;cases hm
  ·exact hy.wpOp hi hS ⟨.inr hS,H⟩
 | fuel+1,listed,a,w,hcl,hfree,hr,hy,hS,H=>by
  refine ⟨fun h=>(by rw [h] at hr;cases hr),fun j hj=>?_⟩
  rcases Nat.decEq j i with hji | rfl
  ·obtain ⟨hjun,oj,hoj,hall⟩:=mem_ready.1 hj
   have hno:waitsN md ops f j i=false:=by
    cases hw:waitsN md ops f j i with
    | false=>rfl
    | true=>
     have h1:=waitsN_listed hw hcl hj
     rw [unlisted_of_ready hr] at h1;cases h1
   have hnl:¬ late j=true:=fun hl=>by
    rw [hlate j (Array.getElem?_eq_some_iff.1 hoj).1 hl] at hno;cases hno
   have h2:=wpOp_putIf hoj (hfree j oj hoj hji hjun hno) (fun cs b=>hsel i oi cs b hi) (fun cs b=>hsel j oj cs b hoj) hQ hy (H.2 j (ready_mono hj hji))
   refine wpOp_mono (fun b u k=>?_) h2
   have hSu:=k.2.1.resolve_left hnl
   refine ⟨.inr hSu,U_first2 hi hsel hQ hlate fuel _ b u (hcl.add hj) ?_ (ready_mono hr (Ne.symm hji)) k.1 hSu ?_⟩
   ·intro l ol hol hli hun hw
    refine hfree l ol hol hli ?_ hw
    by_cases hjl:j=l
    ·exact hjl ▸ hjun
    ·rwa [getD_set_ne true hjl] at hun
   ·rw [Array.setIfInBounds_comm _ _ hji];exact k.2.2
  ·exact hy.wpOp hi hS ⟨.inr hS,H⟩
def lateN (md:Region.Mode) (ops:Array Oper) (late:Nat→Bool) (f i:Nat):Bool:=(List.range ops.size).all fun j=>!late j || waitsN md ops f j i
theorem lateN_spec {i f:Nat} (h:lateN md ops late f i=true) (j:Nat) (hj:j<ops.size) (hl:late j=true):waitsN md ops f j i=true:=by
 have h1:=List.all_eq_true.1 h j (List.mem_range.2 hj)
 rwa [hl] at h1
def freeN (md:Region.Mode) (ops:Array Oper) (listed:Array Bool) (f i:Nat):Bool:=
 match ops[i]? with
 | none=>false
 | some oi=>(List.range ops.size).all fun j=>j == i || listed.getD j true || waitsN md ops f j i || match ops[j]? with
   | some oj=>oi.apart ops oj
   | none=>true
theorem freeN_spec {i f:Nat} {oi:Oper} {listed:Array Bool} (hi:ops[i]? = some oi) (h:freeN md ops listed f i=true) (j:Nat) (oj:Oper)
  (hj:ops[j]? = some oj) (hne:j≠i) (hun:listed.getD j true=false) (hno:waitsN md ops f j i=false):oi.apart ops oj=true:=by
 simp only [freeN,hi,List.all_eq_true,List.mem_range] at h
 have h1:=h j (Array.getElem?_eq_some_iff.1 hj).1
 simp only [hj,Bool.or_eq_true,beq_iff_eq,hne,false_or,hun,hno,Bool.false_eq_true] at h1
 exact h1
theorem U_take2 (f:Nat) {i:Nat} {oi:Oper} {v:Value} {fuel:Nat} {listed:Array Bool} {a:Act} {w:World} (hi:ops[i]? = some oi)
  (hs:Region.noSelect ops=true) (hf:freeN md ops listed f i=true) (hr:(Region.ready md ops listed).contains i=true) (hl:lateN md ops late f i=true) (hc:closedB md ops listed=true)
  (hQ:∀ c a w,Q (.panic c) (a.put oi.dst v) w→Q (.panic c) a w) (hy:YieldsIf P ops S oi v a) (hS:S w)
  (h:anyU P md ops Q late S fuel (listed.setIfInBounds i true) (a.put oi.dst v) w):anyU P md ops Q late S (fuel+1) listed a w:=
 U_first2 hi (Region.noSelect_spec hs) hQ (lateN_spec hl) fuel listed a w (closedB_spec hc) (freeN_spec hi hf) (by simpa using hr) hy hS h
end
section
variable {P:Program} {md:Region.Mode} {ops:Array Oper} {Q:Exit→Act→World→Prop} {late:Nat→Bool} {S:World→Prop}
end
end Go.Proofs.YtihdndaibmgoiaaGreatDoor.Pz
namespace Go.Proofs.YtihdndaibmgoiaaGreatDoor.Pz
open Go.RowKit
theorem grown_trans {w w1 w2:World} {r r1:Option Nat} (h:w.grownBy w1 r) (h1:w1.grownBy w2 r1) (hr:∀ g,r1=some g→r=some g∨w.heap.size≤g):w.grownBy w2 r:=by
 refine ⟨h1.os.trans h.os,h1.tape.trans h.tape,h1.output.trans h.output,Nat.le_trans h.size h1.size,fun k hk hn=>?_⟩
 rw [h1.block k (Nat.lt_of_lt_of_le hk h.size) fun e=>?_,h.block k hk hn]
 rcases hr k e.symm with h9 | h9
 ·exact hn h9.symm
 ·omega
theorem grown_refl (w:World) (r:Option Nat):w.grownBy w r:=⟨rfl,rfl,rfl,Nat.le_refl _,fun _ _ _=>rfl⟩
def padE (b:Str) (at0:Nat):Str:=b++List.replicate (at0-b.length) 0
theorem padE_len (b:Str) (at0:Nat):(padE b at0).length=max b.length at0:=by
 unfold padE
 rw [List.length_append,List.length_replicate]
 omega
theorem putE_eq (b x:Str) (at0 n:Nat) (hn:n=min x.length ((padE b at0).length-at0)):putE b at0 x=splice (padE b at0) at0 (x.take n)++x.drop n:=by
 show (padE b at0).take at0++x++(padE b at0).drop (at0+x.length)=_
 have hl:at0≤(padE b at0).length:=by rw [padE_len];omega
 generalize padE b at0=c at *
 unfold splice
 by_cases h:x.length≤c.length-at0
 ·have:n=x.length:=by omega
  rw [this,List.take_length,List.drop_length,List.append_nil,List.append_assoc]
 ·have h1:n=c.length-at0:=by omega
  have h2:(x.take n).length=n:=by rw [List.length_take];omega
  rw [h2,show c.drop (at0+n)=[] from List.drop_eq_nil_of_le (by omega),show c.drop (at0+x.length)=[] from List.drop_eq_nil_of_le (by omega),List.append_nil,List.append_nil,List.append_assoc,List.take_append_drop]
theorem byteCells_take (l:Str) (k:Nat):Lib.byteCells (l.take k)=(Lib.byteCells l).take k:=by simp [Lib.byteCells]
theorem byteCells_drop (l:Str) (k:Nat):Lib.byteCells (l.drop k)=(Lib.byteCells l).drop k:=by simp [Lib.byteCells]
theorem step_copy_zero {P:Program} {ops:Array Oper} {o:Oper} {a:Act} {w:World} {K:Act→World→Prop} {Q:Exit→Act→World→Prop} {E:Prop} (hgd:o.guard=none) (d s:Operand) (dT sT:TypeId)
  (ho:o.op=.call { callee:=.builtin .copy,args:=#[d,s],argTypes:=#[dT,sT] }) (elem:TypeId) (hu:P.underlying dT=some (.slice elem)) (hsz:(P.info? elem).map (·.size)=some 1)
  (dp sp:Option Addr) (dLen dCap sLen sCap:Nat) (hd:a.eval d=.slice dp dLen dCap) (hs:a.eval s=.slice sp sLen sCap) (hn:Nat.min sLen dLen=0)
  (h:K (a.put o.dst (goInt 0)) w):if Region.wanted o (yielded ops a.tmps)=true then Oper.wp P o a w K Q else E:=by
 have hw:Region.wanted o (yielded ops a.tmps)=true:=by simp [Region.wanted,hgd]
 rw [if_pos hw]
 have hrun:=run_copy_none (P:=P) w dT sT o.type elem dp sp dLen dCap sLen sCap hu hsz hn
 unfold Oper.wp
 simp [execOp,ho,resolve,invoke,builtin,hd,hs,hrun,Result.andThen]
 exact h
theorem splice_cut {α:Type} (cur cs:List α) (off L:Nat) (h:off+cs.length≤L) (hL:L≤cur.length):(splice cur off cs).take L=splice (cur.take L) off cs:=by
 unfold splice
 rw [List.take_append,List.take_append,List.take_take,List.take_take,List.length_take,Nat.min_eq_left (show off≤cur.length by omega),List.take_of_length_le (l:=cs) (by omega),Nat.min_eq_right (show off≤L by omega),Nat.min_eq_left (show off≤L by omega),List.drop_take]
 congr 3
 omega
theorem byteCells_splice (b c:Str) (off:Nat):Lib.byteCells (splice b off c)=splice (Lib.byteCells b) off (Lib.byteCells c):=by
 unfold splice
 rw [Lib.byteCells_append,Lib.byteCells_append,byteCells_take,byteCells_drop,Lib.byteCells_length]
theorem step_copy_part {P:Program} {ops:Array Oper} {o:Oper} {a:Act} {w:World} {K:Act→World→Prop} {Q:Exit→Act→World→Prop} {E:Prop} (hgd:o.guard=none) (d s:Operand) (dT sT:TypeId)
  (ho:o.op=.call { callee:=.builtin .copy,args:=#[d,s],argTypes:=#[dT,sT] }) (elem:TypeId) (hu:P.underlying dT=some (.slice elem)) (hsz:(P.info? elem).map (·.size)=some 1)
  (g off:Nat) (ad:Addr) (dLen dCap sLen sCap:Nat) (hd:a.eval d=.slice (some ⟨g,off,none⟩) dLen dCap) (hs:a.eval s=.slice (some ad) sLen sCap)
  (cur:List Value) (t:TypeId) (hg:w.heap[g]? = some (.cells cur.toArray t (0,0))) (cs:List Value) (hn:cs.length=Nat.min sLen dLen)
  (hsrc:∀ j v,cs[j]? = some v→w.cell? (ad.add j)=some v) (hfit:off+cs.length≤cur.length) (h1:∀ v∈cs,v.oneCell'=true)
  (h:∀ w',w'.heap[g]? = some (.cells (splice cur off cs).toArray t (0,0))→w.grownBy w' (some g)→K (a.put o.dst (goInt cs.length)) w') :
  if Region.wanted o (yielded ops a.tmps)=true then Oper.wp P o a w K Q else E:=by
 have hw:Region.wanted o (yielded ops a.tmps)=true:=by simp [Region.wanted,hgd]
 rw [if_pos hw]
 have hrun:=run_copy_row (P:=P) w dT sT o.type elem g off dLen dCap ad sLen sCap cur.toArray t cs hu hsz hg hn hsrc (by simpa using hfit) h1
 unfold Oper.wp
 simp [execOp,ho,resolve,invoke,builtin,hd,hs,hrun,Result.andThen]
 refine h _ (show _=_ by simpa [splice] using setRow_heap w g _ _ t _ hg) ⟨rfl,rfl,rfl,by simp [World.setRow],fun k hk hn=>setRow_other w g k _ (fun e=>hn (by rw [e]))⟩
set_option maxRecDepth 100000 in
set_option maxHeartbeats 2000000 in
theorem put_fn {B:Nat} (at0:Nat) {w:World} {v u:Value} {b x:Str} (hv:RowY B w v b) (hu:RowY 0 w u x) (hap:∀ g,v.ownBlock=some g→u.ownBlock≠some g) (hB:B≤w.heap.size)
  (hb1:b.length≤1000000) (hx:x.length≤1000000) (ha:at0≤1000000) :
  Calls Tryz.prog 75 #[v,.int .i64 (at0:Nat),u] w fun e w'=>∃ v',e=.returned v'∧RowY B w' v' (putE b at0 x)∧w.grownBy w' v.ownBlock∧(∀ g,v'.ownBlock=some g→v.ownBlock=some g∨w.heap.size≤g):=by
 obtain ⟨au,cu,rfl⟩:=hu.shape
 have HV:=hid hv
 have HU:=hid hu
 have HAP:=hid hap
 clear hv hu hap
 go_enter Tryz.func75,Tryz.ntmps75
 go_wp2_with fail
 go_loopg [0] (at0-b.length) (fun k vv wr=>∃ z:Nat,RowY B wr vv (b++List.replicate z 0)∧w.grownBy wr v.ownBlock∧(∀ g,vv.ownBlock=some g→v.ownBlock=some g∨w.heap.size≤g)∧(z=0∨b.length+z≤at0)∧k=at0-(b.length+z))
 case atStart=>exact ⟨0,by simpa using HV.out,grown_refl _ _,fun g h=>.inl h,.inl rfl,rfl⟩
 case round=>
  obtain ⟨z,hr,hg,ho,hz,rfl⟩:=hrel
  obtain ⟨a1,c1,he⟩:=hr.shape
  obtain ⟨L,hL⟩:∃ L,L=b.length+z:=⟨_,rfl⟩
  have hL2:(b++List.replicate z (0:UInt8)).length=L:=by rw [List.length_append,List.length_replicate,hL]
  rw [hL2] at he
  subst he
  have hLb:L≤3000000:=by omega
  have hBr:B≤wr.heap.size:=Nat.le_trans hB hg.size
  have HR:=hid hr
  have HG:=hid hg
  have HO:=hid ho
  have HL:=hid hL
  have HL2:=hid hL2
  have HZ:=hid hz
  clear hr hg ho hL hL2 hz
  by_cases hlt:L<at0
  ·have hlI:(L:Int)<(at0:Int):=by omega
   go_wp2_with (at_builtin;refine appB_one rfl rfl (.tmp 12) (.tmp 13) rfl B _ _ 0 rfl HR.out rfl hBr (by rw [HL2.out];omega) ?_;intro v9 w9 hr9 hg9 hv9)
   have HR9:=hid hr9
   have HG9:=hid hg9
   have HV9:=hid hv9
   clear hr9 hg9 hv9
   go_roundg (at0-(L+1))
   case measure=>have:=HL.out;omega
   case rel=>
    refine ⟨z+1,?_,grown_trans HG.out HG9.out HO.out,fun g h=>?_,.inr (by have:=HL.out;omega),by have:=HL.out;omega⟩
    ·have h9:=HR9.out
     rwa [List.append_assoc,← List.replicate_succ'] at h9
    ·rcases HV9.out g h with h8 | h8
     ·exact HO.out g h8
     ·exact .inr (Nat.le_trans HG.out.size h8)
  ·have hlI:¬ ((L:Int)<(at0:Int)):=by omega
   have hpad:b++List.replicate z 0=padE b at0:=by
    have h1:=HL.out
    have h2:=HZ.out
    unfold padE
    congr 2
    omega
   obtain ⟨n,hn⟩:∃ n,n=min x.length (L-at0):=⟨_,rfl⟩
   have hmin:min (x.length:Int) ((L:Int)-(at0:Int))=(n:Int):=by omega
   have hpe:=putE_eq b x at0 n (by rw [← hpad,HL2.out];exact hn)
   rw [← hpad] at hpe
   have HPE:=hid hpe
   have HMIN:=hid hmin
   have hnx:n≤x.length:=by omega
   have hnL:at0+n≤L:=by omega
   have HN:=hid hn
   clear hpad hpe hmin hn
   go_wp2_with fail
   rw [HMIN.out]
   have hcu:x.length≤cu:=by
    rcases HU.out.2 with ⟨e,h1⟩ | ⟨g,cap,cur,e,_,_,hc,_⟩
    ·omega
    ·simp only [Value.slice.injEq] at e
     omega
   have hc1:L≤c1:=by
    have h9:=HR.out
    rcases h9.2 with ⟨e,h1⟩ | ⟨g,cap,cur,e,_,_,hc,_⟩
    ·rw [HL2.out] at h1
     omega
    ·simp only [Value.slice.injEq] at e
     omega
   have HRD:=hid (show RowY B wr.drew (Value.slice a1 L c1) (b++List.replicate z 0) from HR.out)
   have HUD:=hid (show RowY 0 wr.drew (Value.slice au x.length cu) x from (RowY.grown (v:=v) HU.out HG.out HAP.out:RowY 0 wr (Value.slice au x.length cu) x))
   rcases Nat.eq_zero_or_pos n with h0 | h0
   ·subst h0
    have HPE0:=hid (show putE b at0 x=(b++List.replicate z 0)++x by rw [HPE.out];simp [splice])
    have hw1:IntKind.i64.wrap (at0:Int)=(at0:Int):=IntWalk.i64_in _ (by omega)
    have hac:at0≤c1:=by omega
    have hacI:(at0:Int)≤(c1:Int):=by omega
    clear hnx hnL
    go_region_law (refine step_copy_zero rfl (.tmp 27) (.tmp 31) 46 46 rfl 5 Tryz.underlying46 (by kernel_rfl) (if c1=at0 then a1 else Option.map (fun x=>x.add at0) a1) au 0 (c1-at0) 0 0 (by simp [Act.eval,Act.put]) (by simp [Act.eval,Act.put]) (by simp) ?_)
    go_wp2_with (at_builtin;refine appB_row rfl (.tmp 33) (.tmp 36) rfl B 0 (.slice a1 L c1) (.slice au x.length cu) (b++List.replicate z 0) x rfl HRD.out rfl HUD.out hBr (by rw [HL2.out];omega) ?_;intro v9 w9 hr9 hg9 hv9;have HR9:=hid hr9;have HG9:=hid hg9;have HV9:=hid hv9;clear hr9 hg9 hv9)
    all_goals
     go_ret
     refine ⟨_,rfl,by rw [HPE0.out];exact HR9.out,grown_trans HG.out (show wr.grownBy w9 (Value.slice a1 L c1).ownBlock from ⟨HG9.out.os,HG9.out.tape,HG9.out.output,HG9.out.size,HG9.out.block⟩) HO.out,fun g h=>?_⟩
     rcases HV9.out g h with h8 | h8
     ·exact HO.out g h8
     ·exact .inr (Nat.le_trans HG.out.size h8)
   ·have hw1:IntKind.i64.wrap ((at0:Int)+(n:Int))=(at0:Int)+(n:Int):=IntWalk.i64_in _ (by omega)
    have hac:at0≤c1:=by omega
    have hne:¬ c1=at0:=by omega
    have hanI:(at0:Int)+(n:Int)≤(c1:Int):=by omega
    have hanZ:(0:Int)≤(at0:Int)+(n:Int):=by omega
    have hanT:((at0:Int)+(n:Int)).toNat=at0+n:=by omega
    have hncI:(n:Int)≤(cu:Int):=by omega
    obtain ⟨g,rfl,-,-⟩:=HR.out.at (i:=0) (by rw [HL2.out];omega)
    obtain ⟨p,rfl,-,-⟩:=HU.out.at (i:=0) (by omega)
    obtain ⟨cur,hcg,hcl,hct⟩:∃ cur:List Value,wr.heap[g]? = some (.cells cur.toArray 5 (0,0))∧L≤cur.length∧cur.take L=Lib.byteCells (b++List.replicate z 0):=by
     have h9:=HR.out
     rcases h9.2 with ⟨e,h1⟩ | ⟨g',cap,cur,e,_,hgg,hnc,hcs,htk⟩
     ·cases e
     ·simp only [Value.slice.injEq,Option.some.injEq,Addr.mk.injEq] at e
      obtain ⟨⟨rfl,-⟩,-,rfl⟩:=e
      simp only [Nat.mul_one] at hcs htk
      rw [HL2.out] at hnc
      refine ⟨cur.toList,by simpa using hgg,by rw [Array.length_toList,htk.1];exact hnc,?_⟩
      rw [← HL2.out]
      exact htk.2
    have HCG:=hid hcg
    have HCT:=hid hct
    have hpw:p<w.heap.size:=(HU.out.lt p rfl).1
    have hpg:p≠g:=by
     rintro rfl
     rcases HO.out p rfl with h | h
     ·exact HAP.out p h rfl
     ·omega
    have hcells:=hid (byts_cells (RowY.byts HUD.out))
    have hxl:(Lib.byteCells (x.take n)).length=n:=by rw [Lib.byteCells_length,List.length_take];omega
    have HXN:=hid (show ∀ j u,(Lib.byteCells (x.take n))[j]? = some u→wr.drew.cell? ((⟨p,0,none⟩:Addr).add j)=some u by
     intro j u hj
     refine hcells.out j u ?_
     rw [byteCells_take] at hj
     have hjn:j<n:=by
      rcases Nat.lt_or_ge j n with h | h
      ·exact h
      ·rw [List.getElem?_eq_none (by rw [List.length_take];omega)] at hj;cases hj
     rwa [List.getElem?_take_of_lt hjn] at hj)
    have HXL:=hid hxl
    clear hxl hcg hct
    go_region_law (refine step_copy_part rfl (.tmp 27) (.tmp 31) 46 46 rfl 5 Tryz.underlying46 (by kernel_rfl) g at0 ⟨p,0,none⟩ n (c1-at0) n n (by simp [Act.eval,Act.put]) (by simp [Act.eval,Act.put]) cur 5 HCG.out (Lib.byteCells (x.take n)) (by rw [HXL.out];simp) HXN.out (by rw [HXL.out];omega) (byteCells_one _) ?_;intro w2 hg2 hb2)
    have hrow2:RowY B w2 (Value.slice (some ⟨g,0,none⟩) L c1) (splice (b++List.replicate z 0) at0 (x.take n)):=by
     have h9:=HRD.out
     have hsl:(splice (b++List.replicate z 0) at0 (x.take n)).length=L:=by
      rw [length_splice _ _ _ (by rw [HL2.out,List.length_take];omega),HL2.out]
     rcases h9.2 with ⟨e,h1⟩ | ⟨g',cap,cur',e,hBg,hgg,hnc,hmx,hcs,htk⟩
     ·cases e
     ·simp only [Value.slice.injEq,Option.some.injEq,Addr.mk.injEq] at e
      obtain ⟨⟨rfl,-⟩,-,rfl⟩:=e
      have hcc:cur=cur'.toList:=by
       have h8:=HCG.out
       rw [show wr.heap[g]? = _ from hgg] at h8
       simp only [Option.some.injEq,Obj.cells.injEq] at h8
       rw [h8.1]
      have hxl2:=HXL.out
      refine ⟨by simp [Lib.byteCells_length],.inr ⟨g,c1,_,by rw [hsl],hBg,hg2,by rw [hsl];exact hc1,hmx,?_,?_⟩⟩
      ·rw [List.size_toArray,length_splice _ _ _ (by omega),hcc,Array.length_toList,hcs]
      ·rw [hsl,Nat.mul_one,byteCells_splice]
       show (splice cur at0 (Lib.byteCells (x.take n))).take L=_
       rw [splice_cut _ _ _ _ (by omega) hcl,HCT.out]
    have hu2:RowY 0 w2 (Value.slice (some ⟨p,0,none⟩) x.length cu) x:=ownsRow_heap HUD.out fun g' hg'=>by
     simp only [Value.ownBlock,Option.some.injEq] at hg'
     subst hg'
     exact hb2.block p (Nat.lt_of_lt_of_le hpw HG.out.size) (fun e=>hpg (Option.some.inj e))
    have HR2:=hid hrow2
    have HU2:=hid (byts_drop (RowY.byts hu2) hnx)
    have HB2:=hid hb2
    have hB2:B≤w2.heap.size:=Nat.le_trans hBr hb2.size
    have hnl:∀ m c,Value.slice (if cu=n then some (⟨p,0,none⟩:Addr) else some ⟨p,n,none⟩) (x.length-n) (cu-n)=.slice none m c→c=0:=by
     intro m c e
     simp only [Value.slice.injEq] at e
     split at e<;>exact absurd e.1 (by simp)
    have hspl:(splice (b++List.replicate z 0) at0 (x.take n)).length+(x.drop n).length≤1000000000:=by
     rw [length_splice _ _ _ (by rw [HL2.out,List.length_take];omega),HL2.out,List.length_drop]
     omega
    have HNL:=hid hnl
    have HSPL:=hid hspl
    clear hrow2 hu2 hg2 hb2 hnl hspl
    go_wp2_with (at_builtin;refine appB_any rfl (.tmp 33) (.tmp 36) rfl B (.slice (some ⟨g,0,none⟩) L c1) _ (splice (b++List.replicate z 0) at0 (x.take n)) (x.drop n) rfl HR2.out rfl HU2.out HNL.out hB2 HSPL.out ?_;intro v9 w9 hr9 hg9 hv9;have HR9:=hid hr9;have HG9:=hid hg9;have HV9:=hid hv9;clear hr9 hg9 hv9)
    all_goals
     go_ret
     refine ⟨_,rfl,by rw [HPE.out];exact HR9.out,grown_trans HG.out (grown_trans (show wr.grownBy w2 (some g) from ⟨HB2.out.os,HB2.out.tape,HB2.out.output,HB2.out.size,HB2.out.block⟩) HG9.out (fun g' h'=>.inl h')) HO.out,fun g' h=>?_⟩
     rcases HV9.out g' h with h8 | h8
     ·exact HO.out g' h8
     ·exact .inr (Nat.le_trans HG.out.size (Nat.le_trans HB2.out.size h8))
end Go.Proofs.YtihdndaibmgoiaaGreatDoor.Pz
namespace Go.Proofs.YtihdndaibmgoiaaGreatDoor.Pz
open Go.RowKit
theorem wordsGo_cons (p:Str) (c:UInt8) (t:Str):wordsGo p (c::t)=if white c then (if p=[] then wordsGo [] t else p::wordsGo [] t) else wordsGo (p++[c]) t:=rfl
set_option maxRecDepth 100000 in
set_option maxHeartbeats 2000000 in
theorem words_fn (s:Str) (hs:s.length≤1000000) (w:World):Calls Tryz.prog 149 #[.string ⟨s.toArray⟩] w fun e w'=>∃ v,e=.returned v∧RowS w.heap.size w' v (wordsE s)∧Below w.heap.size w w':=by
  have hsz:(⟨s.toArray⟩:ByteArray).size=s.length:=Lib.size_mk _
  obtain ⟨R,hR⟩:∃ R,R=wordsE s:=⟨_,rfl⟩
  rw [← hR]
  have HR:=hid hR
  clear hR
  go_enter Tryz.func149,Tryz.ntmps149
  go_wp2_with fail
  go_loopg [3,4,5] (s.length+1) (fun k ov bv iv wr=>∃ (i b:Nat) (out:List Str),iv=.int .i64 (i:Nat)∧bv=.int .i64 (b:Nat)∧RowS w.heap.size wr ov out∧Below w.heap.size w wr∧k=s.length+1-i∧
    ((∃ (p l:Str),At s l i∧b≤i∧p=(s.take i).drop b∧R=out++wordsGo p l∧out.length≤i)∨(i=s.length+1∧out=R)))
  case atStart=>exact ⟨0,0,[],rfl,rfl,RowS.nil _ _,Below.refl _ _,rfl,.inl ⟨[],s,At.start s,Nat.le_refl _,by simp,by rw [HR.out];rfl,Nat.le_refl _⟩⟩
  case round=>
    obtain ⟨i,b,out,rfl,rfl,hrow,hbl,rfl,hc⟩:=hrel
    obtain ⟨ao,co,hov⟩:=hrow.shape
    subst hov
    have HROW:=hid hrow
    have HBL:=hid hbl
    rcases hc with ⟨p,l,ha,hbi,hp,hR,hol⟩ | ⟨rfl,hout⟩
    · have hpl : p.length = i - b := by
        have:=ha.len
        rw [hp,List.length_drop,List.length_take]
        omega
      have hlen:=ha.len
      have HA:=hid ha
      have HP:=hid hp
      have HRR:=hid hR
      have hex:(⟨s.toArray⟩:ByteArray).extract b i=⟨p.toArray⟩:=by rw [Lib.extract_mk,hp,List.drop_take]
      have hile:(i:Int)≤(s.length:Int):=by omega
      have hnl:out.length≤10000000:=by omega
      have hBr:w.heap.size≤wr.heap.size:=hbl.size
      clear hrow hbl ha hp hR
      cases l with
      | nil=>
        have hie:i=s.length:=by simpa using hlen
        by_cases hp0:p=[]
        · have hbe:¬ ((b:Int)<(i:Int)):=by rw [hp0] at hpl;simp at hpl;omega
          have HI:=hid hie
          have HP0:=hid hp0
          clear hie hp0
          have hii:((i:Int) == (s.length:Int))=true:=by rw [beq_iff_eq];have:=HI.out;omega
          go_wp2
          go_roundg 0
          case measure=>have:=HI.out;omega
          case rel=>exact ⟨i+1,i+1,out,by go_num,by go_num,HROW.out,HBL.out,by have:=HI.out;omega,.inr ⟨by rw [HI.out],by rw [HRR.out,HP0.out];simp [wordsGo]⟩⟩
        · have hp1:0<p.length:=List.length_pos_iff.2 hp0
          have hbe:(b:Int)<(i:Int):=by omega
          have HI:=hid hie
          have HP0:=hid hp0
          clear hie hp0
          have hii:((i:Int) == (s.length:Int))=true:=by rw [beq_iff_eq];have:=HI.out;omega
          go_wp2_with (at_builtin;refine app_one rfl rfl (.tmp 25) (.tmp 30) rfl w.heap.size _ _ p rfl HROW.out rfl hBr hnl ?_;intro v9 w9 hr9 hg9 hv9;have HR9:=hid hr9;have HG9:=hid hg9;have HV9:=hid hv9;clear hr9 hg9 hv9)
          go_roundg 0
          case measure=>have:=HI.out;omega
          case rel=>exact ⟨i+1,i+1,out++[p],by go_num,by go_num,HR9.out,HBL.out.grown HG9.out hBr (fun k hk=>(HROW.out.lt k hk).2),by have:=HI.out;omega,.inr ⟨by rw [HI.out],by rw [HRR.out];show out++[p]=out++(if p=[] then [] else [p]);rw [if_neg HP0.out]⟩⟩
      | cons c t=>
        have hlt:=HA.out.lt
        have hx:=HA.out.byte
        have hii:((i:Int) == (s.length:Int))=false:=by rw [beq_eq_false_iff_ne];omega
        have hwf:=white_fn c wr
        have hR2:=HRR.out
        rw [wordsGo_cons] at hR2
        have hp2:(s.take (i+1)).drop b=p++[c]:=by
          rw [HP.out,← List.take_append_getElem hlt,List.drop_append_of_le_length (by rw [List.length_take];omega)]
          have h9:=HA.out.head
          rw [List.getElem?_eq_getElem hlt] at h9
          rw [Option.some.inj h9]
        have HP2:=hid hp2
        have hkk:s.length+1-(i+1)<s.length+1-i:=by omega
        clear hp2
        cases hw:white c with
        | true=>
          rw [hw] at hwf hR2
          rw [if_pos rfl] at hR2
          have HWF:=hid hwf
          by_cases hp0:p=[]
          · rw [if_pos hp0] at hR2
            have hbe:¬ ((b:Int)<(i:Int)):=by rw [hp0] at hpl;simp at hpl;omega
            have HR2:=hid hR2
            clear hR2 hwf hp0 hw
            go_wp2_with ((with_reducible refine HWF.out.mono ?_);rintro e w1 ⟨rfl,hw⟩;subst hw)
            go_roundg (s.length+1-(i+1))
            case measure=>exact hkk
            case rel=>exact ⟨i+1,i+1,out,by go_num,by go_num,HROW.out,HBL.out,rfl,.inl ⟨[],t,HA.out.tail,Nat.le_refl _,by rw [List.drop_of_length_le (by rw [List.length_take];omega)],HR2.out,by omega⟩⟩
          · rw [if_neg hp0] at hR2
            have hp1:0<p.length:=List.length_pos_iff.2 hp0
            have hbe:(b:Int)<(i:Int):=by omega
            have HR2:=hid hR2
            clear hR2 hwf hp0 hw
            go_wp2_with (first|((with_reducible refine HWF.out.mono ?_);rintro e w1 ⟨rfl,hw⟩;subst hw)|(at_builtin;refine app_one rfl rfl (.tmp 25) (.tmp 30) rfl w.heap.size _ _ p rfl HROW.out rfl hBr hnl ?_;intro v9 w9 hr9 hg9 hv9;have HR9:=hid hr9;have HG9:=hid hg9;have HV9:=hid hv9;clear hr9 hg9 hv9))
            go_roundg (s.length+1-(i+1))
            case measure=>exact hkk
            case rel=>exact ⟨i+1,i+1,out++[p],by go_num,by go_num,HR9.out,HBL.out.grown HG9.out hBr (fun k hk=>(HROW.out.lt k hk).2),rfl,.inl ⟨[],t,HA.out.tail,Nat.le_refl _,by rw [List.drop_of_length_le (by rw [List.length_take];omega)],by rw [HR2.out];simp,by rw [List.length_append];simp;omega⟩⟩
        | false=>
          rw [hw] at hwf hR2
          rw [if_neg (by simp)] at hR2
          have HWF:=hid hwf
          have HR2:=hid hR2
          clear hR2 hwf hw
          go_wp2_with ((with_reducible refine HWF.out.mono ?_);rintro e w1 ⟨rfl,hw⟩;subst hw)
          go_roundg (s.length+1-(i+1))
          case measure=>exact hkk
          case rel=>exact ⟨i+1,b,out,by go_num,rfl,HROW.out,HBL.out,rfl,.inl ⟨p++[c],t,HA.out.tail,by omega,HP2.out.symm,HR2.out,by omega⟩⟩
    · have hile:¬ ((s.length:Int)+1≤(s.length:Int)):=by omega
      have HO:=hid hout
      clear hrow hbl hout
      go_wp2
      go_ret
      exact ⟨_,rfl,by rw [← HO.out];exact HROW.out,HBL.out⟩
end Go.Proofs.YtihdndaibmgoiaaGreatDoor.Pz
namespace Go.Proofs.YtihdndaibmgoiaaGreatDoor.Pz
open Go.RowKit
section
variable {ops:Array Oper} {rest:List Oper} {o:Oper} {a:Act} {Q:Exit→Act→World→Prop}
theorem mk_zero (w:World) (hgd:o.guard=none) (l c:Operand) (ho:o.op=Op.makeSlice 46 l c) (n:Nat) (L C:Int) (hl:a.eval l=.int .i64 L) (hc:a.eval c=.int .i64 C) (hL:L=(n:Int)) (hC:C=(n:Int)) (hn:n≤1000000000)
  (h:∀ (w':World),RowY w.heap.size w' (.slice (some ⟨w.heap.size,0,none⟩) n n) (List.replicate n 0)→Below w.heap.size w w'→wpList Tryz.prog ops Q rest (a.put o.dst (.slice (some ⟨w.heap.size,0,none⟩) n n)) w') :
  wpList Tryz.prog ops Q (o::rest) a w:=by
 obtain ⟨i0,hi,hz0,hz1,hz2⟩:=info_parts Tryz.info5
 subst hL
 subst hC
 have hm:=run_make (P:=Tryz.prog) w 46 5 i0 (.int .u8 0) Tryz.underlying46 hi hz0 .i64 .i64 n n (by omega) (by omega) (by rw [hz2];omega) (by omega)
 refine wpList_plain hgd fun K hK'=>?_
 unfold Oper.wp
 simp only [Int.toNat_natCast] at hm
 simp [execOp,ho,hl,hc,hm,Result.andThen]
 refine hK' _ _ (h _ ?_ ((Below.refl _ w).alloc (Nat.le_refl _) _))
 have e:(madeCells (Value.int .u8 0).cells (n*i0.size)).toList=Lib.byteCells (List.replicate n 0):=by
  rw [hz1,Nat.mul_one]
  show (madeCells #[Value.int .u8 0] n).toList=_
  rw [toList_madeCells_one]
  simp [Lib.byteCells]
 refine ⟨by simp [Lib.byteCells_length],.inr ⟨w.heap.size,n,_,by rw [List.length_replicate],Nat.le_refl _,heap_alloc_new _ _,by rw [List.length_replicate];exact Nat.le_refl _,by unfold maxLen;omega,by rw [size_madeCells,hz1],?_⟩⟩
 rw [e,List.length_replicate,Nat.mul_one,List.take_of_length_le (by rw [Lib.byteCells_length,List.length_replicate];exact Nat.le_refl _)]
end
theorem byteCells_set (l:Str) (i:Nat) (c:UInt8):(Lib.byteCells l).set i (.int .u8 (c.toNat:Nat))=Lib.byteCells (l.set i c):=by
 unfold Lib.byteCells
 rw [List.map_set]
theorem RowY.len {B:Nat} {w:World} {a:Option Addr} {n c:Nat} {l:Str} (h:RowY B w (.slice a n c) l):n=l.length:=by
 obtain ⟨a',c',e⟩:=h.shape
 simp only [Value.slice.injEq] at e
 exact e.2.1
theorem RowY.set {B:Nat} {w:World} {g n c:Nat} {l:Str} (h:RowY B w (.slice (some ⟨g,0,none⟩) n c) l) (i:Nat) (x:UInt8):RowY B (w.setCell ⟨g,i,none⟩ (.int .u8 (x.toNat:Nat))) (.slice (some ⟨g,0,none⟩) n c) (l.set i x):=by
 have hn:=h.len
 subst hn
 have h1:=(World.ownsRow.stored h i (.int .u8 (x.toNat:Nat))).1
 rw [byteCells_set] at h1
 unfold RowY
 rw [List.length_set]
 exact h1
theorem RowY.free {B:Nat} {w:World} {g n c:Nat} {l:Str} (h:RowY B w (.slice (some ⟨g,0,none⟩) n c) l) (i:Nat):w.frozen? ⟨g,i,none⟩=false:=by
 have hn:=h.len
 subst hn
 exact World.ownsRow.frozenAt h i
theorem RowY.cellI {B:Nat} {w:World} {g n c:Nat} {l:Str} (h:RowY B w (.slice (some ⟨g,0,none⟩) n c) l) {i:Nat} (hi:i<l.length):w.cell? ⟨g,i,none⟩=some (.int .u8 (l[i].toNat:Nat)):=by
 obtain ⟨g',e,_,hc⟩:=h.at hi
 simp only [Option.some.injEq,Addr.mk.injEq] at e
 rw [e.1]
 exact hc
def ordP (high:Bool) (n j:Nat):Nat:=if high then n-1-j else j
theorem ord_end {high:Bool} {l o:Str} (h:o.length=l.length) (hc:∀ j (hj:j<l.length),o[ordP high l.length j]? = some l[j]):o=ordE high l:=by
 cases high with
 | false=>
  refine List.ext_getElem? fun j=>?_
  show o[j]? = l[j]?
  by_cases hj:j<l.length
  ·rw [List.getElem?_eq_getElem hj]
   exact hc j hj
  ·rw [List.getElem?_eq_none (by omega),List.getElem?_eq_none (by omega)]
 | true=>
  refine List.ext_getElem? fun j=>?_
  show o[j]? = l.reverse[j]?
  by_cases hj:j<l.length
  ·have h1:=hc (l.length-1-j) (by omega)
   unfold ordP at h1
   rw [if_pos rfl,show l.length-1-(l.length-1-j)=j by omega] at h1
   rw [h1,List.getElem?_reverse hj,List.getElem?_eq_getElem (by omega)]
  ·rw [List.getElem?_eq_none (by omega),List.getElem?_eq_none (by rw [List.length_reverse];omega)]
set_option maxRecDepth 100000 in
set_option maxHeartbeats 2000000 in
theorem ordered_fn {w:World} {v:Value} {l:Str} (high:Bool) (hv:RowY 0 w v l) (hl:l.length≤1000000) :
    Calls Tryz.prog 151 #[v,.bool high] w fun e w'=>∃ v',e=.returned v'∧RowY w.heap.size w' v' (ordE high l)∧Below w.heap.size w w':=by
  obtain ⟨a,c,rfl⟩:=hv.shape
  have HV:=hid hv
  obtain ⟨n,hn⟩:∃ n,n=l.length:=⟨_,rfl⟩
  have HN:=hid hn
  rw [← hn] at hv HV hl ⊢
  clear hv hn
  go_enter Tryz.func151,Tryz.ntmps151
  go_wp2_with (at_make;refine mk_zero _ rfl _ _ rfl n _ _ rfl rfl rfl rfl (by omega) ?_;intro w2 hr2 hb2;have HR2:=hid hr2;have HB2:=hid hb2;clear hr2 hb2)
  go_loopg [13] n (fun k iv wr=>∃ (i:Nat) (o:Str),iv=.int .i64 (i:Nat)∧i≤n∧RowY w.heap.size wr (.slice (some ⟨w.heap.size,0,none⟩) n n) o∧o.length=n∧(∀ j (hj:j<l.length),j<i→o[ordP high n j]? = some l[j])∧Below w.heap.size w wr∧k=n-i)
  case atStart=>exact ⟨0,_,rfl,Nat.zero_le _,HR2.out,by simp,fun j _ h=>absurd h (by omega),HB2.out,rfl⟩
  case round=>
    obtain ⟨i,o,rfl,hin,hr,hol,hoc,hbl,rfl⟩:=hrel
    have HR:=hid hr
    have HOC:=hid hoc
    have HBL:=hid hbl
    clear hr hoc hbl
    rcases Nat.lt_or_ge i n with hlt | hge
    · have hltI:(i:Int)<(n:Int):=by omega
      have hil:i<l.length:=by rw [← HN.out];exact hlt
      obtain ⟨g0,rfl,-,hcell⟩:=HV.out.at hil
      have hg0:g0<w.heap.size:=(HV.out.lt g0 rfl).1
      have hc0:wr.cell? ⟨g0,i,none⟩=some (.int .u8 (l[i].toNat:Nat)):=by rw [HBL.out.cell (p:=⟨g0,i,none⟩) hg0];exact hcell
      obtain ⟨x,hx⟩:∃ x,x=l[i]:=⟨_,rfl⟩
      rw [← hx] at hc0
      have HX:=hid hx
      have hnext:∀ q,q=ordP high n i→∀ j (hj:j<l.length),j<i+1→(o.set q x)[ordP high n j]? = some l[j]:=by
        intro q hq j hj hji
        by_cases he:j=i
        · subst he
          rw [← hq,List.getElem?_set_self (by rw [hol,hq];unfold ordP;split<;>omega),HX.out]
        · have hne : q ≠ ordP high n j := by
            rw [hq]
            unfold ordP
            split<;>omega
          rw [List.getElem?_set_ne hne]
          exact HOC.out j hj (by omega)
      have HNX:=hid hnext
      clear hnext hcell hx
      cases high with
      | true=>
        have fr:=HR.out.free (n-1-i)
        have hcc:∃ u,wr.cell? ⟨w.heap.size,n-1-i,none⟩=some (.int .u8 u):=⟨_,HR.out.cellI (i:=n-1-i) (by omega)⟩
        obtain ⟨oq,hcc⟩:=hcc
        obtain ⟨q,hq⟩:∃ q,n-1-i=q:=⟨_,rfl⟩
        rw [hq] at fr hcc
        have hqI:(n:Int)-1-(i:Int)=(q:Int):=by omega
        have hqn:(q:Int)<(n:Int):=by omega
        have HQ:=hid hq
        clear hq
        go_wp2
        go_roundg (n-(i+1))
        case measure=>omega
        case rel=>exact ⟨i+1,o.set q x,by go_num,by omega,HR.out.set q x,by rw [List.length_set];exact hol,HNX.out q (by have:=HQ.out;unfold ordP;rw [if_pos rfl];omega),HBL.out.setCell (Nat.le_refl _) _,rfl⟩
      | false=>
        have fr:=HR.out.free i
        have hcc:∃ u,wr.cell? ⟨w.heap.size,i,none⟩=some (.int .u8 u):=⟨_,HR.out.cellI (i:=i) (by omega)⟩
        obtain ⟨oq,hcc⟩:=hcc
        go_wp2
        go_roundg (n-(i+1))
        case measure=>omega
        case rel=>exact ⟨i+1,o.set i x,by go_num,by omega,HR.out.set i x,by rw [List.length_set];exact hol,HNX.out i rfl,HBL.out.setCell (Nat.le_refl _) _,rfl⟩
    · obtain rfl:i=n:=by omega
      have HE:=hid (ord_end (high:=high) (l:=l) (o:=o) (by rw [hol,HN.out]) (fun j hj=>by have:=HOC.out j hj (by rw [HN.out];exact hj);rw [HN.out] at this;exact this))
      go_wp2
      go_ret
      exact ⟨_,rfl,by rw [← HE.out];exact HR.out,HBL.out⟩
end Go.Proofs.YtihdndaibmgoiaaGreatDoor.Pz
namespace Go.Proofs.YtihdndaibmgoiaaGreatDoor
open Go.RowKit
theorem nlen_mask:nlen (18446744073709551615:Int).natAbs=2:=by decide
theorem bitI_mask (x:Int):bitI (· &&& ·) x 18446744073709551615=x % 18446744073709551616:=by
 obtain ⟨j,hj⟩:∃ j,kOf x 18446744073709551615=j+1:=⟨_,rfl⟩
 have hm:=nlen_mask
 have hjx:nlen x.natAbs≤j:=by unfold kOf at hj;omega
 have hj2:2≤j:=by unfold kOf at hj;omega
 obtain ⟨s1,-,a1,_,a3,_⟩:=tcI_parts x j hjx
 obtain ⟨t,h1,h2,h3,_⟩:=ofTc_parts (· &&& ·) bl_and x 18446744073709551615
 rw [hj] at h1 h2 h3
 have hy:tcI 18446744073709551615 (j+1)=2 ^ 64-1:=by
  unfold tcI
  rw [if_neg (by decide)]
  decide
 rw [hy] at h1
 rw [Nat.and_two_pow_sub_one_eq_mod] at h1
 have hs:=pow_split j
 obtain ⟨r,hr⟩:∃ r,2 ^ (32*j)=18446744073709551616*r:=⟨2 ^ (32*(j-2)),by
  rw [show 32*j=64+32*(j-2) by omega,Nat.pow_add]⟩
 rw [show j+1-1=j by omega] at h2 h3
 have hr0:0<r:=by
  have:=pow32_pos j
  rw [hr] at this
  omega
 rw [hs,hr] at a1 a3 h1
 rw [hr] at h2 h3
 have e64:(2:Nat) ^ 64=18446744073709551616:=by decide
 rw [e64] at h1
 have hT:=Nat.mod_lt (tcI x (j+1)) (show 0<18446744073709551616 by decide)
 have hTe:=Nat.div_add_mod (tcI x (j+1)) 18446744073709551616
 generalize tcI x (j+1)=T at *
 cases t with
 | true=>
  rw [if_pos rfl] at h1
  omega
 | false=>
  rw [if_neg (by decide)] at h1
  rw [h1]
  cases s1 with
  | true=>
   rw [if_pos rfl] at a3
   omega
  | false=>
   rw [if_neg (by decide)] at a3
   omega
end Go.Proofs.YtihdndaibmgoiaaGreatDoor
namespace Go.Proofs.YtihdndaibmgoiaaGreatDoor.Pz
open Go.Shelf
def Tryz.laysPu14_ren:Go.Shelf.Ren:=⟨fun | 14=>180 | 16=>202 | 17=>203 | 19=>219 | 20=>220 | 21=>221 | 22=>222 | 23=>223 | 24=>224 | 25=>233 | 27=>69 | 26=>234 | 28=>116 | 29=>147 | 30=>174 | 31=>175 | 32=>176 | 33=>177 | 35=>192 | 34=>191 | 36=>193 | 37=>194 | 38=>195 | 39=>212 | 40=>213 | n=>n,fun | 9=>9 | 3=>3 | 22=>44 | 24=>91 | 25=>185 | 4=>4 | 34=>223 | 5=>5 | 36=>98 | 37=>46 | 0=>0 | 39=>224 | 21=>21 | 44=>241 | 47=>140 | 50=>247 | 48=>245 | 2=>2 | 52=>180 | 55=>183 | 59=>195 | 60=>97 | 20=>20 | 61=>196 | 65=>231 | 66=>232 | 67=>94 | n=>n,fun | 0=>7 | 1=>8 | 2=>4 | 3=>5 | 4=>6 | n=>n⟩
theorem Tryz.laysPu14:Go.Proofs.LaysPu.n14 Tryz.prog Tryz.laysPu14_ren:={
 mixed:=by kernel_rfl
 f14:=Tryz.func180.trans (congrArg some (by kernel_rfl))
 f16:=Tryz.func202.trans (congrArg some (by kernel_rfl))
 f17:=Tryz.func203.trans (congrArg some (by kernel_rfl))
 f19:=Tryz.func219.trans (congrArg some (by kernel_rfl))
 f20:=Tryz.func220.trans (congrArg some (by kernel_rfl))
 f21:=Tryz.func221.trans (congrArg some (by kernel_rfl))
 f22:=Tryz.func222.trans (congrArg some (by kernel_rfl))
 f23:=Tryz.func223.trans (congrArg some (by kernel_rfl))
 f24:=Tryz.func224.trans (congrArg some (by kernel_rfl))
 f25:=Tryz.func233.trans (congrArg some (by kernel_rfl))
 f26:=Tryz.func234.trans (congrArg some (by kernel_rfl))
 f27:=Tryz.func69.trans (congrArg some (by kernel_rfl))
 f28:=Tryz.func116.trans (congrArg some (by kernel_rfl))
 f29:=Tryz.func147.trans (congrArg some (by kernel_rfl))
 f30:=Tryz.func174.trans (congrArg some (by kernel_rfl))
 f31:=Tryz.func175.trans (congrArg some (by kernel_rfl))
 f32:=Tryz.func176.trans (congrArg some (by kernel_rfl))
 f33:=Tryz.func177.trans (congrArg some (by kernel_rfl))
 f34:=Tryz.func191.trans (congrArg some (by kernel_rfl))
 f35:=Tryz.func192.trans (congrArg some (by kernel_rfl))
 f36:=Tryz.func193.trans (congrArg some (by kernel_rfl))
 f37:=Tryz.func194.trans (congrArg some (by kernel_rfl))
 f38:=Tryz.func195.trans (congrArg some (by kernel_rfl))
 f39:=Tryz.func212.trans (congrArg some (by kernel_rfl))
 f40:=Tryz.func213.trans (congrArg some (by kernel_rfl))
 t0:=Tryz.underlying0
 a0:=Tryz.isAgg0
 z0:=Tryz.sizeOf0
 v0:=Tryz.zeroValue0
 i0:=by kernel_rfl
 t2:=Tryz.underlying2
 a2:=Tryz.isAgg2
 z2:=Tryz.sizeOf2
 v2:=Tryz.zeroValue2
 i2:=by kernel_rfl
 t3:=Tryz.underlying3
 a3:=Tryz.isAgg3
 z3:=Tryz.sizeOf3
 v3:=Tryz.zeroValue3
 i3:=by kernel_rfl
 t4:=Tryz.underlying4
 a4:=Tryz.isAgg4
 z4:=Tryz.sizeOf4
 v4:=Tryz.zeroValue4
 i4:=by kernel_rfl
 t5:=Tryz.underlying5
 a5:=Tryz.isAgg5
 z5:=Tryz.sizeOf5
 v5:=Tryz.zeroValue5
 i5:=by kernel_rfl
 t9:=Tryz.underlying9
 a9:=Tryz.isAgg9
 z9:=Tryz.sizeOf9
 v9:=Tryz.zeroValue9
 i9:=by kernel_rfl
 t20:=Tryz.underlying20
 a20:=Tryz.isAgg20
 z20:=Tryz.sizeOf20
 v20:=Tryz.zeroValue20
 i20:=by kernel_rfl
 t21:=Tryz.underlying21
 a21:=Tryz.isAgg21
 z21:=Tryz.sizeOf21
 v21:=Tryz.zeroValue21
 i21:=by kernel_rfl
 t22:=Tryz.underlying44
 a22:=Tryz.isAgg44
 z22:=Tryz.sizeOf44
 v22:=Tryz.zeroValue44
 i22:=by kernel_rfl
 t24:=Tryz.underlying91
 a24:=Tryz.isAgg91
 z24:=Tryz.sizeOf91
 v24:=Tryz.zeroValue91
 i24:=by kernel_rfl
 t25:=Tryz.underlying185
 a25:=Tryz.isAgg185
 z25:=Tryz.sizeOf185
 v25:=Tryz.zeroValue185
 i25:=by kernel_rfl
 t34:=Tryz.underlying223
 a34:=Tryz.isAgg223
 z34:=Tryz.sizeOf223
 v34:=Tryz.zeroValue223
 i34:=by kernel_rfl
 c34:=by kernel_rfl
 t36:=Tryz.underlying98
 a36:=Tryz.isAgg98
 z36:=Tryz.sizeOf98
 v36:=Tryz.zeroValue98
 i36:=by kernel_rfl
 t37:=Tryz.underlying46
 a37:=Tryz.isAgg46
 z37:=Tryz.sizeOf46
 v37:=Tryz.zeroValue46
 i37:=by kernel_rfl
 t39:=Tryz.underlying224
 a39:=Tryz.isAgg224
 z39:=Tryz.sizeOf224
 v39:=Tryz.zeroValue224
 i39:=by kernel_rfl
 t44:=Tryz.underlying241
 a44:=Tryz.isAgg241
 z44:=Tryz.sizeOf241
 v44:=Tryz.zeroValue241
 i44:=by kernel_rfl
 t47:=Tryz.underlying140
 a47:=Tryz.isAgg140
 z47:=Tryz.sizeOf140
 v47:=Tryz.zeroValue140
 i47:=by kernel_rfl
 t48:=Tryz.underlying245
 a48:=Tryz.isAgg245
 z48:=Tryz.sizeOf245
 v48:=Tryz.zeroValue245
 i48:=by kernel_rfl
 t50:=Tryz.underlying247
 a50:=Tryz.isAgg247
 z50:=Tryz.sizeOf247
 v50:=Tryz.zeroValue247
 i50:=by kernel_rfl
 t52:=Tryz.underlying180
 a52:=Tryz.isAgg180
 z52:=Tryz.sizeOf180
 v52:=Tryz.zeroValue180
 i52:=by kernel_rfl
 t55:=Tryz.underlying183
 a55:=Tryz.isAgg183
 z55:=Tryz.sizeOf183
 v55:=Tryz.zeroValue183
 i55:=by kernel_rfl
 t59:=Tryz.underlying195
 a59:=Tryz.isAgg195
 z59:=Tryz.sizeOf195
 v59:=Tryz.zeroValue195
 i59:=by kernel_rfl
 t60:=Tryz.underlying97
 a60:=Tryz.isAgg97
 z60:=Tryz.sizeOf97
 v60:=Tryz.zeroValue97
 i60:=by kernel_rfl
 t61:=Tryz.underlying196
 a61:=Tryz.isAgg196
 z61:=Tryz.sizeOf196
 t65:=Tryz.underlying231
 a65:=Tryz.isAgg231
 z65:=Tryz.sizeOf231
 v65:=Tryz.zeroValue231
 i65:=by kernel_rfl
 t66:=Tryz.underlying232
 a66:=Tryz.isAgg232
 z66:=Tryz.sizeOf232
 v66:=Tryz.zeroValue232
 i66:=by kernel_rfl
 t67:=Tryz.underlying94
 a67:=Tryz.isAgg94
 z67:=Tryz.sizeOf94
 v67:=Tryz.zeroValue94
 i67:=by kernel_rfl
 g0:=by kernel_rfl
 m0:=by kernel_rfl
 g1:=by kernel_rfl
 m1:=by kernel_rfl
 g2:=by kernel_rfl
 m2:=by kernel_rfl
 g3:=by kernel_rfl
 m3:=by kernel_rfl
 g4:=by kernel_rfl
 m4:=by kernel_rfl }
open Go.RowKit in
theorem Tryz.strconv_ParseUint_10_at64_ok (s:ByteArray) (hmax:s.size≤9223372036854775806) (u:Nat) (h:Lib.parseUintB 64 s.data.toList=.ok u) (w:World) :
  Calls Tryz.prog 180 #[.string s,.int .i64 10,.int .i64 64] w fun e w'=>e=.returned (.tuple #[.int .u64 u,.nilIface])∧(w'=w∨w'=Lib.bytesWorld w 5 s):=Any.strconv_ParseUint_10_at64_ok Tryz.laysPu14 s hmax u h w
end Go.Proofs.YtihdndaibmgoiaaGreatDoor.Pz
namespace Go.Proofs.YtihdndaibmgoiaaGreatDoor.Pz
open Go.RowKit
theorem numFrom_ge (l:Str):∀ a,a≤numFrom 10 a l:=by
 induction l with
 | nil=>exact fun a=>Nat.le_refl _
 | cons c t ih=>
  intro a
  have h1:numFrom 10 a (c::t)=numFrom 10 (a*10+valOf c) t:=rfl
  rw [h1]
  have:=ih (a*10+valOf c)
  omega
theorem pu_go (l:Str):∀ a,(∀ c∈l,valOf c<10)→numFrom 10 a l≤18446744073709551615→Lib.parseUintM 18446744073709551615 a l=.ok (numFrom 10 a l):=by
 induction l with
 | nil=>exact fun a _ _=>rfl
 | cons c t ih=>
  intro a hd hm
  have h1:numFrom 10 a (c::t)=numFrom 10 (a*10+valOf c) t:=rfl
  rw [h1] at hm ⊢
  have hge:=numFrom_ge t (a*10+valOf c)
  have hc:=hd c (List.mem_cons_self ..)
  have hv:valOf c=if 48≤c.toNat∧c.toNat≤57 then c.toNat-48
   else if 97≤c.toNat∧c.toNat≤122 then c.toNat-97+10
   else if 65≤c.toNat∧c.toNat≤90 then c.toNat-65+10
   else 36:=rfl
  have hr:48≤c.toNat∧c.toNat≤57:=by
   rw [hv] at hc
   revert hc
   split
   ·exact fun _=>by assumption
   ·split
    ·omega
    ·split<;>omega
  rw [if_pos hr] at hv
  rw [Lib.parseUintM,if_pos hr,if_neg (by omega),← hv,if_neg (by omega)]
  exact ih _ (fun c h=>hd c (List.mem_cons_of_mem _ h)) hm
theorem pu_text (n:Nat) (h:n≤18446744073709551615):Lib.parseUintB 64 (numText 10 n false)=.ok n:=by
 unfold numText
 by_cases h0:n=0
 ·subst h0
  decide
 ·rw [if_neg h0,if_neg (by decide)]
  have he:=strOf_isEmpty 10 n (by decide)
  rw [decide_eq_false h0] at he
  unfold Lib.parseUintB
  rw [if_neg (by intro e;rw [e] at he;cases he)]
  have h9:=pu_go (strOf 10 n) 0 (strOf_digits 10 n (by decide) (by decide)) (by have:=numOf_strOf 10 n (by decide) (by decide);unfold numOf at this;rw [this];exact h)
  have h8:=numOf_strOf 10 n (by decide) (by decide)
  unfold numOf at h8
  rw [h8] at h9
  exact h9
def v64V (r:Sum Int Nat):Value:=match r with
 | .inl e=>.tuple #[.int .u64 0,.int .i64 e]
 | .inr v=>.tuple #[.int .u64 (v:Nat),.int .i64 0]
def mask64:Str:=[48,120,102,102,102,102,102,102,102,102,102,102,102,102,102,102,102,102]
theorem mask_ok:pOK mask64=true:=by decide
theorem mask_val:pVal mask64=18446744073709551615:=by decide
theorem mask_small:(pVal mask64).natAbs<big600:=by rw [mask_val];decide
theorem and_mask (w:Str):andRes w mask64=match v64 w with
  | .inl 4=>([],4)
  | .inl _=>([],2)
  | .inr v=>(numText 10 v false,0):=by
 unfold andRes twoRes v64
 rw [mask_val,bitI_mask]
 cases hk:pOK w with
 | false=>
  rw [if_neg (by simp),if_neg (by simp)]
  rfl
 | true=>
  rw [if_pos ⟨rfl,mask_ok⟩,if_neg (by simp),if_pos rfl]
  by_cases hb:big600≤(pVal w).natAbs
  ·rw [if_pos (.inl hb),if_pos hb]
   rfl
  ·have hm:=mask_small
   rw [mask_val] at hm
   rw [if_neg (by rintro (h | h)<;>omega),if_neg hb]
   have h1:0≤pVal w % 18446744073709551616:=Int.emod_nonneg _ (by decide)
   have h2:pVal w % 18446744073709551616<18446744073709551616:=Int.emod_lt_of_pos _ (by decide)
   have h3:(18446744073709551616:Nat)≤big600:=by decide
   generalize pVal w % 18446744073709551616=z at *
   unfold resOf
   rw [if_pos (by omega),decide_eq_false (by omega)]
   have:z.natAbs=z.toNat:=by omega
   rw [this]
theorem v64_cases (w:Str):v64 w=.inl 4∨v64 w=.inl 11∨∃ v:Nat,v64 w=.inr v∧v≤18446744073709551615:=by
 unfold v64
 split
 ·split
  ·exact .inl rfl
  ·refine .inr (.inr ⟨_,rfl,?_⟩)
   have h1:0≤pVal w % 18446744073709551616:=Int.emod_nonneg _ (by decide)
   have h2:pVal w % 18446744073709551616<18446744073709551616:=Int.emod_lt_of_pos _ (by decide)
   omega
 ·exact .inr (.inl rfl)
theorem below_bytes {B:Nat} {w:World} {T:TypeId} (hB:B≤w.heap.size) (s:ByteArray):Below B w (Lib.bytesWorld w T s):=(Lib.bytesWorld_below w T s).mono hB
set_option maxRecDepth 100000 in
set_option maxHeartbeats 1000000 in
theorem bits64_fn (s:Str) (hs:s.length≤1000000) (w:World):Calls Tryz.prog 150 #[.string ⟨s.toArray⟩] w fun e w'=>e=.returned (v64V (v64 s))∧Below w.heap.size w w':=by
 have hc:=and_fn s mask64 (by omega) (by decide) w
 rw [and_mask] at hc
 have hmk:(⟨mask64.toArray⟩:ByteArray)=⟨#[48,120,102,102,102,102,102,102,102,102,102,102,102,102,102,102,102,102]⟩:=rfl
 rw [hmk] at hc
 rcases v64_cases s with h | h | ⟨v,h,hv⟩
 ·rw [h] at hc ⊢
  have HC:=hid hc
  clear hc hmk h
  go_enter Tryz.func150,Tryz.ntmps150
  go_wp2_with ((with_reducible refine HC.out.mono ?_);rintro e w1 ⟨rfl,hb1⟩;have HB1:=hid hb1;clear hb1)
  go_ret2
  exact ⟨rfl,HB1.out⟩
 ·rw [h] at hc ⊢
  have HC:=hid (show Calls Tryz.prog 179 _ w fun e w'=>e=.returned (.tuple #[.string ⟨#[]⟩,.int .i64 2])∧Below w.heap.size w w' from hc)
  clear hc hmk h
  go_enter Tryz.func150,Tryz.ntmps150
  go_wp2_with ((with_reducible refine HC.out.mono ?_);rintro e w1 ⟨rfl,hb1⟩;have HB1:=hid hb1;clear hb1)
  go_ret2
  exact ⟨rfl,HB1.out⟩
 ·rw [h] at hc ⊢
  dsimp only at hc
  have hsz:(⟨(numText 10 v false).toArray⟩:ByteArray).size≤9223372036854775806:=by
   have h1:=(nlen_le_iff v 2).2 (by omega)
   have h2:=dlen_bound 10 v (by decide)
   rw [Lib.size_mk]
   unfold numText
   split
   ·simp
   ·rw [if_neg (by decide),strOf_length]
    omega
  have hp:=fun w=>Tryz.strconv_ParseUint_10_at64_ok ⟨(numText 10 v false).toArray⟩ hsz v (pu_text v hv) w
  have HC:=hid hc
  have HP:=hid hp
  clear hc hmk h hp hsz
  generalize (⟨(numText 10 v false).toArray⟩:ByteArray)=tx at *
  go_enter Tryz.func150,Tryz.ntmps150
  go_wp2_with (first|((with_reducible refine HC.out.mono ?_);rintro e w1 ⟨rfl,hb1⟩;have HB1:=hid hb1;clear hb1)|((with_reducible refine (HP.out _).mono ?_);rintro e w2 ⟨rfl,hw2⟩;have HW2:=hid hw2;clear hw2))
  go_ret2
  refine ⟨rfl,HB1.out.trans ?_⟩
  have hs1:=HB1.out.size
  rcases HW2.out with rfl | rfl
  ·exact Below.refl _ _
  ·exact below_bytes hs1 _
end Go.Proofs.YtihdndaibmgoiaaGreatDoor.Pz
