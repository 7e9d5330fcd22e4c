/-
  Part K16 of the proofs of this seat, merged by a program out of 4 texts; remarks are struck.
-/
import Derived.Lib.ConvBytes
import Derived.BigQuiet
import Derived.Test.YtihdndaibmgoiaaGreatDoorK7
namespace Go.Proofs.YtihdndaibmgoiaaGreatDoor.Pz
open Go.RowKit
theorem pow_room (z n:Nat) (h:z≤18446744073709551616) (hn:64<n):z<2 ^ n:=by
 have h2:2 ^ 64<2 ^ n:=Nat.pow_lt_pow_right (by decide) hn
 have e:(18446744073709551616:Nat)=2 ^ 64:=by decide
 rw [e] at h
 exact Nat.lt_of_le_of_lt h h2
theorem big_room (z:Int) (h:z.natAbs≤18446744073709551616):z.natAbs<big600:=
 Nat.lt_of_lt_of_le (pow_room z.natAbs 500 h (by decide)) big600_ge
end Go.Proofs.YtihdndaibmgoiaaGreatDoor.Pz
namespace Go.Proofs.YtihdndaibmgoiaaGreatDoor.Pz
def lowE:Nat→Int→Str
 | 0,_=>[]
 | k+1,z=>UInt8.ofNat (z % 256).toNat::lowE k (z / 256)
theorem lowE_len:∀ (k:Nat) (z:Int),(lowE k z).length=k
 | 0,_=>rfl
 | k+1,z=>by rw [lowE,List.length_cons,lowE_len]
theorem low_step (z:Int) (M:Nat) (hM:0<M):(z % ((M*256:Nat):Int)).toNat % 256=(z % 256).toNat∧(z % ((M*256:Nat):Int)).toNat / 256=(z / 256 % (M:Int)).toNat:=by
 obtain ⟨q,hq⟩:∃ q,q=z / 256:=⟨_,rfl⟩
 obtain ⟨r,hr⟩:∃ r,r=z % 256:=⟨_,rfl⟩
 obtain ⟨a,ha⟩:∃ a,a=q / (M:Int):=⟨_,rfl⟩
 obtain ⟨b,hb⟩:∃ b,b=q % (M:Int):=⟨_,rfl⟩
 have h1:z=256*q+r:=by omega
 have h2:(M:Int)*a+b=q:=by rw [ha,hb];exact Int.mul_ediv_add_emod q M
 have h3:0≤b:=by rw [hb];exact Int.emod_nonneg _ (by omega)
 have h4:b<(M:Int):=by rw [hb];exact Int.emod_lt_of_pos _ (by omega)
 have h5:z=(256*b+r)+((M*256:Nat):Int)*a:=by
  have e:((M*256:Nat):Int)*a=256*((M:Int)*a):=by rw [Int.natCast_mul,Int.mul_assoc,Int.mul_comm (M:Int),Int.mul_assoc,Int.mul_comm a];rfl
  rw [e]
  omega
 have h6:z % ((M*256:Nat):Int)=256*b+r:=by
  rw [h5,Int.add_mul_emod_self_left]
  exact Int.emod_eq_of_lt (by omega) (by omega)
 rw [h6,← hr,← hq,← hb]
 omega
theorem bytes_low:∀ (k m:Nat) (z:Int),k≤m→bytesLE k (z % ((256 ^ m:Nat):Int)).toNat=lowE k z
 | 0,_,_,_=>rfl
 | k+1,0,_,h=>absurd h (by omega)
 | k+1,m+1,z,h=>by
  have hs:=low_step z (256 ^ m) (Nat.pow_pos (by decide))
  rw [Nat.pow_succ,bytesLE,lowE,hs.1,hs.2,bytes_low k m (z / 256) (by omega)]
theorem v64_low {w:Str} {v:Nat} (h:v64 w=.inr v):pOK w=true∧(pVal w).natAbs<big600∧∀ k,k≤8→bytesLE k v=lowE k (pVal w):=by
 unfold v64 at h
 split at h
 ·rename_i h1
  split at h
  ·cases h
  ·rename_i h2
   have h3:=Sum.inr.inj h
   exact ⟨h1,by omega,fun k hk=>by rw [← h3];exact bytes_low k 8 (pVal w) hk⟩
 ·cases h
def badW (w:Str):Int:=match v64 w with | .inl e=>e | .inr _=>0
def badsE:List Str→Int
 | []=>0
 | w::t=>if badW w=0 then badsE t else badW w
def encW (c:UInt8) (w:Str):Str:=ordE (highL c) (lowE (widthL c) (pVal w))
def encs (c:UInt8):List Str→Str
 | []=>[]
 | w::t=>encW c w++encs c t
theorem encW_len (c:UInt8) (w:Str):(encW c w).length=widthL c:=by
 unfold encW ordE
 split
 ·rw [List.length_reverse,lowE_len]
 ·rw [lowE_len]
theorem encs_len (c:UInt8):∀ l:List Str,(encs c l).length=widthL c*l.length
 | []=>rfl
 | w::t=>by rw [encs,List.length_append,encW_len,encs_len c t,List.length_cons,Nat.mul_succ,Nat.add_comm]
theorem encs_snoc (c:UInt8):∀ (l:List Str) (w:Str),encs c (l++[w])=encs c l++encW c w
 | [],w=>by show encW c w++[]=[]++encW c w;simp
 | x::t,w=>by
  show encW c x++encs c (t++[w])=(encW c x++encs c t)++encW c w
  rw [encs_snoc c t w,List.append_assoc]
theorem badsE_snoc:∀ (l:List Str) (w:Str),badsE (l++[w])=if badsE l=0 then badW w else badsE l
 | [],w=>by
  show (if badW w=0 then 0 else badW w)=if (0:Int)=0 then badW w else 0
  rw [if_pos rfl]
  split
  ·rename_i h;exact h.symm
  ·rfl
 | x::t,w=>by
  show (if badW x=0 then badsE (t++[w]) else badW x)=if (if badW x=0 then badsE t else badW x)=0 then badW w else (if badW x=0 then badsE t else badW x)
  by_cases h:badW x=0
  ·rw [if_pos h,if_pos h,badsE_snoc t w]
  ·rw [if_neg h,if_neg h,if_neg h]
theorem badsE_app:∀ (l m:List Str),badsE (l++m)=if badsE l=0 then badsE m else badsE l
 | [],m=>by show badsE m=if (0:Int)=0 then badsE m else 0;rw [if_pos rfl]
 | x::t,m=>by
  show (if badW x=0 then badsE (t++m) else badW x)=if (if badW x=0 then badsE t else badW x)=0 then badsE m else (if badW x=0 then badsE t else badW x)
  by_cases h:badW x=0
  ·rw [if_pos h,if_pos h,badsE_app t m]
  ·rw [if_neg h,if_neg h,if_neg h]
theorem bads_take {l:List Str} (h:badsE l=0) (n:Nat):badsE (l.take n)=0:=by
 have e:=badsE_app (l.take n) (l.drop n)
 rw [List.take_append_drop,h] at e
 split at e
 ·assumption
 ·exact e.symm
theorem bads_mem:∀ {l:List Str},badsE l=0→∀ w∈l,badW w=0
 | x::t,h,w,hw=>by
  have h':(if badW x=0 then badsE t else badW x)=0:=h
  by_cases hx:badW x=0
  ·rw [if_pos hx] at h'
   rcases List.mem_cons.1 hw with rfl | hw
   ·exact hx
   ·exact bads_mem h' w hw
  ·rw [if_neg hx] at h'
   exact absurd h' hx
theorem numsGo_eq (c:UInt8) (n:Nat):∀ (ws:List Str) (i:Nat) (out:Str),numsGo c n i ws out=if badsE ws=0 then .inr (out++encs c (ws.take (n-i))) else .inl (badsE ws)
 | [],i,out=>by
  show Sum.inr out=if (0:Int)=0 then _ else _
  rw [if_pos rfl,List.take_nil]
  show _=Sum.inr (out++[])
  rw [List.append_nil]
 | w::t,i,out=>by
  have e:numsGo c n i (w::t) out=match v64 w with
   | .inl e=>.inl e
   | .inr v=>numsGo c n (i+1) t (if i<n then out++ordE (highL c) (bytesLE (widthL c) v) else out):=rfl
  rw [e]
  show _=if (if badW w=0 then badsE t else badW w)=0 then _ else Sum.inl (if badW w=0 then badsE t else badW w)
  unfold badW
  rcases v64_cases w with h | h | ⟨v,h,_⟩
  ·rw [h];rfl
  ·rw [h];rfl
  ·rw [h]
   dsimp only
   rw [if_pos rfl,numsGo_eq c n t (i+1),(v64_low h).2.2 _ (widthL_le c)]
   by_cases hi:i<n
   ·rw [if_pos hi,show n-i=n-(i+1)+1 by omega,List.take_succ_cons]
    show _=if badsE t=0 then Sum.inr (out++(ordE (highL c) (lowE (widthL c) (pVal w))++encs c (t.take (n-(i+1))))) else _
    rw [List.append_assoc]
   ·rw [if_neg hi,show n-i=0 by omega,show n-(i+1)=0 by omega,List.take_zero,List.take_zero]
theorem numberedE_eq (f:Fld) (arg:Str):numberedE f arg =
  if f.count = -1 then (if badsE [arg]=0 then .inr (encs f.letter [arg]) else .inl (badsE [arg]))
  else if f.count≠-2∧((wordsE arg).length:Int)<f.count then .inl 11
  else if badsE (wordsE arg)=0 then .inr (encs f.letter (if f.count = -2 then wordsE arg else (wordsE arg).take f.count.toNat)) else .inl (badsE (wordsE arg)):=by
 unfold numberedE
 simp only [numsGo_eq]
 by_cases h1:f.count = -1
 ·rw [if_pos h1,if_pos h1]
  rfl
 ·rw [if_neg h1,if_neg h1]
  by_cases h2:f.count = -2
  ·rw [if_pos h2,if_neg (show ¬ (f.count≠-2∧((wordsE arg).length:Int)<f.count) from fun h=>h.1 h2),if_pos h2,Nat.sub_zero,List.take_of_length_le (Nat.le_refl _),List.nil_append]
  ·rw [if_neg h2]
   by_cases h3:((wordsE arg).length:Int)<f.count
   ·rw [if_pos h3,if_pos ⟨h2,h3⟩]
   ·rw [if_neg h3,if_neg (show ¬ (f.count≠-2∧((wordsE arg).length:Int)<f.count) from fun h=>h3 h.2),if_neg h2,Nat.sub_zero,List.nil_append]
theorem words_skip:∀ l:Str,wordsGo [] l=wordsGo [] (l.dropWhile white)
 | []=>rfl
 | c::t=>by
  cases h:white c with
  | true=>rw [List.dropWhile_cons_of_pos h,wordsGo_cons,if_pos h,if_pos rfl];exact words_skip t
  | false=>rw [List.dropWhile_cons_of_neg (by simp [h])]
theorem words_run:∀ (q p r:Str),(∀ c∈q,white c=false)→wordsGo p (q++r)=wordsGo (p++q) r
 | [],p,r,_=>by simp
 | c::q,p,r,h=>by
  rw [List.cons_append,wordsGo_cons,if_neg (by simp [h c (by simp)]),words_run q (p++[c]) r fun x hx=>h x (by simp [hx])]
  simp
theorem words_end (p r:Str) (hp:p≠[]) (hr:r=[]∨∃ c t,r=c::t∧white c=true):wordsGo p r=p::wordsGo [] r:=by
 rcases hr with rfl | ⟨c,t,rfl,hc⟩
 ·show (if p=[] then [] else [p])=_
  rw [if_neg hp]
  rfl
 ·rw [wordsGo_cons,if_pos hc,if_neg hp,wordsGo_cons,if_pos hc,if_pos rfl]
def lengthGo:List Fld→Nat→Nat→Option Nat
 | [],_,e=>some e
 | f::fs,a,e=>
  if f.letter == 64 then lengthGo fs (if f.count = -2 then e else f.count.toNat) (max e (if f.count = -2 then e else f.count.toNat))
  else if f.count = -2∧f.letter≠120 then none
  else lengthGo fs (a+lenL f.letter (oneC f)) (max e (a+lenL f.letter (oneC f)))
def lenV:Option Nat→Int×Int
 | none=>(0,7)
 | some n=>((n:Nat),0)
def lengthRes (s:Str):Int×Int:=if validE s then lenV (lengthGo (fldsE s) 0 0) else (0,2)
theorem text_len {f:Fld} {x y:Str} (ht:textL f.letter=true) (h2:f.count≠-2) (h:textedE f x=some y):y.length=lenL f.letter (oneC f):=by
 have hc:cntT f x=oneC f:=by unfold cntT;rw [if_neg h2]
 unfold textedE at h
 rw [hc] at h
 split at h
 ·rename_i h1
  have e:=Option.some.inj h
  rw [← e,List.length_append,List.length_take,List.length_replicate]
  have h3:lenL f.letter (oneC f)=oneC f:=by
   rw [Bool.or_eq_true,beq_iff_eq,beq_iff_eq] at h1
   rcases h1 with h1 | h1<;>rw [h1]<;>(show max 1 0*oneC f=oneC f;rw [show max 1 0=1 from rfl,Nat.one_mul])
  rw [h3]
  omega
 ·rw [digE_len _ _ _ _ _ _ h,List.length_replicate]
theorem num_width {c:UInt8} (hk:knownL c=true) (ht:textL c=false) (h120:c≠120) (h64:c≠64):1≤widthL c:=by
 unfold knownL at hk
 rw [ht,beq_eq_false_iff_ne.2 h120,beq_eq_false_iff_ne.2 h64] at hk
 have h:0<widthL c:=by simpa using hk
 exact h
theorem lenL_num {c:UInt8} (hw:1≤widthL c) (n:Nat):lenL c n=widthL c*n:=by
 have hne:c≠104∧c≠72∧c≠98∧c≠66:=by
  refine ⟨?_,?_,?_,?_⟩<;>(rintro rfl;exact absurd hw (by decide))
 unfold lenL
 rw [beq_eq_false_iff_ne.2 hne.1,beq_eq_false_iff_ne.2 hne.2.1,beq_eq_false_iff_ne.2 hne.2.2.1,beq_eq_false_iff_ne.2 hne.2.2.2,if_neg (by simp),if_neg (by simp),Nat.max_eq_right hw]
theorem one_len {f:Fld} {x y:Str} (hf:FldOk f) (h120:f.letter≠120) (h64:f.letter≠64) (h2:f.count≠-2) (h:packOne f x=.inr y):y.length=lenL f.letter (oneC f):=by
 unfold packOne at h
 cases ht:textL f.letter with
 | true=>
  rw [ht,if_pos rfl] at h
  cases hx:textedE f x with
  | none=>rw [hx] at h;cases h
  | some z=>
   rw [hx] at h
   rw [← Sum.inr.inj h]
   exact text_len ht h2 hx
 | false=>
  rw [ht,if_neg (by simp),numberedE_eq] at h
  have hw:=num_width hf.1 ht h120 h64
  rw [lenL_num hw]
  have hcr:=hf.2.2
  split at h
  ·rename_i h1
   split at h
   ·rw [← Sum.inr.inj h,encs_len]
    show widthL f.letter*1=widthL f.letter*oneC f
    rw [show oneC f=1 by unfold oneC;rw [if_pos (by omega)]]
   ·cases h
  ·rename_i h1
   split at h
   ·cases h
   ·rename_i h3
    split at h
    ·rw [← Sum.inr.inj h,encs_len,List.length_take]
     have h4:¬ ((wordsE x).length:Int)<f.count:=fun h4=>h3 ⟨h2,h4⟩
     rw [show oneC f=f.count.toNat by unfold oneC;rw [if_neg (by omega)],Nat.min_eq_left (by omega)]
    ·cases h
theorem pack_len:∀ (fs:List Fld) (args:List Str) (b r:Str) (k:Nat),(∀ f∈fs,FldOk f)→(∀ f∈fs,f.letter≠64)→packGo fs args b b.length=.inr r→lengthGo fs b.length b.length=some k→r.length=k
 | [],args,b,r,k,_,_,hp,hl=>by
  rw [packGo] at hp
  rw [lengthGo] at hl
  rw [← Sum.inr.inj hp]
  exact Option.some.inj hl
 | f::fs,args,b,r,k,hok,h64,hp,hl=>by
  have hf:=hok f (by simp)
  have hf64:=h64 f (by simp)
  have e64:(f.letter == 64)=false:=beq_eq_false_iff_ne.2 hf64
  have ho:=fun g hg=>hok g (List.mem_cons_of_mem _ hg)
  have hn:=fun g hg=>h64 g (List.mem_cons_of_mem _ hg)
  rw [lengthGo,e64,if_neg (by simp)] at hl
  by_cases h120:f.letter=120
  ·rw [packGo.eq_def] at hp
   dsimp only at hp
   rw [e64,if_neg (by simp),beq_iff_eq.2 h120,if_pos rfl] at hp
   split at hp
   ·cases hp
   ·rw [if_neg (by simp [h120]),h120] at hl
    have hq:lenL 120 (oneC f)=oneC f:=by show max 1 0*oneC f=oneC f;rw [show max 1 0=1 from rfl,Nat.one_mul]
    have hlen:(putE b b.length (List.replicate (oneC f) 0)).length=b.length+oneC f:=by rw [putE_len,List.length_replicate];omega
    rw [hq,Nat.max_eq_right (by omega),← hlen] at hl
    rw [← hlen] at hp
    exact pack_len fs args _ r k ho hn hp hl
  ·have e120:(f.letter == 120)=false:=beq_eq_false_iff_ne.2 h120
   split at hl
   ·cases hl
   ·rename_i h2
    have hc2:f.count≠-2:=fun h=>h2 ⟨h,h120⟩
    cases args with
    | nil=>
     rw [packGo.eq_def] at hp
     dsimp only at hp
     rw [e64,if_neg (by simp),e120,if_neg (by simp)] at hp
     cases hp
    | cons x args=>
     rw [packGo.eq_def] at hp
     dsimp only at hp
     rw [e64,if_neg (by simp),e120,if_neg (by simp)] at hp
     cases h1:packOne f x with
     | inl e=>rw [h1] at hp;cases hp
     | inr y=>
      rw [h1] at hp
      dsimp only at hp
      split at hp
      ·cases hp
      ·have hy:=one_len hf h120 hf64 hc2 h1
       have hlen:(putE b b.length y).length=b.length+y.length:=by rw [putE_len];omega
       rw [← hy,Nat.max_eq_right (by omega),← hlen] at hl
       rw [← hlen] at hp
       exact pack_len fs args _ r k ho hn hp hl
theorem flds_letters:∀ (n:Nat) (l:Str),l.length≤n→∀ f∈fldsE l,f=noFld∨f.letter∈l
 | _,[],_,f,hf=>by rw [fldsE_nil] at hf;simp at hf
 | 0,c::t,h,_,_=>absurd h (by simp)
 | n+1,c::t,h,f,hf=>by
  have ht:t.length≤n:=by simpa using h
  by_cases hw:c=32
  ·rw [fldsE_blank hw] at hf
   rcases flds_letters n t ht f hf with h1 | h1
   ·exact .inl h1
   ·exact .inr (List.mem_cons_of_mem _ h1)
  ·cases hg:(fldE c t).2.1 with
   | true=>
    rw [fldsE_good hw hg] at hf
    have hsl:=suf_len (fldE_suf c t)
    rcases List.mem_cons.1 hf with h1 | h1
    ·exact .inr (by rw [h1];exact List.mem_cons_self ..)
    ·rcases flds_letters n (fldE c t).2.2 (by omega) f h1 with h2 | h2
     ·exact .inl h2
     ·exact .inr (List.mem_cons_of_mem _ ((fldE_suf c t).subset h2))
   | false=>
    rw [fldsE_bad hw hg] at hf
    exact .inl (by simpa using hf)
theorem no_at {l:Str} (hv:validE l=true) (h:(64:UInt8) ∉ l):∀ f∈fldsE l,f.letter≠64:=by
 intro f hf h64
 rcases flds_letters _ l (Nat.le_refl _) f hf with h1 | h1
 ·rw [h1] at h64;exact absurd h64 (by decide)
 ·rw [h64] at h1;exact h h1
theorem packGo_ne:∀ (fs:List Fld) (args:List Str) (b:Str) (a:Nat) (e:Int),packGo fs args b a=.inl e→e≠0
 | [],args,b,a,e,h=>by rw [packGo] at h;cases h
 | f::fs,args,b,a,e,h=>by
  rw [packGo_cons] at h
  dsimp only at h
  by_cases c1:(f.letter == 64)=true
  ·rw [if_pos c1] at h
   by_cases c2:65536<(putE b (if f.count = -2 then b.length else f.count.toNat) []).length
   ·rw [if_pos c2] at h;cases h;decide
   ·rw [if_neg c2] at h;exact packGo_ne fs _ _ _ _ h
  ·rw [if_neg c1] at h
   by_cases c3:(f.letter == 120)=true
   ·rw [if_pos c3] at h
    split at h
    ·cases h;decide
    ·exact packGo_ne fs _ _ _ _ h
   rw [if_neg c3] at h
   cases args with
   | nil=>dsimp only at h;cases h;decide
   | cons x args=>
    dsimp only at h
    cases h1:packOne f x with
    | inl z=>rw [h1] at h;rw [← Sum.inl.inj h];exact packOne_ne h1
    | inr y=>
     rw [h1] at h
     dsimp only at h
     split at h
     ·cases h;decide
     ·exact packGo_ne fs _ _ _ _ h
theorem packed_length {l:Str} {args:List Str} {k:Int} (h1:(packRes l args).2=0) (h2:lengthRes l=(k,0)) (h:(64:UInt8) ∉ l):((packRes l args).1.length:Int)=k:=by
 unfold packRes at h1 ⊢
 unfold lengthRes at h2
 split at h1
 ·rename_i hp
  rw [if_pos hp]
  have hv:=packing_valid hp
  rw [if_pos hv] at h2
  cases hg:packGo (fldsE l) args [] 0 with
  | inl e=>
   rw [hg] at h1
   exact absurd h1 (packGo_ne _ _ _ _ _ hg)
  | inr r=>
   cases hl:lengthGo (fldsE l) 0 0 with
   | none=>rw [hl] at h2;simp [lenV] at h2
   | some n=>
    rw [hl] at h2
    have:=pack_len (fldsE l) args [] r n (valid_ok hv) (no_at hv h) hg hl
    have h3:=congrArg Prod.fst h2
    have h4:((n:Nat):Int)=k:=h3
    dsimp only
    omega
 ·exact absurd h1 (by decide)
end Go.Proofs.YtihdndaibmgoiaaGreatDoor.Pz
namespace Go.Proofs.YtihdndaibmgoiaaGreatDoor.Pz
open Go.RowKit
def RowX (B:Nat) (w:World) (v:Value) (l:Str):Prop:=∃ a c,v=.slice a l.length c∧(∀ g,v.ownBlock=some g→g<w.heap.size∧B≤g)∧∀ i (h:i<l.length),∃ g,a=some ⟨g,0,none⟩∧w.cell? ⟨g,i,none⟩=some (.int .u8 (l[i].toNat:Nat))
theorem RowX.shape {B:Nat} {w:World} {v:Value} {l:Str} (h:RowX B w v l):∃ a c,v=.slice a l.length c:=by
 obtain ⟨a,c,h1,_⟩:=h
 exact ⟨a,c,h1⟩
theorem RowX.lt {B:Nat} {w:World} {v:Value} {l:Str} (h:RowX B w v l):∀ g,v.ownBlock=some g→g<w.heap.size∧B≤g:=by
 obtain ⟨a,c,_,h2,_⟩:=h
 exact h2
theorem RowX.at {B:Nat} {w:World} {a:Option Addr} {n c:Nat} {l:Str} (h:RowX B w (.slice a n c) l) {i:Nat} (hi:i<l.length):∃ g,a=some ⟨g,0,none⟩∧w.cell? ⟨g,i,none⟩=some (.int .u8 (l[i].toNat:Nat)):=by
 obtain ⟨a',c',h1,_,h3⟩:=h
 simp only [Value.slice.injEq] at h1
 obtain ⟨rfl,_,_⟩:=h1
 exact h3 i hi
theorem cell_same {w w':World} {g:Nat} (h:w'.heap[g]? = w.heap[g]?) (i:Nat):w'.cell? ⟨g,i,none⟩=w.cell? ⟨g,i,none⟩:=by
 unfold World.cell?
 rw [h]
theorem RowX.heap {B:Nat} {w w':World} {v:Value} {l:Str} (h:RowX B w v l) (hh:∀ g,v.ownBlock=some g→w'.heap[g]? = w.heap[g]?) (hs:w.heap.size≤w'.heap.size):RowX B w' v l:=by
 obtain ⟨a,c,h1,h2,h3⟩:=h
 refine ⟨a,c,h1,fun g hg=>⟨by have:=(h2 g hg).1;omega,(h2 g hg).2⟩,fun i hi=>?_⟩
 obtain ⟨g,rfl,hc⟩:=h3 i hi
 exact ⟨g,rfl,(cell_same (hh g (by rw [h1];rfl)) i).trans hc⟩
theorem RowX.on {B:Nat} {w w':World} {v:Value} {l:Str} (h:RowX B w v l) (hb:Below w.heap.size w w'):RowX B w' v l:=h.heap (fun g hg=>hb.block g (h.lt g hg).1) hb.size
theorem RowX.mono {B C:Nat} {w:World} {v:Value} {l:Str} (h:RowX B w v l) (hC:C≤B):RowX C w v l:=by
 obtain ⟨a,c,h1,h2,h3⟩:=h
 exact ⟨a,c,h1,fun g hg=>⟨(h2 g hg).1,Nat.le_trans hC (h2 g hg).2⟩,h3⟩
theorem RowY.toX {B:Nat} {w:World} {v:Value} {l:Str} (h:RowY B w v l):RowX B w v l:=by
 obtain ⟨a,c,rfl⟩:=h.shape
 refine ⟨a,c,rfl,h.lt,fun i hi=>?_⟩
 obtain ⟨g,e,_,hc⟩:=h.at hi
 exact ⟨g,e,hc⟩
def RowZ (B:Nat) (w:World) (v:Value) (l:Str):Prop:=∃ g cap cur fz,v=.slice (some ⟨g,0,none⟩) l.length cap∧B≤g∧w.heap[g]? = some (.cells cur 5 fz)∧(cap≤fz.1∨fz.2=0)∧l.length≤cap∧cap≤maxLen∧cur.size=cap∧cur.toList.take l.length=Lib.byteCells l
theorem RowZ.size {B:Nat} {w:World} {v:Value} {l:Str} (h:RowZ B w v l):B<w.heap.size:=by
 obtain ⟨g,cap,cur,fz,_,hB,hg,_⟩:=h
 exact Nat.lt_of_le_of_lt hB (Array.getElem?_eq_some_iff.1 hg).1
theorem RowZ.shape {B:Nat} {w:World} {v:Value} {l:Str} (h:RowZ B w v l):∃ a c,v=.slice a l.length c:=by
 obtain ⟨g,cap,cur,fz,h1,_⟩:=h
 exact ⟨_,_,h1⟩
theorem RowZ.toX {B:Nat} {w:World} {v:Value} {l:Str} (h:RowZ B w v l):RowX B w v l:=by
 obtain ⟨g,cap,cur,fz,rfl,hB,hg,hfz,hl,hm,hs,ht⟩:=h
 refine ⟨_,_,rfl,fun k hk=>?_,fun i hi=>⟨g,rfl,?_⟩⟩
 ·cases hk
  exact ⟨(Array.getElem?_eq_some_iff.1 hg).1,hB⟩
 ·have h1:(cur.toList.take l.length)[i]? = (Lib.byteCells l)[i]?:=by rw [ht]
  rw [List.getElem?_take,if_pos hi] at h1
  rw [cell_of_row w g i cur 5 fz hg,← Array.getElem?_toList,h1]
  simp [Lib.byteCells,hi]
theorem rowZ_new (w:World) (s:Str) (hs:s.length≤1000000):RowZ w.heap.size (Lib.bytesWorld w 5 ⟨s.toArray⟩) (.slice (some ⟨w.heap.size,0,none⟩) s.length (grownCap w s.length 0 5)) s:=by
 have hsz:(⟨s.toArray⟩:ByteArray).size=s.length:=Lib.size_mk _
 have hge:=grownCap_ge w s.length 0 5
 have hml:=grownCap_le_maxLen w s.length 0 5 (by unfold maxLen;omega)
 have hcs:(Lib.bytesCells w 5 ⟨s.toArray⟩).size=grownCap w s.length 0 5:=by
  unfold Lib.bytesCells
  rw [hsz,Array.size_append,Array.size_replicate,Array.size_map]
  show s.toArray.size+_=_
  rw [List.size_toArray]
  omega
 refine ⟨w.heap.size,_,_,_,rfl,Nat.le_refl _,Lib.bytesWorld_at_new _ _ _,.inl (by rw [hcs];exact Nat.le_refl _),hge,hml,hcs,?_⟩
 unfold Lib.bytesCells
 rw [hsz,Array.toList_append]
 have e:(Array.map (fun b:UInt8=>Value.int .u8 b.toNat) s.toArray).toList=Lib.byteCells s:=by
  rw [Array.toList_map]
  rfl
 show ((Array.map (fun b:UInt8=>Value.int .u8 b.toNat) s.toArray).toList++_).take s.length=_
 rw [e,List.take_append_of_le_length (by rw [Lib.byteCells_length];exact Nat.le_refl _),List.take_of_length_le (by rw [Lib.byteCells_length];exact Nat.le_refl _)]
section
variable {P:Program} {w:World}
theorem run_store_oneZ (P:Program) (g o:Nat) (t:TypeId) (fz:Nat×Nat) (v:Value) (cur:Array Value) (w:World) (hg:w.heap[g]? = some (.cells cur t fz)) (hfz:¬ (fz.1≤o∧o<fz.2)) (hl:o<cur.size) (h1:v.oneCell'=true) :
  (storeCells ⟨g,o,none⟩ [v] 0).run P w=.ok () (w.setRow g (cur.setIfInBounds o v)):=by
 have hadd:(⟨g,o,none⟩:Addr).add 0=⟨g,o,none⟩:=by unfold Addr.add;split<;>simp_all
 have hcell:w.cell? ⟨g,o,none⟩=some cur[o]:=by simp [World.cell?,hg,hl]
 have hfro:w.frozen? ⟨g,o,none⟩=false:=by
  obtain ⟨lo,hi'⟩:=fz
  simp only [World.frozen?,hg,Bool.and_eq_false_iff,decide_eq_false_iff_not]
  simp only at hfz
  omega
 have hst:(store ((⟨g,o,none⟩:Addr).add 0) v).run P w=.ok () (w.setRow g (cur.setIfInBounds o v)):=by
  rw [hadd,run_store P w _ v _ h1,hcell]
  simp [hfro,setCell_eq_setRow w g o cur t fz v hg]
 simp only [storeCells,Sem.run_bind,hst,Result.andThen_ok]
 rfl
end
theorem grow_fit (n c:Nat) (h:n≤1000001) (hc:c<n):Builtin.nextslicecap n c*1≤281474976710656:=growslice_fits (by omega) (by omega)
theorem appZ_one {w:World} {N:Nat} (hN:w.heap.size=N) {ops:Array Oper} {rest:List Oper} {o:Oper} {a:Act} {Q:Exit→Act→World→Prop} (hgd:o.guard=none) (s x:Operand)
    (ho:o.op=.call { callee:=.builtin .append,args:=#[s,x],argTypes:=#[46,46] }) (B:Nat) (v:Value) (l:Str) (q:UInt8)
    (hs:a.eval s=v) (hown:RowZ B w v l) (hx:a.eval x=.slice (some ⟨N,0,none⟩) 1 1) (hl:l.length≤1000000)
    (h:∀ v' w',RowZ B w' v' (l++[q])→Below B w w'→wpList Tryz.prog ops Q rest (a.put o.dst v') w') :
    wpList Tryz.prog ops Q (o::rest) a (w.alloc (.cells #[.int .u8 (q.toNat:Nat)] 5)):=by
  obtain ⟨i0,hi,hz0,hz1,hz2⟩:=info_parts Tryz.info5
  subst hN
  have hsz:=hown.size
  obtain ⟨g,cap,cur,fz,rfl,hB,hg,hfz,hlc,hcm,hcs,ht⟩:=hown
  have hgl:=(Array.getElem?_eq_some_iff.1 hg).1
  obtain ⟨w0,hw0⟩:∃ w0,w0=w.alloc (.cells #[.int .u8 (q.toNat:Nat)] 5):=⟨_,rfl⟩
  have hg0:w0.heap[g]? = some (.cells cur 5 fz):=by rw [hw0,Below.heap_alloc _ _ _ hgl];exact hg
  have hs0:w0.heap.size=w.heap.size+1:=by rw [hw0];simp
  have hb0:Below B w w0:=by rw [hw0];exact ((Below.refl _ w).alloc (Nat.le_refl _) _).mono (Nat.le_of_lt hsz)
  have hnews:∀ j u,[Value.int .u8 (q.toNat:Nat)][j]? = some u→w0.cell? ((⟨w.heap.size,0,none⟩:Addr).add j)=some u:=by rw [hw0];exact cell_one_new _ _ _
  rw [← hw0]
  refine wpList_plain hgd fun K hK=>?_
  have hlen:(Lib.byteCells (l++[q])).length=(l.length+1)*1:=by rw [Lib.byteCells_length,List.length_append,Nat.mul_one];rfl
  have hcells:Lib.byteCells l++[Value.int .u8 (q.toNat:Nat)]=Lib.byteCells (l++[q]):=by simp [Lib.byteCells]
  have hll:(l++[q]).length=l.length+1:=by rw [List.length_append];rfl
  have hmain:∃ v' w',(Builtin.append_ #[46,46] o.type #[.slice (some ⟨g,0,none⟩) l.length cap,.slice (some ⟨w.heap.size,0,none⟩) 1 1]).run Tryz.prog w0=.ok v' w'∧RowZ B w' v' (l++[q])∧Below B w0 w':=by
    by_cases hroom:l.length+1≤cap
    · have hf:=run_firstCells_some (P:=Tryz.prog) w0 i0.size 1 ⟨w.heap.size,0,none⟩ 1 1 [Value.int .u8 (q.toNat:Nat)] (by rw [hz1];rfl) hnews
      have hst:=run_store_oneZ Tryz.prog g l.length 5 fz (.int .u8 (q.toNat:Nat)) cur w0 hg0 (by omega) (by omega) rfl
      have hr:(Builtin.append_ #[46,46] o.type #[.slice (some ⟨g,0,none⟩) l.length cap,.slice (some ⟨w.heap.size,0,none⟩) 1 1]).run Tryz.prog w0=.ok (.slice (some ⟨g,0,none⟩) (l.length+1) cap) (w0.setRow g (cur.setIfInBounds l.length (.int .u8 (q.toNat:Nat)))):=by
        rw [hz1] at hf
        simp [Builtin.append_,run_underlying (P:=Tryz.prog) Tryz.underlying46,sizeOf,typeInfo,hi,hz1,Builtin.lenOf,hroom,hf,Addr.add_lit,hst]
      refine ⟨_,_,hr,⟨g,cap,_,fz,by rw [hll],hB,setRow_heap w0 g cur _ 5 _ hg0,hfz,by rw [hll];exact hroom,hcm,by simp [hcs],?_⟩,⟨rfl,rfl,rfl,by simp,fun k hk=>setRow_other w0 g k _ (by omega)⟩⟩
      rw [hll,← hcells,← ht,Array.toList_setIfInBounds,List.take_add_one,List.take_set_of_le (Nat.le_refl _),List.getElem?_set_self (by have h9:cur.toList.length=cur.size:=Array.length_toList;rw [h9,hcs];exact hroom)]
      rfl
    · have holds : ∀ j u, (Lib.byteCells l)[j]? = some u → w0.cell? ((⟨g, 0, none⟩ : Addr).add j) = some u := by
        intro j u hu
        rw [add_none,Nat.zero_add,cell_of_row w0 g j cur 5 fz hg0,← Array.getElem?_toList]
        rw [← ht,List.getElem?_take] at hu
        split at hu
        · exact hu
        · cases hu
      have hr:=run_append_grow (P:=Tryz.prog) w0 46 o.type 5 i0 (.int .u8 0) Tryz.underlying46 hi hz0 ⟨g,0,none⟩ l.length cap (Lib.byteCells l) (by rw [Lib.byteCells_length,hz1,Nat.mul_one]) holds ⟨w.heap.size,0,none⟩ 1 1 [Value.int .u8 (q.toNat:Nat)] (by rw [hz1];rfl) hnews (by omega) (by omega) (by rw [hz2];exact grow_fit _ _ (by omega) (by omega))
      have hge:=grownCap_ge w0 (l.length+1) cap 5
      have hcm2:=grownCap_le_maxLen w0 (l.length+1) cap 5 (by unfold maxLen;omega)
      refine ⟨_,_,hr,⟨w0.heap.size,_,_,(0,0),by rw [hll],by omega,heap_alloc_new w0.drew _,.inr rfl,by rw [hll];exact hge,hcm2,?_,?_⟩,⟨rfl,rfl,rfl,by simp,fun k hk=>heap_alloc_old w0.drew _ (by show k<w0.heap.size;omega)⟩⟩
      · have hzc:(Value.int IntKind.u8 0).cells.size=1:=rfl
        simp only [Array.size_append,List.size_toArray,size_zeroCells,hzc,Lib.byteCells_length,List.length_cons,List.length_nil]
        omega
      · simp only [Array.toList_append,List.append_assoc]
        rw [← List.append_assoc,hll,hcells]
        have hbl:(Lib.byteCells (l++[q])).length=l.length+1:=by rw [Lib.byteCells_length,hll]
        rw [← hbl]
        exact List.take_left
  obtain ⟨v',w',hr,h2,h3⟩:=hmain
  unfold Oper.wp execOp
  simp only [ho,resolve,invoke,builtin,Sem.run_bind,Sem.run_pure,Result.andThen_ok,List.map_toArray,List.map_cons,List.map_nil,hs,hx,hr]
  exact hK _ _ (h v' w' h2 (hb0.trans h3))
end Go.Proofs.YtihdndaibmgoiaaGreatDoor.Pz
namespace Go.Proofs.YtihdndaibmgoiaaGreatDoor.Pz
open Go.RowKit
attribute [local go_sem] Oper.semAt_some
theorem put_eq (bb x:Str) (a:Nat) (b1:Str) (h1:b1=bb++List.replicate (a+x.length-bb.length) 0):b1.take a++x++b1.drop (a+x.length)=putE bb a x:=by
 have hp:putE bb a x=(bb++List.replicate (a-bb.length) 0).take a++x++(bb++List.replicate (a-bb.length) 0).drop (a+x.length):=rfl
 rw [hp,h1]
 by_cases h:bb.length≤a+x.length
 ·have e1:(bb++List.replicate (a+x.length-bb.length) (0:UInt8)).drop (a+x.length)=[]:=List.drop_of_length_le (by rw [List.length_append,List.length_replicate];omega)
  have e2:(bb++List.replicate (a-bb.length) (0:UInt8)).drop (a+x.length)=[]:=List.drop_of_length_le (by rw [List.length_append,List.length_replicate];omega)
  have e3:(bb++List.replicate (a+x.length-bb.length) (0:UInt8)).take a=(bb++List.replicate (a-bb.length) (0:UInt8)).take a:=by
   rw [List.take_append,List.take_append,List.take_replicate,List.take_replicate]
   congr 2
   omega
  rw [e1,e2,e3]
 ·rw [show a+x.length-bb.length=0 by omega,show a-bb.length=0 by omega]
theorem put_set (b1 x:Str) (a i:Nat) (y:UInt8) (hl:a+i<b1.length) (hi:i<x.length) (hy:x[i]? = some y):(b1.take a++x.take i++b1.drop (a+i)).set (a+i) y=b1.take a++x.take (i+1)++b1.drop (a+i+1):=by
 have e1:(b1.take a++x.take i).length=a+i:=by rw [List.length_append,List.length_take,List.length_take];omega
 rw [List.set_append_right _ _ (by rw [e1];exact Nat.le_refl _),e1,Nat.sub_self,List.drop_eq_getElem_cons hl,List.set_cons_zero,List.take_add_one,hy]
 simp
structure PkR (g:Nat) (W:World) (v:Value) (bb:Str) (a:Nat):Prop where
 c:W.heap[g]? = some (.cells #[v,.int .i64 (a:Nat)] 117 (0,0))
 row:RowY (g+1) W v bb
section
variable {g a:Nat} {W W':World} {v:Value} {bb:Str}
theorem PkR.lt (h:PkR g W v bb a):g<W.heap.size:=(Array.getElem?_eq_some_iff.1 h.c).1
theorem PkR.c0 (h:PkR g W v bb a):W.cell? ⟨g,0,none⟩=some v:=by rw [Lib.cell_of_heap h.c];rfl
theorem PkR.c1 (h:PkR g W v bb a):W.cell? ⟨g,1,none⟩=some (.int .i64 (a:Nat)):=by rw [Lib.cell_of_heap h.c];rfl
theorem PkR.f0 (h:PkR g W v bb a):W.frozen? ⟨g,0,none⟩=false:=Lib.frozen_of_heap h.c 0
theorem PkR.f1 (h:PkR g W v bb a):W.frozen? ⟨g,1,none⟩=false:=Lib.frozen_of_heap h.c 1
theorem PkR.on (h:PkR g W v bb a) (hb:Below W.heap.size W W'):PkR g W' v bb a:=⟨(hb.block _ h.lt).trans h.c,h.row.on hb⟩
theorem PkR.setV (h:PkR g W v bb a) {v':Value} {b':Str} (hr:RowY (g+1) W' v' b') (hg:W.grownBy W' v.ownBlock):PkR g (W'.setCell ⟨g,0,none⟩ v') v' b' a:=by
 have h1:W'.heap[g]? = some (.cells #[v,.int .i64 (a:Nat)] 117 (0,0)):=(hg.block g h.lt fun e=>by have:=(h.row.lt g e.symm).2;omega).trans h.c
 exact ⟨by simp [World.setCell,Array.getElem?_modify,h1],hr.setO _ (by omega)⟩
theorem PkR.setA (h:PkR g W v bb a) (x:Nat):PkR g (W.setCell ⟨g,1,none⟩ (.int .i64 (x:Nat))) v bb x:=by
 refine ⟨by simp [World.setCell,Array.getElem?_modify,h.c],ownsRow_heap h.row fun g' hg'=>Below.heap_setCell _ _ _ _ (by have:=(h.row.lt g' hg').2;show g'≠g;omega)⟩
theorem PkR.setB {G n c:Nat} (h:PkR g W (.slice (some ⟨G,0,none⟩) n c) bb a) (i:Nat) (x:UInt8):PkR g (W.setCell ⟨G,i,none⟩ (.int .u8 (x.toNat:Nat))) (.slice (some ⟨G,0,none⟩) n c) (bb.set i x) a:=by
 have hG:=(h.row.lt G rfl).2
 exact ⟨(Below.heap_setCell _ _ _ _ (by show g≠G;omega)).trans h.c,h.row.set i x⟩
end
theorem appB_zero {w:World} {N:Nat} (hN:w.heap.size=N) {ops:Array Oper} {rest:List Oper} {o:Oper} {a:Act} {Q:Exit→Act→World→Prop} (hgd:o.guard=none) (s x:Operand)
  (ho:o.op=.call { callee:=.builtin .append,args:=#[s,x],argTypes:=#[46,46] }) (B:Nat) (v:Value) (l:Str)
  (hs:a.eval s=v) (hown:RowY B w v l) (hx:a.eval x=.slice (some ⟨N,0,none⟩) 1 1) (hB:B≤w.heap.size) (hl:l.length≤1000000000)
  (h:∀ v' w',RowY B w' v' (l++[0])→w.grownBy w' v.ownBlock→(∀ g,v'.ownBlock=some g→v.ownBlock=some g∨w.heap.size≤g)→wpList Tryz.prog ops Q rest (a.put o.dst v') w') :
  wpList Tryz.prog ops Q (o::rest) a (w.alloc (.cells #[.int .u8 0] 5)):=appB_one hN hgd s x ho B v l 0 hs hown hx hB hl h
def KeepP (g:Nat) (u:Option Nat) (W W':World):Prop:=(∀ k,k<W.heap.size→k≠g→u≠some k→W'.heap[k]? = W.heap[k]?)∧Below g W W'∧W.heap.size≤W'.heap.size
theorem KeepP.refl (g:Nat) (u:Option Nat) (W:World):KeepP g u W W:=⟨fun _ _ _ _=>rfl,Below.refl _ _,Nat.le_refl _⟩
set_option maxRecDepth 100000 in
set_option maxHeartbeats 8000000 in
theorem putR_fn (g:Nat) (v:Value) (bb:Str) (a:Nat) (vx:Value) (x:Str) (w:World) (hp:PkR g w v bb a) (hx:RowX (g+1) w vx x) (hxo:∀ k,vx.ownBlock=some k→v.ownBlock≠some k) (hb:bb.length≤1000000) (ha:a≤1000000) (hxl:x.length≤1000000) :
  Calls Tryz.prog 99 #[.pointer (some ⟨g,0,none⟩),vx] w fun e w'=>e=.returned (.tuple #[])∧(∃ v',PkR g w' v' (putE bb a x) (a+x.length))∧Below g w w':=by
 obtain ⟨M,hM⟩:∃ M,M=a+x.length:=⟨_,rfl⟩
 obtain ⟨ax,cx,hvx⟩:=hx.shape
 subst hvx
 obtain ⟨X,hX⟩:∃ X,X=x.length:=⟨_,rfl⟩
 rw [← hX] at hx hxo hM hxl ⊢
 have HP:=hid hp
 have HX:=hid hx
 have HXO:=hid hxo
 have HXL:=hid hX
 have HM:=hid hM
 have hMI:(a:Int)+(X:Int)=(M:Int):=by omega
 have hwM:IntKind.i64.wrap (M:Int)=(M:Int):=IntWalk.i64_in _ (by omega)
 obtain ⟨uo,huo⟩:∃ uo,uo=v.ownBlock:=⟨_,rfl⟩
 have HUO:=hid huo
 have hM9:M≤2000000:=by omega
 clear hp hx hxo hX hM huo
 go_enter Tryz.func99,Tryz.ntmps99
 go_wp2_with fail
 go_loopg [] (M-bb.length) (fun k wr=>∃ (v1:Value) (b1:Str) (n1:Nat),PkR g wr v1 b1 a∧b1.length=n1∧b1=bb++List.replicate (n1-bb.length) 0∧bb.length≤n1∧n1≤max bb.length M∧KeepP g uo w wr∧(v1.ownBlock=uo∨∀ k,v1.ownBlock=some k→w.heap.size≤k)∧k=M-n1)
 case atStart=>exact ⟨v,bb,bb.length,HP.out,rfl,by rw [Nat.sub_self];exact (List.append_nil bb).symm,Nat.le_refl _,Nat.le_max_left _ _,KeepP.refl _ _ _,.inl HUO.out.symm,rfl⟩
 case round=>
  obtain ⟨v1,b1,n1,hp1,hn1,hbe,hbn,hnm,hkp,hvo,hk⟩:=hrel
  replace hk:=hk.symm
  subst hk
  obtain ⟨a1,k1,hv1⟩:=hp1.row.shape
  subst hv1
  rw [hn1] at hp1 hvo
  have HP1:=hid hp1
  have HN1:=hid hn1
  have HBE:=hid hbe
  have HKP:=hid hkp
  have HVO:=hid hvo
  have d0:=hp1.c0
  have d1:=hp1.c1
  have fz0:=hp1.f0
  have hsw:=hkp.2.2
  clear hp1 hn1 hbe hkp hvo
  rcases Nat.lt_or_ge n1 M with hlt | hge
  ·have hltI:(n1:Int)<(M:Int):=by omega
   have hnm2:n1+1≤max bb.length M:=by omega
   go_wp2
   go_quiet (fail)
   have hp2:PkR g (wr.drewN nq) (.slice a1 n1 k1) b1 a:=HP1.out.on ⟨rfl,rfl,rfl,Nat.le_refl _,fun _ _=>rfl⟩
   have hk2:KeepP g uo w (wr.drewN nq):=⟨fun k h1 h2 h3=>HKP.out.1 k h1 h2 h3,HKP.out.2.1.trans ⟨rfl,rfl,rfl,Nat.le_refl _,fun _ _=>rfl⟩,HKP.out.2.2⟩
   clear d0 d1 fz0
   generalize wr.drewN nq=w2 at hp2 hk2 ⊢
   have HP2:=hid hp2
   have HK2:=hid hk2
   have d0:=hp2.c0
   have hgl:=hp2.lt
   clear hp2 hk2
   go_wp2_with (at_builtin;refine appB_zero rfl rfl (.tmp 23) (.tmp 24) rfl (g+1) _ _ rfl HP2.out.row rfl hgl (by rw [HN1.out];omega) ?_;intro v9 w9 hr9 hg9 hv9;obtain ⟨a9,k9,he9⟩:=hr9.shape;replace he9:v9=.slice a9 (b1.length+1) k9:=he9.trans (by rw [List.length_append];rfl);subst he9;have HP9:=hid (HP2.out.setV hr9 hg9);have HG9:=hid hg9;have HV9:=hid hv9;have h9:=(hg9.block g hgl fun e=>by have:=(HP2.out.row.lt g e.symm).2;omega).trans HP2.out.c;have c9:=Lib.cell_of_heap h9;have f9:=Lib.frozen_of_heap h9 0;clear hr9 hg9 hv9 h9)
   go_roundg (M-(n1+1))
   case measure=>omega
   case rel=>
    refine ⟨_,b1++[0],n1+1,HP9.out,by rw [List.length_append,HN1.out];rfl,?_,by omega,hnm2,⟨fun k h1 h2 h3=>?_,(HK2.out.2.1.grown HG9.out (Nat.le_of_lt hgl) (fun k hk=>by have:=(HP2.out.row.lt k hk).2;omega)).setCell (Nat.le_refl _) _,by have:=HG9.out.size;have:=HK2.out.2.2;simp [World.setCell];omega⟩,?_,rfl⟩
    ·rw [HBE.out,List.append_assoc,show n1+1-bb.length=(n1-bb.length)+1 by omega,List.replicate_succ']
    ·have hk3:=HK2.out.2.2
     refine (Below.heap_setCell _ _ _ _ (by show k≠g;exact h2)).trans ((HG9.out.block k (by omega) fun e=>?_).trans (HK2.out.1 k h1 h2 h3))
     replace e:some k=(Value.slice a1 n1 k1).ownBlock:=e
     rcases HVO.out with h | h
     ·rw [h] at e;exact h3 e.symm
     ·have:=h k e.symm;omega
    ·cases hown:Value.ownBlock (.slice a9 (b1.length+1) k9) with
     | none=>exact .inr (fun k e=>by cases e)
     | some k=>
      rcases HV9.out k hown with h | h
      ·rcases HVO.out with h2 | h2
       ·exact .inl (h.symm.trans h2)
       ·exact .inr (fun k2 e=>by cases e;exact h2 k h)
      ·exact .inr (fun k2 e=>by cases e;have:=HK2.out.2.2;omega)
  ·have hnlt:¬ ((n1:Int)<(M:Int)):=by omega
   have HB1:=hid (show b1=bb++List.replicate (a+x.length-bb.length) 0 by rw [HBE.out,← HXL.out,← HM.out];congr 2;omega)
   go_wp2
   go_quiet (fail)
   have hp2:PkR g (wr.drewN nq) (.slice a1 n1 k1) b1 a:=HP1.out.on ⟨rfl,rfl,rfl,Nat.le_refl _,fun _ _=>rfl⟩
   have hk2:KeepP g uo w (wr.drewN nq):=⟨fun k h1 h2 h3=>HKP.out.1 k h1 h2 h3,HKP.out.2.1.trans ⟨rfl,rfl,rfl,Nat.le_refl _,fun _ _=>rfl⟩,HKP.out.2.2⟩
   clear d0 d1 fz0
   generalize wr.drewN nq=w2 at hp2 hk2 ⊢
   have HP2:=hid hp2
   have HK2:=hid hk2
   clear hp2 hk2 HP1 HKP
   have hdf:decide (n1<M)=false:=decide_eq_false (by omega)
   go_wp2_with fail
   simp only [hdf]
   go_loopg [5,30] X (fun k cv iv wr=>∃ (i:Nat),iv=.int .i64 (i:Nat)∧i≤X∧PkR g wr (.slice a1 n1 k1) (b1.take a++x.take i++b1.drop (a+i)) (a+i)∧KeepP g uo w wr∧k=X-i)
   case atStart=>exact ⟨0,rfl,Nat.zero_le _,by rw [List.take_zero,List.append_nil,Nat.add_zero,List.take_append_drop];exact HP2.out,HK2.out,rfl⟩
   case round=>
    obtain ⟨i,rfl,hiX,hp3,hk3,hk⟩:=hrel
    replace hk:=hk.symm
    subst hk
    have HP3:=hid hp3
    have HK3:=hid hk3
    clear hp3 hk3
    rcases Nat.lt_or_ge i X with hlt | hgeX
    ·have hltI:(i:Int)<(X:Int):=by omega
     obtain ⟨ai,hai⟩:∃ ai,ai=a+i:=⟨_,rfl⟩
     have HAI:=hid hai
     have HPN:=hid (fun y (hy:x[i]? = some y)=>put_set b1 x a i y (by rw [HN1.out];omega) (by rw [← HXL.out];exact hlt) hy)
     rw [← hai] at HP3 HPN
     have hail:ai<n1:=by omega
     have hailI:(ai:Int)<(n1:Int):=by omega
     have hxw:RowX (g+1) wr (.slice ax X cx) x:=HX.out.heap (fun g' hg'=>HK3.out.1 g' (HX.out.lt g' hg').1 (by have:=(HX.out.lt g' hg').2;omega) (by rw [HUO.out];exact HXO.out g' hg')) HK3.out.2.2
     obtain ⟨kx,hax,hcx⟩:=hxw.at (i:=i) (by rw [← HXL.out];exact hlt)
     subst hax
     obtain ⟨y,hy⟩:∃ y,y=x[i]'(by rw [← HXL.out];exact hlt):=⟨_,rfl⟩
     rw [← hy] at hcx
     have HPY:=hid (HPN.out y (by rw [hy];exact List.getElem?_eq_getElem _))
     have hlen3:=HP3.out.row.len
     obtain ⟨G,ha1,hn3,hcG⟩:=HP3.out.row.at (i:=ai) (by rw [← hlen3];exact hail)
     subst ha1
     obtain ⟨ob,hob⟩:∃ ob,ob=(b1.take a++x.take i++b1.drop ai)[ai]'(by rw [← hlen3];exact hail):=⟨_,rfl⟩
     rw [← hob] at hcG
     have fG:=HP3.out.row.free ai
     have d0:=HP3.out.c0
     have d1:=HP3.out.c1
     have hai9:ai≤3000000:=by omega
     clear hai hy hob hlen3 HPN hn3
     go_upto_region 5 with fail
     have S0:Hid ((fun u:World=>u.cell? ⟨g,0,none⟩=some (.slice (some ⟨G,0,none⟩) n1 k1)∧u.cell? ⟨g,1,none⟩=some (.int .i64 (ai:Nat))) wr.drew):=hid ⟨d0,d1⟩
     refine U_begin (late:=fun k=>decide (10≤k)) (S:=fun u:World=>u.cell? ⟨g,0,none⟩=some (.slice (some ⟨G,0,none⟩) n1 k1)∧u.cell? ⟨g,1,none⟩=some (.int .i64 (ai:Nat))) (by kernel_rfl) ?_
     refine U_take2 8 (i:=0) (v:=.pointer (some ⟨g,0,none⟩)) rfl (by kernel_rfl) (by kernel_rfl) (by kernel_rfl) (by kernel_rfl) (by kernel_rfl) (fun _ _ _ h=>h) (.inl ⟨rfl,fun u hu=>(by go_simp)⟩) S0.out ?_
     refine U_take2 8 (i:=1) (v:=.pointer (some ⟨g,0,none⟩)) rfl (by kernel_rfl) (by kernel_rfl) (by kernel_rfl) (by kernel_rfl) (by kernel_rfl) (fun _ _ _ h=>h) (.inl ⟨rfl,fun u hu=>(by go_simp)⟩) S0.out ?_
     refine U_take2 8 (i:=2) (v:=.pointer (some ⟨g,0,none⟩)) rfl (by kernel_rfl) (by kernel_rfl) (by kernel_rfl) (by kernel_rfl) (by kernel_rfl) (fun _ _ _ h=>h) (.inl ⟨rfl,fun u hu=>(by go_simp)⟩) S0.out ?_
     refine U_take2 8 (i:=3) (v:=.slice (some ⟨G,0,none⟩) n1 k1) rfl (by kernel_rfl) (by kernel_rfl) (by kernel_rfl) (by kernel_rfl) (by kernel_rfl) (fun _ _ _ h=>h) (.inl ⟨rfl,fun u hu=>(by obtain ⟨h1,h2⟩:=hu;go_simp)⟩) S0.out ?_
     refine U_take2 8 (i:=4) (v:=.pointer (some ⟨g,0,none⟩)) rfl (by kernel_rfl) (by kernel_rfl) (by kernel_rfl) (by kernel_rfl) (by kernel_rfl) (fun _ _ _ h=>h) (.inl ⟨rfl,fun u hu=>(by go_simp)⟩) S0.out ?_
     refine U_take2 8 (i:=5) (v:=.pointer (some ⟨g,0,none⟩)) rfl (by kernel_rfl) (by kernel_rfl) (by kernel_rfl) (by kernel_rfl) (by kernel_rfl) (fun _ _ _ h=>h) (.inl ⟨rfl,fun u hu=>(by go_simp)⟩) S0.out ?_
     refine U_take2 8 (i:=6) (v:=.pointer (some ⟨g,1,none⟩)) rfl (by kernel_rfl) (by kernel_rfl) (by kernel_rfl) (by kernel_rfl) (by kernel_rfl) (fun _ _ _ h=>h) (.inl ⟨rfl,fun u hu=>(by go_simp)⟩) S0.out ?_
     refine U_take2 8 (i:=7) (v:=.int .i64 (ai:Nat)) rfl (by kernel_rfl) (by kernel_rfl) (by kernel_rfl) (by kernel_rfl) (by kernel_rfl) (fun _ _ _ h=>h) (.inl ⟨rfl,fun u hu=>(by obtain ⟨h1,h2⟩:=hu;go_simp)⟩) S0.out ?_
     refine U_take2 8 (i:=8) (v:=.int .u8 (y.toNat:Nat)) rfl (by kernel_rfl) (by kernel_rfl) (by kernel_rfl) (by kernel_rfl) (by kernel_rfl) (fun _ _ _ h=>h) (.inl ⟨rfl,fun u hu=>(by go_simp)⟩) S0.out ?_
     refine U_take2 8 (i:=9) (v:=.pointer (some ⟨G,ai,none⟩)) rfl (by kernel_rfl) (by kernel_rfl) (by kernel_rfl) (by kernel_rfl) (by kernel_rfl) (fun _ _ _ h=>h) (.inl ⟨rfl,fun u hu=>(by go_simp)⟩) S0.out ?_
     have fr6:wr.drew.frozen? ⟨G,ai,none⟩=false:=fG
     have cJ6:wr.drew.cell? ⟨G,ai,none⟩=some (.int .u8 (ob.toNat:Nat)):=hcG
     refine U_step (j:=10) (by kernel_rfl) rfl (fun K hK=>?_)
     go_simp
     refine hK.out _ _ (.inl rfl) ?_
     clear hK K
     refine U_done (by kernel_rfl) ?_ _
     have hp4:PkR g (wr.drew.setCell ⟨G,ai,none⟩ (.int .u8 (y.toNat:Nat))) (.slice (some ⟨G,0,none⟩) n1 k1) (b1.take a++x.take (i+1)++b1.drop (ai+1)) ai:=by
      have h:=(HP3.out.on (W':=wr.drew) (Below.refl _ wr).drew).setB ai y
      rw [HPY.out] at h
      exact h
     have hk4:KeepP g uo w (wr.drew.setCell ⟨G,ai,none⟩ (.int .u8 (y.toNat:Nat))):=⟨fun k h1 h2 h3=>(Below.heap_setCell _ _ _ _ (by
      show k≠G
      rintro rfl
      rcases HVO.out with h | h
      ·exact h3 h.symm
      ·have:=h k rfl;omega)).trans (HK3.out.1 k h1 h2 h3),(HK3.out.2.1.drew).setCell (by have:=(HP3.out.row.lt G rfl).2;show g≤G;omega) _,by have:=HK3.out.2.2;simpa [World.setCell] using this⟩
     clear S0 fr6 cJ6 d0 d1 fG hcG
     have HP4:=hid hp4
     have HK4:=hid hk4
     have d1:(wr.setCell ⟨G,ai,none⟩ (.int .u8 (y.toNat:Nat))).cell? ⟨g,1,none⟩=some (.int .i64 (ai:Nat)):=hp4.c1
     have f1:(wr.setCell ⟨G,ai,none⟩ (.int .u8 (y.toNat:Nat))).frozen? ⟨g,1,none⟩=false:=hp4.f1
     clear hp4 hk4
     go_wp2
     go_roundg (X-(i+1))
     case measure=>omega
     case rel=>exact ⟨i+1,by go_num,hlt,by rw [← Nat.add_assoc,← HAI.out];exact HP4.out.setA (ai+1),⟨fun k h1 h2 h3=>(Below.heap_setCell _ _ _ _ (by show k≠g;exact h2)).trans (HK4.out.1 k h1 h2 h3),HK4.out.2.1.setCell (Nat.le_refl _) _,by have:=HK4.out.2.2;simpa [World.setCell] using this⟩,rfl⟩
    ·obtain rfl:i=X:=by omega
     have hnl:¬ ((i:Int)<(i:Int)):=by omega
     have HE:=hid (show b1.take a++x.take i++b1.drop (a+i)=putE bb a x by
      rw [show x.take i=x from List.take_of_length_le (by rw [← HXL.out];exact Nat.le_refl _),HXL.out]
      exact put_eq bb x a b1 HB1.out)
     clear hgeX hiX
     go_wp2
     go_end0
     exact ⟨rfl,⟨_,by rw [← HE.out];exact HP3.out⟩,HK3.out.2.1⟩
end Go.Proofs.YtihdndaibmgoiaaGreatDoor.Pz
