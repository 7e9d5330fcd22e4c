/-
  Part K5 of the proofs of this seat, merged by a program out of 7 texts; remarks are struck.
-/
import Derived.Lib.Case
import Derived.WalkKit
import Derived.BigQuiet
import Derived.WalkSpells
import Derived.WalkLawsBesides
import Derived.Deep.QuietTactic
import Derived.Lib.IndexAny
import Derived.Deep.CutRange
import Derived.Deep.CutBlock
import Derived.Outline
import Derived.Maps.OwnOps
import Derived.Maps.Views
import Derived.Carry
import Derived.Laws.EntriesVeiled
import Derived.Test.YtbilphfbfnohmaaGreatDoorK4
import Derived.Test.YtbilphfbfnohmaaGreatDoorK2
namespace Go.Proofs.YtbilphfbfnohmaaGreatDoor.Pz
open Go.RowKit
def baseC (c:UInt8):Nat:=if c=120 then 16 else if c=88 then 16 else if c=111 then 8 else if c=98 then 2 else 10
def prefC (c:UInt8):Str:=if c=120 then [48,120] else if c=88 then [48,88] else if c=111 then [48,111] else if c=98 then [48,98] else []
def spreadE (fl:Str) (width:Int) (s:Str) (first:Nat) (zeros:Bool):Str:=
 if width-(s.length:Int)≤0 then s
 else if fl.contains 45 then s++List.replicate (width-(s.length:Int)).toNat 32
 else if zeros then s.take first++(List.replicate (width-(s.length:Int)).toNat 48++s.drop first)
 else List.replicate (width-(s.length:Int)).toNat 32++s
def negD (d:Str):Bool:=d.head? == some 45
def bodyD (c:UInt8) (d:Str):Str:=if c=88 then Lib.toUpperA (if negD d then d.tail else d) else if negD d then d.tail else d
def signD (fl:Str) (c:UInt8) (neg:Bool):Str:=(if neg then [45] else if fl.contains 43 then [43] else if fl.contains 32 then [32] else [])++(if fl.contains 35 then prefC c else [])
def padD (prec:Int) (body:Str):Str:=List.replicate (prec-(body.length:Int)).toNat 48++body
def numbE (fl:Str) (width prec:Int) (c:UInt8) (d:Str):Str:=
 spreadE fl width (signD fl c (negD d)++padD prec (bodyD c d)) (signD fl c (negD d)).length (fl.contains 48 && decide (prec<0))
def numberE (fl:Str) (width prec:Int) (c:UInt8) (arg:Str):Str×Int:=
 if (baseRes arg (baseC c)).2=0 then (numbE fl width prec c (baseRes arg (baseC c)).1,0)
 else if (baseRes arg (baseC c)).2=4 then ([],4) else ([],11)
theorem spreadE_len (fl:Str) (width:Int) (s:Str) (first:Nat) (zeros:Bool):((spreadE fl width s first zeros).length:Int)=max width s.length:=by
 unfold spreadE
 split
 ·omega
 ·split
  ·rw [List.length_append,List.length_replicate];omega
  ·split
   ·rw [List.length_append,List.length_append,List.length_replicate,List.length_take,List.length_drop];omega
   ·rw [List.length_append,List.length_replicate];omega
theorem strOf_ascii (b n:Nat) (hb2:2≤b) (hb:b≤36):∀ x∈strOf b n,x.toNat<128:=by
 intro x hx
 unfold strOf at hx
 obtain ⟨t,_,rfl⟩:=List.mem_map.1 hx
 have h1:=dgt_lt b n (dlen b n-1-t) hb2
 generalize dgt b n (dlen b n-1-t)=d at *
 have h2:chN d<123:=by unfold chN;split<;>omega
 rw [UInt8.toNat_ofNat']
 omega
theorem dlen_big (b n:Nat) (hb:2≤b) (h:n<big600):dlen b n≤2010:=by
 obtain ⟨k,hk⟩:∃ k,2010=k:=⟨_,rfl⟩
 have h9:=big600_le
 rw [hk] at h9 ⊢
 exact (dlen_le_iff b n k hb).2 (Nat.lt_of_lt_of_le h (Nat.le_trans h9 (Nat.pow_le_pow_left hb _)))
theorem baseRes_err (a:Str) (b:Nat) (hb2:2≤b) (hb:b≤36):(baseRes a b).2=0∨(baseRes a b).2=4∨(baseRes a b).2=2:=by
 unfold baseRes
 split
 ·rw [if_neg (by omega)]
  split
  ·exact .inr (.inl rfl)
  ·exact .inl rfl
 ·exact .inr (.inr rfl)
theorem baseRes_ok {a:Str} {b:Nat} (hb2:2≤b) (hb:b≤36) (h:(baseRes a b).2=0):pOK a=true∧(pVal a).natAbs<big600∧(baseRes a b).1=numText b (pVal a).natAbs (decide (pVal a<0)):=by
 unfold baseRes at h ⊢
 by_cases h1:pOK a=true
 ·rw [if_pos h1] at h ⊢
  rw [if_neg (by omega)] at h ⊢
  by_cases h2:big600≤(pVal a).natAbs
  ·rw [if_pos h2] at h;cases h
  ·rw [if_neg h2]
   exact ⟨h1,by omega,rfl⟩
 ·rw [if_neg h1] at h
  cases h
theorem numText_len (b n:Nat) (neg:Bool):(numText b n neg).length≤dlen b n+1:=by
 unfold numText
 split
 ·show 1≤_;omega
 ·split
  ·rw [List.length_cons,strOf_length];exact Nat.le_refl _
  ·rw [strOf_length];omega
theorem numText_ascii (b n:Nat) (neg:Bool) (hb2:2≤b) (hb:b≤36):∀ x∈numText b n neg,x.toNat<128:=by
 unfold numText
 split
 ·intro x hx;rw [List.mem_singleton.1 hx];decide
 ·split
  ·intro x hx
   rcases List.mem_cons.1 hx with rfl | hx
   ·decide
   ·exact strOf_ascii b n hb2 hb x hx
  ·exact strOf_ascii b n hb2 hb
theorem baseRes_text {a:Str} {b:Nat} (hb2:2≤b) (hb:b≤36) (h:(baseRes a b).2=0):(baseRes a b).1.length≤2011∧∀ x∈(baseRes a b).1,x.toNat<128:=by
 obtain ⟨_,h2,h3⟩:=baseRes_ok hb2 hb h
 rw [h3]
 exact ⟨Nat.le_trans (numText_len _ _ _) (Nat.succ_le_succ (dlen_big _ _ hb2 h2)),numText_ascii _ _ _ hb2 hb⟩
theorem baseC_two (c:UInt8):2≤baseC c∧baseC c≤36:=by
 unfold baseC
 split
 ·decide
 ·split
  ·decide
  ·split
   ·decide
   ·split<;>decide
theorem bodyD_len (c:UInt8) (d:Str):(bodyD c d).length≤d.length:=by
 have h:(if negD d then d.tail else d).length≤d.length:=by split<;>simp
 unfold bodyD
 split
 ·unfold Lib.toUpperA;rw [List.length_map];exact h
 ·exact h
theorem signD_len (fl:Str) (c:UInt8) (neg:Bool):(signD fl c neg).length≤3:=by
 unfold signD
 rw [List.length_append]
 have h1:(if neg=true then [45] else if fl.contains 43=true then [43] else if fl.contains 32=true then ([32]:Str) else []).length≤1:=by
  split
  ·decide
  ·split
   ·decide
   ·split<;>decide
 have h2:(if fl.contains 35=true then prefC c else ([]:Str)).length≤2:=by
  split
  ·unfold prefC
   split
   ·decide
   ·split
    ·decide
    ·split
     ·decide
     ·split<;>decide
  ·exact Nat.zero_le _
 omega
end Go.Proofs.YtbilphfbfnohmaaGreatDoor.Pz
namespace Go.Proofs.YtbilphfbfnohmaaGreatDoor.Pz
open Go.RowKit
theorem OnlyS.of {w w':World} (h:Below w.heap.size w w') (A:List Nat):OnlyS A w w':=⟨h.os,h.tape,h.output,h.size,fun k hk _=>h.block k hk⟩
theorem OnlyS.low {A:List Nat} {w w':World} (h:OnlyS A w w') {B:Nat} (hB:B≤w.heap.size) (hA:∀ k∈A,B≤k):Below B w w':=
 ⟨h.os,h.tape,h.output,h.size,fun k hk=>h.block k (by omega) fun e=>by have:=hA k e;omega⟩
theorem OnlyS.set {A:List Nat} {w:World} {a:Addr} (ha:a.block∈A) (v:Value):OnlyS A w (w.setCell a v):=
 ⟨rfl,rfl,rfl,by simp [World.setCell],fun k _ hn=>Below.heap_setCell _ _ _ _ fun e=>hn (e ▸ ha)⟩
theorem OnlyS.drewN (A:List Nat) (w:World) (n:Nat):OnlyS A w (w.drewN n):=⟨rfl,rfl,rfl,Nat.le_refl _,fun _ _ _=>rfl⟩
theorem OnlyS.cells {A:List Nat} {w w':World} (h:OnlyS A w w') {k:Nat} {o:Obj} (hk:w.heap[k]? = some o) (hA:k ∉ A):w'.heap[k]? = some o:=(h.block k (Array.getElem?_eq_some_iff.1 hk).1 hA).trans hk
def SRd (w:World) (p:Nat) (s:Str) (i:Nat):Prop:=w.heap[p]? = some (.cells #[.string ⟨s.toArray⟩,.int .i64 (i:Nat)] 126 (0,0))
section
variable {w w':World} {p i:Nat} {s:Str}
theorem SRd.lt (h:SRd w p s i):p<w.heap.size:=(Array.getElem?_eq_some_iff.1 h).1
theorem SRd.c0 (h:SRd w p s i):w.cell? ⟨p,0,none⟩=some (.string ⟨s.toArray⟩):=by rw [Lib.cell_of_heap h];rfl
theorem SRd.c1 (h:SRd w p s i):w.cell? ⟨p,1,none⟩=some (.int .i64 (i:Nat)):=by rw [Lib.cell_of_heap h];rfl
theorem SRd.f1 (h:SRd w p s i):w.frozen? ⟨p,1,none⟩=false:=Lib.frozen_of_heap h 1
theorem SRd.on (h:SRd w p s i) {A:List Nat} (ho:OnlyS A w w') (hp:p ∉ A):SRd w' p s i:=ho.cells h hp
theorem SRd.drewN (h:SRd w p s i) (n:Nat):SRd (w.drewN n) p s i:=h
theorem SRd.set (h:SRd w p s i) (j:Nat):SRd (w.setCell ⟨p,1,none⟩ (.int .i64 (j:Nat))) p s j:=by
 unfold SRd at h ⊢
 simp [World.setCell,Array.getElem?_modify,h]
theorem SRd.put (h:SRd w p s i) (j:Nat) {x:Int} (hx:x=(j:Nat)):SRd (w.setCell ⟨p,1,none⟩ (.int .i64 x)) p s j:=by
 subst hx
 exact h.set j
end
theorem isDig_of {c:UInt8} (h:isDig c=true):48≤c.toNat∧c.toNat≤57:=by
 unfold isDig at h
 simpa using h
theorem digit_fn (c:UInt8) (w:World):Calls Tryz.prog 187 #[.int .u8 (c.toNat:Nat)] w fun e w'=>e=.returned (.bool (isDig c))∧w'=w:=by
 have hu:isDig c=(decide (48≤c.toNat) && decide (c.toNat≤57)):=rfl
 generalize isDig c=q at *
 generalize c.toNat=n at *
 have HU:=hid hu
 clear hu
 by_cases h1:48≤n
 ·have d1:decide ((48:Int)≤(n:Int))=true:=decide_eq_true (by omega)
  by_cases h2:n≤57
  ·have d2:decide ((n:Int)≤57)=true:=decide_eq_true (by omega)
   have HQ:=hid (show q=true by rw [HU.out,decide_eq_true h1,decide_eq_true h2];rfl)
   go_enter Tryz.func187,Tryz.ntmps187
   go_wp2
   go_ret
   exact ⟨by rw [HQ.out];rfl,rfl⟩
  ·have d2:decide ((n:Int)≤57)=false:=decide_eq_false (by omega)
   have HQ:=hid (show q=false by rw [HU.out,decide_eq_true h1,decide_eq_false h2];rfl)
   go_enter Tryz.func187,Tryz.ntmps187
   go_wp2
   go_ret
   exact ⟨by rw [HQ.out];rfl,rfl⟩
 ·have d1:decide ((48:Int)≤(n:Int))=false:=decide_eq_false (by omega)
  have HQ:=hid (show q=false by rw [HU.out,decide_eq_false h1];rfl)
  go_enter Tryz.func187,Tryz.ntmps187
  go_wp2
  go_ret
  exact ⟨by rw [HQ.out];rfl,rfl⟩
set_option maxRecDepth 100000 in
theorem next_fn {w:World} {p i:Nat} {s l:Str} (h:SRd w p s i) (ha:At s l i) (_hs:s.length≤1000000) :
  Calls Tryz.prog 142 #[.pointer (some ⟨p,0,none⟩)] w fun e w'=>e=.returned (.int .u8 ((l.headD 0).toNat:Nat))∧OnlyS [] w w':=by
 have c0:=h.c0
 have c1:=h.c1
 have hsz:(⟨s.toArray⟩:ByteArray).size=s.length:=by rw [Lib.size_mk]
 cases l with
 | nil=>
  have hi:i=s.length:=by have:=ha.len;simp at this;omega
  have hiI:((i:Int) == (s.length:Int))=true:=by rw [hi];simp
  clear ha h hi
  go_enter Tryz.func142,Tryz.ntmps142
  go_wp2
  go_quiet (fail)
  go_wp2
  go_ret
  exact ⟨rfl,OnlyS.drewN _ _ _⟩
 | cons c t=>
  have hlt:=ha.lt
  have hiI:((i:Int) == (s.length:Int))=false:=by rw [beq_eq_false_iff_ne];omega
  have hg:∀ h',(⟨s.toArray⟩:ByteArray)[i]'h'=c:=ha.byte
  have hi2:(i:Int)<(s.length:Int):=by omega
  clear ha h
  go_enter Tryz.func142,Tryz.ntmps142
  go_wp2
  go_quiet (fail)
  go_wp2
  go_quiet (fail)
  go_wp2
  go_ret
  exact ⟨rfl,by first | exact OnlyS.drewN _ _ _ | exact (OnlyS.drewN _ _ _).trans (OnlyS.drewN _ _ _)⟩
set_option maxRecDepth 100000 in
theorem take_no {w:World} {p i:Nat} {s l:Str} (h:SRd w p s i) (ha:At s l i) (_hs:s.length≤1000000) {x:Int} (d:UInt8) (hx:x=(d.toNat:Nat)) (hd:l.head?≠some d) :
  Calls Tryz.prog 139 #[.pointer (some ⟨p,0,none⟩),.int .u8 x] w fun e w'=>e=.returned (.bool false)∧OnlyS [] w w':=by
 subst hx
 have c0:=h.c0
 have c1:=h.c1
 have hsz:(⟨s.toArray⟩:ByteArray).size=s.length:=by rw [Lib.size_mk]
 cases l with
 | nil=>
  have hi:i=s.length:=by have:=ha.len;simp at this;omega
  have hiI:decide ((i:Int)<(s.length:Int))=false:=decide_eq_false (by omega)
  have hiN:decide (i<s.length)=false:=decide_eq_false (by omega)
  clear ha h hi hd
  go_enter Tryz.func139,Tryz.ntmps139
  go_wp2
  go_quiet (fail)
  go_wp2
  go_ret
  exact ⟨rfl,OnlyS.drewN _ _ _⟩
 | cons c t=>
  have hlt:=ha.lt
  have hcd:((c.toNat:Int) == (d.toNat:Int))=false:=by
   rw [beq_eq_false_iff_ne]
   intro e
   exact hd (by rw [List.head?_cons,UInt8.toNat_inj.1 (show c.toNat=d.toNat by omega)])
  have hg:∀ h',(⟨s.toArray⟩:ByteArray)[i]'h'=c:=ha.byte
  have hi2:(i:Int)<(s.length:Int):=by omega
  clear ha h hd
  go_enter Tryz.func139,Tryz.ntmps139
  go_wp2
  go_quiet (fail)
  go_wp2
  go_ret
  exact ⟨rfl,OnlyS.drewN _ _ _⟩
set_option maxRecDepth 100000 in
theorem take_yes {w:World} {p i:Nat} {s t:Str} {c:UInt8} (h:SRd w p s i) (ha:At s (c::t) i) (hs:s.length≤1000000) {x:Int} (hx:x=(c.toNat:Nat)) :
  Calls Tryz.prog 139 #[.pointer (some ⟨p,0,none⟩),.int .u8 x] w fun e w'=>e=.returned (.bool true)∧SRd w' p s (i+1)∧OnlyS [p] w w':=by
 subst hx
 have c0:=h.c0
 have c1:=h.c1
 have f1:=h.f1
 have hsz:(⟨s.toArray⟩:ByteArray).size=s.length:=by rw [Lib.size_mk]
 have hlt:=ha.lt
 have hg:∀ h',(⟨s.toArray⟩:ByteArray)[i]'h'=c:=ha.byte
 have hi2:(i:Int)<(s.length:Int):=by omega
 have H:=hid h
 clear ha h
 go_enter Tryz.func139,Tryz.ntmps139
 go_wp2
 go_quiet (fail)
 go_wp2
 go_ret
 have h9:=(H.out.drewN nq).set (i+1)
 rw [show (((i+1:Nat)):Int)=(i:Int)+1 by omega] at h9
 exact ⟨rfl,h9,(OnlyS.drewN _ _ _).trans (OnlyS.set (by simp) _)⟩
set_option maxRecDepth 100000 in
set_option maxHeartbeats 2000000 in
theorem number_fn {w:World} {p i:Nat} {s l:Str} (h:SRd w p s i) (ha:At s l i) (hs:s.length≤1000000) (m:Nat) (hm:m≤3) {M:Int} (hM:M=(m:Nat)) :
    Calls Tryz.prog 140 #[.pointer (some ⟨p,0,none⟩),.int .i64 M] w fun e w'=>e=.returned (.int .i64 (numE (digRun m l)))∧SRd w' p s (i+(digRun m l).length)∧OnlyS [p] w w':=by
  subst hM
  have H:=hid h
  have HA:=hid ha
  have HDG:=hid digit_fn
  have hsz:(⟨s.toArray⟩:ByteArray).size=s.length:=by rw [Lib.size_mk]
  clear h ha
  go_enter Tryz.func140,Tryz.ntmps140
  go_wp2
  go_loopg [5,6] m (fun k nv kv wr=>∃ (a r:Str) (K V:Nat),Hid (l=a++r)∧Hid (a.all isDig=true)∧K≤m∧Hid (K=a.length)∧Hid (V=numGo 0 a)∧nv=.int .i64 (V:Nat)∧kv=.int .i64 (K:Nat)∧SRd wr p s (i+K)∧OnlyS [p] w wr∧k=m-K)
  case atStart=>exact ⟨[],l,0,0,hid rfl,hid rfl,Nat.zero_le _,hid rfl,hid rfl,rfl,rfl,H.out,OnlyS.refl _ _,rfl⟩
  case round=>
    obtain ⟨a,r,K,V,HL,HD,hKm,HK,HV,rfl,rfl,hrd,hon,rfl⟩:=hrel
    have hat:At s r (i+K):=by have h9:=HA.out;rw [HL.out] at h9;rw [HK.out];exact h9.app
    have hV9:V≤999:=by
      have h1:=numGo_lt a 0 HD.out
      rw [← HV.out,← HK.out] at h1
      have h2:10 ^ K≤10 ^ 3:=Nat.pow_le_pow_right (by decide) (by omega)
      have h3:(10:Nat) ^ 3=1000:=rfl
      omega
    have c0:=hrd.c0
    have c1:=hrd.c1
    have f1:=hrd.f1
    rw [show ((i+K:Nat):Int)=(i:Int)+(K:Int) by omega] at c1
    by_cases hk:K<m
    · have hkI:(K:Int)<(m:Int):=by omega
      cases r with
      | nil=>
        have hdec:decide ((i:Int)+(K:Int)<(s.length:Int))=false:=decide_eq_false (by have:=hat.len;simp at this;omega)
        have hdeN:¬ ((i:Int)+(K:Int)<(s.length:Int)):=by have:=hat.len;simp at this;omega
        clear hat
        have HR:=hid (show digRun m l=a by rw [HL.out];exact digRun_all m a _ HD.out (by rw [← HK.out];omega) (.inr fun c e=>by cases e))
        by_cases h0:K=0
        · have ha0:a=[]:=List.eq_nil_of_length_eq_zero (by rw [← HK.out];exact h0)
          have HN:=hid (show numE (digRun m l) = -1 by rw [HR.out,ha0];rfl)
          have HS2:=hid (show SRd wr p s (i+(digRun m l).length) by rw [HR.out,← HK.out];exact hrd)
          have h0b:((K:Int) == 0)=true:=by rw [h0];rfl
          clear h0 ha0 hrd
          go_wp2
          go_quiet ((go_at_call 187;exact Calls.quiet_of_same (HDG.out _ _)))
          go_wp2
          go_ret
          exact ⟨by rw [HN.out];rfl,HS2.out,hon.trans (OnlyS.drewN _ _ _)⟩
        · have HN := hid (show numE (digRun m l) = (V : Nat) by
            rw [HR.out,HV.out]
            unfold numE
            rw [if_neg fun e=>h0 (by rw [HK.out,e];rfl)])
          have HS2:=hid (show SRd wr p s (i+(digRun m l).length) by rw [HR.out,← HK.out];exact hrd)
          have h0b:((K:Int) == 0)=false:=by rw [beq_eq_false_iff_ne];omega
          clear h0 hrd
          go_wp2
          go_quiet ((go_at_call 187;exact Calls.quiet_of_same (HDG.out _ _)))
          go_wp2
          go_ret
          exact ⟨by rw [HN.out];rfl,HS2.out,hon.trans (OnlyS.drewN _ _ _)⟩
      | cons c t=>
        have hlt:(i:Int)+(K:Int)<(s.length:Int):=by have:=hat.lt;omega
        have hlN:i+K<s.length:=hat.lt
        have hg:∀ h',(⟨s.toArray⟩:ByteArray)[i+K]'h'=c:=hat.byte
        have hti:((i:Int)+(K:Int)).toNat=i+K:=by omega
        clear hat
        cases hc:isDig c with
        | true=>
          have hb:=isDig_of hc
          have hb1:(48:Int)≤(c.toNat:Int):=by omega
          have hb2:(c.toNat:Int)≤57:=by omega
          have HDGc:=hid (show ∀ w,Calls Tryz.prog 187 #[.int .u8 (c.toNat:Nat)] w fun e w'=>e=.returned (.bool true)∧w'=w from fun w=>by rw [← hc];exact digit_fn c w)
          have HC:=hid hc
          clear hc hb
          go_wp2
          go_quiet ((go_at_call 187;exact Calls.quiet_of_same (HDGc.out _)))
          go_wp2
          go_quiet (fail)
          go_wp2
          go_roundg (m-(K+1))
          case measure=>omega
          case rel=>exact ⟨a++[c],t,K+1,10*V+(c.toNat-48),hid (by rw [HL.out,List.append_assoc];rfl),hid (by rw [List.all_append,HD.out,List.all_cons,HC.out];rfl),by omega,hid (by rw [HK.out,List.length_append];rfl),hid (by rw [numGo_app,HV.out]),congrArg (Value.int .i64) (by omega),by go_num,SRd.put (i:=i+K) hrd (i+(K+1)) (by omega),hon.trans ((OnlyS.drewN _ _ _).trans (OnlyS.set (by simp) _)),rfl⟩
        | false=>
          have HDGc:=hid (show ∀ w,Calls Tryz.prog 187 #[.int .u8 (c.toNat:Nat)] w fun e w'=>e=.returned (.bool false)∧w'=w from fun w=>by rw [← hc];exact digit_fn c w)
          have HC:=hid hc
          clear hc
          have HR:=hid (show digRun m l=a by rw [HL.out];exact digRun_all m a _ HD.out (by rw [← HK.out];omega) (.inr fun c' e=>by cases e;exact HC.out))
          by_cases h0:K=0
          · have ha0:a=[]:=List.eq_nil_of_length_eq_zero (by rw [← HK.out];exact h0)
            have HN:=hid (show numE (digRun m l) = -1 by rw [HR.out,ha0];rfl)
            have HS2:=hid (show SRd wr p s (i+(digRun m l).length) by rw [HR.out,← HK.out];exact hrd)
            have h0b:((K:Int) == 0)=true:=by rw [h0];rfl
            clear h0 ha0 hrd
            go_wp2
            go_quiet ((go_at_call 187;exact Calls.quiet_of_same (HDGc.out _)))
            go_wp2
            go_ret
            exact ⟨by rw [HN.out];rfl,HS2.out,hon.trans (OnlyS.drewN _ _ _)⟩
          · have HN := hid (show numE (digRun m l) = (V : Nat) by
              rw [HR.out,HV.out]
              unfold numE
              rw [if_neg fun e=>h0 (by rw [HK.out,e];rfl)])
            have HS2:=hid (show SRd wr p s (i+(digRun m l).length) by rw [HR.out,← HK.out];exact hrd)
            have h0b:((K:Int) == 0)=false:=by rw [beq_eq_false_iff_ne];omega
            clear h0 hrd
            go_wp2
            go_quiet ((go_at_call 187;exact Calls.quiet_of_same (HDGc.out _)))
            go_wp2
            go_ret
            exact ⟨by rw [HN.out];rfl,HS2.out,hon.trans (OnlyS.drewN _ _ _)⟩
    · have hkI:¬ (K:Int)<(m:Int):=by omega
      have hdec:decide ((K:Int)<(m:Int))=false:=decide_eq_false hkI
      have hdN:decide (K<m)=false:=decide_eq_false hk
      clear hat
      have HR:=hid (show digRun m l=a by rw [HL.out];exact digRun_all m a _ HD.out (by rw [← HK.out];omega) (.inl (by rw [← HK.out];omega)))
      by_cases h0:K=0
      · have ha0:a=[]:=List.eq_nil_of_length_eq_zero (by rw [← HK.out];exact h0)
        have HN:=hid (show numE (digRun m l) = -1 by rw [HR.out,ha0];rfl)
        have HS2:=hid (show SRd wr p s (i+(digRun m l).length) by rw [HR.out,← HK.out];exact hrd)
        have h0b:((K:Int) == 0)=true:=by rw [h0];rfl
        clear h0 ha0 hrd
        go_wp2
        go_quiet ((go_at_call 187;exact Calls.quiet_of_same (HDG.out _ _)))
        go_wp2
        go_ret
        exact ⟨by rw [HN.out];rfl,HS2.out,hon.trans (OnlyS.drewN _ _ _)⟩
      · have HN := hid (show numE (digRun m l) = (V : Nat) by
          rw [HR.out,HV.out]
          unfold numE
          rw [if_neg fun e=>h0 (by rw [HK.out,e];rfl)])
        have HS2:=hid (show SRd wr p s (i+(digRun m l).length) by rw [HR.out,← HK.out];exact hrd)
        have h0b:((K:Int) == 0)=false:=by rw [beq_eq_false_iff_ne];omega
        clear h0 hrd
        go_wp2
        go_quiet ((go_at_call 187;exact Calls.quiet_of_same (HDG.out _ _)))
        go_wp2
        go_ret
        exact ⟨by rw [HN.out];rfl,HS2.out,hon.trans (OnlyS.drewN _ _ _)⟩
end Go.Proofs.YtbilphfbfnohmaaGreatDoor.Pz
namespace Go.Proofs.YtbilphfbfnohmaaGreatDoor.Pz
open Go.RowKit
theorem base_c (c:UInt8) (w:World):Calls Tryz.prog 105 #[.int .u8 (c.toNat:Nat)] w fun e w'=>e=.returned (.tuple #[.int .i64 (baseC c:Nat),.string ⟨(prefC c).toArray⟩])∧w'=w:=by
 by_cases h120:c=120
 ·subst h120
  go_enter Tryz.func105,Tryz.ntmps105
  go_wp2
  go_ret2
  exact ⟨rfl,rfl⟩
 have n120:=byte_ne 120 h120 rfl
 by_cases h88:c=88
 ·subst h88
  go_enter Tryz.func105,Tryz.ntmps105
  go_wp2
  go_ret2
  exact ⟨rfl,rfl⟩
 have n88:=byte_ne 88 h88 rfl
 by_cases h111:c=111
 ·subst h111
  go_enter Tryz.func105,Tryz.ntmps105
  go_wp2
  go_ret2
  exact ⟨rfl,rfl⟩
 have n111:=byte_ne 111 h111 rfl
 by_cases h98:c=98
 ·subst h98
  go_enter Tryz.func105,Tryz.ntmps105
  go_wp2
  go_ret2
  exact ⟨rfl,rfl⟩
 have n98:=byte_ne 98 h98 rfl
 have hb:baseC c=10:=by unfold baseC;simp [h120,h88,h111,h98]
 have hp:prefC c=[]:=by unfold prefC;simp [h120,h88,h111,h98]
 rw [hb,hp]
 clear hb hp h120 h88 h111 h98
 go_enter Tryz.func105,Tryz.ntmps105
 go_wp2
 go_ret2
 exact ⟨rfl,rfl⟩
section
variable {A wd pr:Int} {tx fl:Str} {c:UInt8}
theorem has_fn (k:UInt8) {x:Int} (hx:x=(k.toNat:Nat)) (w:World):Calls Tryz.prog 108 #[.agg #[.int .i64 A,.string ⟨tx.toArray⟩,.int .i64 0,.string ⟨fl.toArray⟩,.int .i64 wd,.int .i64 pr,.bool false,.bool false,.int .u8 (c.toNat:Nat),.bool false,.string ⟨#[]⟩],.int .u8 x] w fun e w'=>e=.returned (.bool (fl.contains k))∧Below w.heap.size w w':=by
 subst hx
 obtain ⟨m,hm⟩:∃ m,m=Lib.indexByte fl k:=⟨_,rfl⟩
 have HC:=hid (show decide (0≤m)=fl.contains k by rw [hm];exact (Lib.contains_iff_indexByte fl k).symm)
 have hix:∀ w,Calls Tryz.prog 88 #[.string ⟨fl.toArray⟩,.int .u8 (k.toNat:Nat)] w fun e w'=>e=.returned (.int .i64 m)∧w'=w:=fun w=>by
  have h:=Tryz.strings_IndexByte ⟨fl.toArray⟩ (k.toNat:Int) w
  rw [show (k.toNat:Int).toNat.toUInt8=k by simp] at h
  rw [hm]
  exact h
 have HIX:=hid hix
 clear hix hm
 go_enter Tryz.func108,Tryz.ntmps108
 go_wp2_with fail
 (with_reducible refine (HIX.out _).mono ?_);rintro e w1 ⟨rfl,rfl⟩
 go_wp2
 go_ret
 exact ⟨by rw [← HC.out];rfl,(Below.refl _ _).alloc (Nat.le_refl _) _⟩
end
theorem belowS (w:World) (o:Obj):Below w.heap.size w (w.alloc o):=(Below.refl _ _).alloc (Nat.le_refl _) _
theorem rep_one (k:UInt8):∀ n:Nat,Lib.repeatL [k] n=List.replicate n k
 | 0=>rfl
 | n+1=>by
  show [k]++Lib.repeatL [k] n=_
  rw [rep_one k n]
  rfl
theorem repeat_fn (k:UInt8) {X:ByteArray} (hX:X=⟨#[k]⟩) (N:Nat) (hN:N≤1000000) (w:World):Calls Tryz.prog 58 #[.string X,.int .i64 (N:Nat)] w fun e w'=>e=.returned (.string ⟨(List.replicate N k).toArray⟩)∧Below w.heap.size w w':=by
 subst hX
 have h:=Tryz.strings_Repeat ⟨#[k]⟩ N w (by omega) (by rw [show (⟨#[k]⟩:ByteArray).size=1 from rfl];omega)
 rw [show (⟨#[k]⟩:ByteArray).data.toList=[k] from rfl,rep_one] at h
 exact h
theorem cat_run (x y:Str) (hx:x.length≤2000000) (hy:y.length≤2000000) (u:World):(Op.stringOp .add ⟨x.toArray⟩ ⟨y.toArray⟩).run Tryz.prog u=.ok (.string ⟨(x++y).toArray⟩) u:=
 run_string_add_lists u x y (by omega) (by omega)
section
variable {A wd pr:Int} {tx fl:Str} {c:UInt8}
set_option maxRecDepth 100000 in
set_option maxHeartbeats 1000000 in
theorem spread_fn (s:Str) (hs:s.length≤1000000) (first:Nat) (hf:first≤s.length) (zeros:Bool) (h1:-1≤wd) (h2:wd≤1000) (w:World) :
  Calls Tryz.prog 109 #[.agg #[.int .i64 A,.string ⟨tx.toArray⟩,.int .i64 0,.string ⟨fl.toArray⟩,.int .i64 wd,.int .i64 pr,.bool false,.bool false,.int .u8 (c.toNat:Nat),.bool false,.string ⟨#[]⟩],.string ⟨s.toArray⟩,.int .i64 (first:Nat),.bool zeros] w fun e w'=>e=.returned (.string ⟨(spreadE fl wd s first zeros).toArray⟩)∧Below w.heap.size w w':=by
 have hsz:(⟨s.toArray⟩:ByteArray).size=s.length:=Lib.size_mk _
 by_cases hle:wd-(s.length:Int)≤0
 ·have HR:=hid (show spreadE fl wd s first zeros=s by unfold spreadE;rw [if_pos hle])
  go_enter Tryz.func109,Tryz.ntmps109
  go_wp2
  go_ret
  exact ⟨by rw [HR.out];rfl,belowS _ _⟩
 obtain ⟨N,hN⟩:∃ N:Nat,wd=(s.length:Int)+(N:Int):=⟨(wd-(s.length:Int)).toNat,by omega⟩
 have hR:spreadE fl wd s first zeros=if fl.contains 45 then s++List.replicate N 32 else if zeros then s.take first++(List.replicate N 48++s.drop first) else List.replicate N 32++s:=by
  unfold spreadE
  rw [if_neg hle,show (wd-(s.length:Int)).toNat=N by omega]
 rw [hR]
 have hN0:0<N:=by omega
 have hN1:N≤1000:=by omega
 clear hR hle
 subst hN
 obtain ⟨n,hn⟩:∃ n,n=s.length:=⟨_,rfl⟩
 have hHAS:=fun w=>has_fn (A:=A) (wd:=(s.length:Int)+(N:Int)) (pr:=pr) (tx:=tx) (fl:=fl) (c:=c) 45 (x:=45) rfl w
 rw [← hn] at hHAS hsz hs hf h1 h2 ⊢
 have HN:=hid hn
 clear hn
 have hdn:((n:Int)+(N:Int)-(n:Int))=(N:Int):=by omega
 have hN0I:¬ ((N:Int)≤0):=by omega
 cases hq:fl.contains 45 with
 | true=>
  have hh:=hHAS
  rw [hq] at hh
  have HH:=hid hh
  have HRP:=hid (fun w=>repeat_fn 32 (X:=⟨#[32]⟩) rfl N (by omega) w)
  obtain ⟨Z,hZ⟩:∃ Z:ByteArray,Z=⟨(List.replicate N 32).toArray⟩:=⟨_,rfl⟩
  obtain ⟨B,hB⟩:∃ B:ByteArray,B=⟨(s++List.replicate N 32).toArray⟩:=⟨_,rfl⟩
  have hcat:∀ u:World,(Op.stringOp .add ⟨s.toArray⟩ Z).run Tryz.prog u=.ok (.string B) u:=fun u=>by rw [hZ,hB];exact cat_run s _ (by rw [← HN.out];omega) (by rw [List.length_replicate];omega) u
  rw [if_pos rfl,← hB]
  rw [← hZ] at HRP
  clear hHAS hh hq hZ hB
  go_enter Tryz.func109,Tryz.ntmps109
  go_wp2_with fail
  (with_reducible refine (HH.out _).mono ?_);rintro e w1 ⟨rfl,hb1⟩
  have hz1:=hb1.size
  go_wp2_with fail
  (with_reducible refine (HRP.out _).mono ?_);rintro e w2 ⟨rfl,hb2⟩
  go_wp2
  go_ret
  exact ⟨rfl,(((belowS _ _).trans (hb1.mono (by simp))).trans (hb2.mono (by have:=hb1.size;simp at this;omega)))⟩
 | false=>
  have hh:=hHAS
  rw [hq] at hh
  have HH:=hid hh
  rw [if_neg (by decide)]
  cases zeros with
  | false=>
   have HRP:=hid (fun w=>repeat_fn 32 (X:=⟨#[32]⟩) rfl N (by omega) w)
   obtain ⟨Z,hZ⟩:∃ Z:ByteArray,Z=⟨(List.replicate N 32).toArray⟩:=⟨_,rfl⟩
   obtain ⟨B,hB⟩:∃ B:ByteArray,B=⟨(List.replicate N 32++s).toArray⟩:=⟨_,rfl⟩
   have hcat:∀ u:World,(Op.stringOp .add Z ⟨s.toArray⟩).run Tryz.prog u=.ok (.string B) u:=fun u=>by rw [hZ,hB];exact cat_run _ s (by rw [List.length_replicate];omega) (by rw [← HN.out];omega) u
   rw [if_neg (by decide),← hB]
   rw [← hZ] at HRP
   clear hHAS hh hq hZ hB
   go_enter Tryz.func109,Tryz.ntmps109
   go_wp2_with fail
   (with_reducible refine (HH.out _).mono ?_);rintro e w1 ⟨rfl,hb1⟩
   have hz1:=hb1.size
   go_wp2_with fail
   (with_reducible refine (HRP.out _).mono ?_);rintro e w2 ⟨rfl,hb2⟩
   go_wp2
   go_ret
   exact ⟨rfl,(((belowS _ _).trans (hb1.mono (by simp))).trans (hb2.mono (by have:=hb1.size;simp at this;omega)))⟩
  | true=>
   have HRP:=hid (fun w=>repeat_fn 48 (X:=⟨#[48]⟩) rfl N (by omega) w)
   obtain ⟨Z,hZ⟩:∃ Z:ByteArray,Z=⟨(List.replicate N 48).toArray⟩:=⟨_,rfl⟩
   obtain ⟨Y1,hY1⟩:∃ B:ByteArray,B=⟨(s.take first).toArray⟩:=⟨_,rfl⟩
   obtain ⟨Y2,hY2⟩:∃ B:ByteArray,B=⟨(s.drop first).toArray⟩:=⟨_,rfl⟩
   obtain ⟨Y3,hY3⟩:∃ B:ByteArray,B=⟨(s.take first++List.replicate N 48).toArray⟩:=⟨_,rfl⟩
   obtain ⟨B,hB⟩:∃ B:ByteArray,B=⟨(s.take first++(List.replicate N 48++s.drop first)).toArray⟩:=⟨_,rfl⟩
   have HE1:=hid (show (⟨s.toArray⟩:ByteArray).extract 0 first=Y1 by rw [hY1,Lib.extract_mk];simp)
   have HE2:=hid (show (⟨s.toArray⟩:ByteArray).extract first n=Y2 by rw [hY2,Lib.extract_mk,HN.out,List.take_of_length_le (by rw [List.length_drop];exact Nat.le_refl _)])
   have HC1:=hid (show ∀ u:World,(Op.stringOp .add Y1 Z).run Tryz.prog u=.ok (.string Y3) u from fun u=>by rw [hZ,hY1,hY3];exact cat_run _ _ (by rw [List.length_take,← HN.out];omega) (by rw [List.length_replicate];omega) u)
   have HC2:=hid (show ∀ u:World,(Op.stringOp .add Y3 Y2).run Tryz.prog u=.ok (.string B) u from fun u=>by rw [hY2,hY3,hB,← List.append_assoc];exact cat_run _ _ (by rw [List.length_append,List.length_take,List.length_replicate,← HN.out];omega) (by rw [List.length_drop,← HN.out];omega) u)
   rw [if_pos rfl,← hB]
   rw [← hZ] at HRP
   clear hHAS hh hq hZ hY1 hY2 hY3 hB
   have hfI:(first:Int)≤(n:Int):=by omega
   go_enter Tryz.func109,Tryz.ntmps109
   go_wp2_with fail
   (with_reducible refine (HH.out _).mono ?_);rintro e w1 ⟨rfl,hb1⟩
   have hz1:=hb1.size
   have HB1:=hid hb1
   clear hb1
   go_upto_region 7 with fail
   have S0:Hid ((fun _:World=>True) w1.drew):=hid trivial
   refine U_begin (late:=fun _=>false) (S:=fun _:World=>True) (by kernel_rfl) ?_
   refine U_take2 8 (i:=0) (v:=.string ⟨s.toArray⟩) rfl (by kernel_rfl) (by kernel_rfl) (by kernel_rfl) (by kernel_rfl) (by kernel_rfl) (fun _ _ _ h=>h) (.inl ⟨rfl,fun u hu=>(by go_simp)⟩) S0.out ?_
   refine U_take2 8 (i:=1) (v:=.int .i64 (first:Nat)) rfl (by kernel_rfl) (by kernel_rfl) (by kernel_rfl) (by kernel_rfl) (by kernel_rfl) (fun _ _ _ h=>h) (.inl ⟨rfl,fun u hu=>(by go_simp)⟩) S0.out ?_
   refine U_take2 8 (i:=2) (v:=.string Y1) rfl (by kernel_rfl) (by kernel_rfl) (by kernel_rfl) (by kernel_rfl) (by kernel_rfl) (fun _ _ _ h=>h) (.inl ⟨rfl,fun u hu=>(by go_simp<;>(try rw [if_pos ⟨by omega,by omega⟩])<;>(try rw [HE1.out])<;>(try rw [if_pos ⟨by omega,by omega⟩]))⟩) S0.out ?_
   refine U_take2 8 (i:=3) (v:=.int .i64 (N:Nat)) rfl (by kernel_rfl) (by kernel_rfl) (by kernel_rfl) (by kernel_rfl) (by kernel_rfl) (fun _ _ _ h=>h) (.inl ⟨rfl,fun u hu=>(by go_simp)⟩) S0.out ?_
   refine U_take2 8 (i:=6) (v:=.string ⟨s.toArray⟩) rfl (by kernel_rfl) (by kernel_rfl) (by kernel_rfl) (by kernel_rfl) (by kernel_rfl) (fun _ _ _ h=>h) (.inl ⟨rfl,fun u hu=>(by go_simp)⟩) S0.out ?_
   refine U_take2 8 (i:=7) (v:=.int .i64 (first:Nat)) rfl (by kernel_rfl) (by kernel_rfl) (by kernel_rfl) (by kernel_rfl) (by kernel_rfl) (fun _ _ _ h=>h) (.inl ⟨rfl,fun u hu=>(by go_simp)⟩) S0.out ?_
   refine U_take2 8 (i:=8) (v:=.string Y2) rfl (by kernel_rfl) (by kernel_rfl) (by kernel_rfl) (by kernel_rfl) (by kernel_rfl) (fun _ _ _ h=>h) (.inl ⟨rfl,fun u hu=>(by go_simp<;>(try rw [if_pos ⟨by omega,by omega⟩])<;>(try rw [HE2.out])<;>(try rw [if_pos ⟨by omega,by omega⟩]))⟩) S0.out ?_
   refine U_step (j:=4) (by kernel_rfl) rfl (fun K9 hK9=>?_)
   go_simp
   (with_reducible refine (HRP.out _).mono ?_);rintro e w6 ⟨rfl,hb6⟩
   have S6:Hid ((fun _:World=>True) w6):=hid trivial
   refine hK9.out _ _ (.inr S6.out) ?_
   clear hK9 K9 S0
   have HB6:=hid hb6
   clear hb6
   refine U_take2 8 (i:=5) (v:=.string Y3) rfl (by kernel_rfl) (by kernel_rfl) (by kernel_rfl) (by kernel_rfl) (by kernel_rfl) (fun _ _ _ h=>h) (.inl ⟨rfl,fun u hu=>(by have hk:=HC1.out u;go_simp)⟩) S6.out ?_
   refine U_take2 8 (i:=9) (v:=.string B) rfl (by kernel_rfl) (by kernel_rfl) (by kernel_rfl) (by kernel_rfl) (by kernel_rfl) (fun _ _ _ h=>h) (.inl ⟨rfl,fun u hu=>(by have hk:=HC2.out u;go_simp)⟩) S6.out ?_
   refine U_take2 8 (i:=10) (v:=.string B) rfl (by kernel_rfl) (by kernel_rfl) (by kernel_rfl) (by kernel_rfl) (by kernel_rfl) (fun _ _ _ h=>h) (.inl ⟨rfl,fun u hu=>(by go_simp)⟩) S6.out ?_
   refine U_done (by kernel_rfl) ?_ _
   clear S6
   go_wp2
   go_ret
   exact ⟨rfl,(((belowS _ _).trans (HB1.out.mono (by simp))).trans ((show Below w1.heap.size w1 w6 from (Below.refl _ w1).drew.trans HB6.out).mono (by have:=HB1.out.size;simp at this;omega)))⟩
end
end Go.Proofs.YtbilphfbfnohmaaGreatDoor.Pz
namespace Go.Proofs.YtbilphfbfnohmaaGreatDoor.Pz
open Go.RowKit
def CvS (w:World) (q:Nat) (cs:Array Value):Prop:=w.heap[q]? = some (.cells cs 78 (0,0))
section
variable {w w':World} {q:Nat} {cs:Array Value}
theorem CvS.lt (h:CvS w q cs):q<w.heap.size:=(Array.getElem?_eq_some_iff.1 h).1
theorem CvS.cell (h:CvS w q cs) (j:Nat) {v:Value} (hv:cs[j]? = some v):w.cell? ⟨q,j,none⟩=some v:=by
 rw [Lib.cell_of_heap h]
 exact hv
theorem CvS.fz (h:CvS w q cs) (j:Nat):w.frozen? ⟨q,j,none⟩=false:=Lib.frozen_of_heap h j
theorem CvS.on (h:CvS w q cs) {A:List Nat} (ho:OnlyS A w w') (hq:q ∉ A):CvS w' q cs:=ho.cells h hq
theorem CvS.set (h:CvS w q cs) (j:Nat) (v:Value):CvS (w.setCell ⟨q,j,none⟩ v) q (cs.setIfInBounds j v):=by
 unfold CvS at h ⊢
 simp [World.setCell,Array.getElem?_modify,h]
theorem CvS.other (h:CvS w q cs) {p:Nat} (hp:q≠p) (j:Nat) (v:Value):CvS (w.setCell ⟨p,j,none⟩ v) q cs:=(Below.heap_setCell _ _ _ _ (by exact hp)).trans h
theorem SRd.other {p i:Nat} {s:Str} (h:SRd w p s i) (hp:p≠q) (j:Nat) (v:Value):SRd (w.setCell ⟨q,j,none⟩ v) p s i:=(Below.heap_setCell _ _ _ _ (by exact hp)).trans h
end
set_option maxRecDepth 1000000 in
set_option maxHeartbeats 1000000 in
theorem written_pct {w:World} {p q i:Nat} {s t:Str} {A:Int} (h:SRd w p s i) (ha:At s (37::t) i) (hs:s.length≤1000000) (hc:CvS w q (cvCells A [] [] 0 0 false false 0 false)) (hpq:p≠q) :
  Calls Tryz.prog 89 #[.pointer (some ⟨p,0,none⟩),.pointer (some ⟨q,0,none⟩)] w fun e w'=>e=.returned (.bool true)∧SRd w' p s (i+1)∧CvS w' q (cvCells A [] [] (-1) (-1) false false 37 false)∧OnlyS [p,q] w w':=by
 have c4:=hc.cell 4 (v:=.int .i64 0) rfl
 have c5:=hc.cell 5 (v:=.int .i64 0) rfl
 have c8:=hc.cell 8 (v:=.int .u8 0) rfl
 have f4:=hc.fz 4
 have f5:=hc.fz 5
 have f8:=hc.fz 8
 obtain ⟨w1,hw1⟩:∃ w1,w1=(w.setCell ⟨q,4,none⟩ (.int .i64 (-1))).setCell ⟨q,5,none⟩ (.int .i64 (-1)):=⟨_,rfl⟩
 have h1:SRd w1 p s i:=by rw [hw1];exact (h.other hpq _ _).other hpq _ _
 have hc1:CvS w1 q (cvCells A [] [] (-1) (-1) false false 0 false):=by rw [hw1];exact (hc.set 4 _).set 5 _
 have ho1:OnlyS [p,q] w w1:=by rw [hw1];exact (OnlyS.set (by simp) _).trans (OnlyS.set (by simp) _)
 have HT:=hid (take_yes (x:=37) h1 ha hs rfl)
 have HC1:=hid hc1
 have HO1:=hid ho1
 have HW1:=hid hw1
 clear h h1 hc1 ho1 hw1 hc ha
 go_enter Tryz.func89,Tryz.ntmps89
 go_wp2_with fail
 rw [← HW1.out]
 (with_reducible refine HT.out.mono ?_);rintro e w2 ⟨rfl,h2,ho2⟩
 have hc2:=HC1.out.on ho2 (by simpa using fun e=>hpq e.symm)
 have k8:=hc2.cell 8 (v:=.int .u8 0) rfl
 have g8:=hc2.fz 8
 have H2:=hid h2
 have HC2:=hid hc2
 have HO2:=hid ho2
 clear h2 hc2 ho2 c4 c5 c8 f4 f5 f8
 go_wp2
 go_ret
 exact ⟨rfl,H2.out.other hpq _ _,HC2.out.set 8 _,(HO1.out.trans (HO2.out.more (by simp))).trans (OnlyS.set (by simp) _)⟩
theorem flag_fn (c:UInt8):∃ m:Int,(isFlag c=true→0≤m)∧(isFlag c=false→m<0)∧∀ w,Calls Tryz.prog 88 #[.string ⟨#[45,43,48,35,32]⟩,.int .u8 (c.toNat:Nat)] w fun e w'=>e=.returned (.int .i64 m)∧w'=w:=by
 have h2:(List.range 256).all (fun n=>isFlag (UInt8.ofNat n) == decide ((0:Int)≤Lib.indexByte [45,43,48,35,32] (UInt8.ofNat n)))=true:=by kernel_rfl
 have h3:=List.all_eq_true.1 h2 c.toNat (List.mem_range.2 c.toNat_lt)
 rw [UInt8.ofNat_toNat,beq_iff_eq] at h3
 refine ⟨Lib.indexByte [45,43,48,35,32] c,fun h=>by rw [h] at h3;exact of_decide_eq_true h3.symm,fun h=>by rw [h] at h3;have:=of_decide_eq_false h3.symm;omega,fun w=>?_⟩
 have h1:=Tryz.strings_IndexByte ⟨#[45,43,48,35,32]⟩ (c.toNat:Int) w
 rw [show (c.toNat:Int).toNat.toUInt8=c by simp] at h1
 exact h1
theorem letter_fn (c:UInt8):∃ m:Int,(isLet false c=true→0≤m)∧∀ w,Calls Tryz.prog 88 #[.string ⟨#[100,120,88,111,98,99,115,113]⟩,.int .u8 (c.toNat:Nat)] w fun e w'=>e=.returned (.int .i64 m)∧w'=w:=by
 have h2:(List.range 256).all (fun n=>!isLet false (UInt8.ofNat n) || decide ((0:Int)≤Lib.indexByte [100,120,88,111,98,99,115,113] (UInt8.ofNat n)))=true:=by kernel_rfl
 have h3:=List.all_eq_true.1 h2 c.toNat (List.mem_range.2 c.toNat_lt)
 rw [UInt8.ofNat_toNat] at h3
 refine ⟨Lib.indexByte [100,120,88,111,98,99,115,113] c,fun h=>by rw [h] at h3;simpa using h3,fun w=>?_⟩
 have h1:=Tryz.strings_IndexByte ⟨#[100,120,88,111,98,99,115,113]⟩ (c.toNat:Int) w
 rw [show (c.toNat:Int).toNat.toUInt8=c by simp] at h1
 exact h1
set_option maxRecDepth 100000 in
theorem wide_fn {w:World} {p i:Nat} {s l:Str} (h:SRd w p s i) (ha:At s l i) (hs:s.length≤1000000) (h0:l.headD 0≠48) :
  Calls Tryz.prog 141 #[.pointer (some ⟨p,0,none⟩)] w fun e w'=>e=.returned (.int .i64 (numE (digRun 3 l)))∧SRd w' p s (i+(digRun 3 l).length)∧OnlyS [p] w w':=by
 obtain ⟨z,hz⟩:∃ z,z=l.headD 0:=⟨_,rfl⟩
 have HNX:=hid (next_fn h ha hs)
 rw [← hz] at HNX h0
 have n48:=byte_ne 48 h0 rfl
 clear hz
 have H:=hid h
 have HA:=hid ha
 clear h ha h0
 go_enter Tryz.func141,Tryz.ntmps141
 go_wp2_with fail
 (with_reducible refine HNX.out.mono ?_);rintro e w1 ⟨rfl,ho1⟩
 have HNU:=hid (number_fn (M:=3) (H.out.on ho1 (by simp)) HA.out hs 3 (by decide) rfl)
 have HO1:=hid ho1
 clear ho1
 go_wp2_with fail
 (with_reducible refine HNU.out.mono ?_);rintro e w2 ⟨rfl,h2,ho2⟩
 have HR2:=hid h2
 have HO2:=hid (HO1.out.trans (show OnlyS [] w1 w1 from OnlyS.refl _ _))
 have HO3:=hid ho2
 clear h2 ho2
 go_wp2
 go_ret
 exact ⟨rfl,HR2.out,(HO2.out.more (by simp)).trans HO3.out⟩
structure FlagSt (p q i:Nat) (s:Str) (A:Int) (fl:Str) (w wr:World) (a:Str):Prop where
 rd:SRd wr p s (i+a.length)
 cv:CvS wr q (cvCells A [] a (-1) (-1) false false 0 false)
 only:OnlyS [p,q] w wr
set_option maxRecDepth 1000000 in
set_option maxHeartbeats 1000000 in
theorem written_cnv {w:World} {p q i:Nat} {s fl wd r:Str} {c:UInt8} {A:Int} (h:SRd w p s i) (ha:At s (fl++(wd++c::r)) i) (hs:s.length≤1000000) (hc:CvS w q (cvCells A [] [] 0 0 false false 0 false)) (hpq:p≠q) (hok:CnvP false fl wd c) :
    Calls Tryz.prog 89 #[.pointer (some ⟨p,0,none⟩),.pointer (some ⟨q,0,none⟩)] w fun e w'=>e=.returned (.bool true)∧SRd w' p s (i+(fl.length+wd.length+1))∧CvS w' q (cvCells A [] fl (numE wd) (-1) false false c false)∧OnlyS [p,q] w w':=by
  have c4:=hc.cell 4 (v:=.int .i64 0) rfl
  have c5:=hc.cell 5 (v:=.int .i64 0) rfl
  have f4:=hc.fz 4
  have f5:=hc.fz 5
  obtain ⟨w1,hw1⟩:∃ w1,w1=(w.setCell ⟨q,4,none⟩ (.int .i64 (-1))).setCell ⟨q,5,none⟩ (.int .i64 (-1)):=⟨_,rfl⟩
  have h1:SRd w1 p s i:=by rw [hw1];exact (h.other hpq _ _).other hpq _ _
  have hc1:CvS w1 q (cvCells A [] [] (-1) (-1) false false 0 false):=by rw [hw1];exact (hc.set 4 _).set 5 _
  have ho1:OnlyS [p,q] w w1:=by rw [hw1];exact (OnlyS.set (by simp) _).trans (OnlyS.set (by simp) _)
  obtain ⟨x,t,hxt,hx36⟩:=hok.ahead 2 r
  have hh37:(fl++(wd++c::r)).head?≠some 37:=by
    cases fl with
    | cons y l=>intro e;exact (isFlag_ne (List.all_eq_true.1 hok.flags y (by simp))).2 (Option.some.inj e)
    | nil=>
      cases wd with
      | cons y l=>intro e;exact (isDig_ne (List.all_eq_true.1 hok.digits y (by simp))).2.1 (Option.some.inj e)
      | nil=>intro e;exact (isLet_dig hok.letter).2.2.2.1 (Option.some.inj e)
  have HT:=hid (take_no (x:=37) h1 ha hs 37 rfl hh37)
  have HA:=hid ha
  have HC1:=hid hc1
  have HO1:=hid ho1
  have HW1:=hid hw1
  have HR1:=hid h1
  have HOK:=hid hok
  have HXT:=hid hxt
  obtain ⟨D,hD⟩:∃ D,D=digRun 2 (fl++(wd++c::r)):=⟨_,rfl⟩
  have HD:=hid hD
  rw [← hD] at hxt
  obtain ⟨N,hN⟩:∃ N,N=numE D:=⟨_,rfl⟩
  have HN:=hid hN
  have HXD:=hid hxt
  have HX36:=hid hx36
  clear h h1 hc1 ho1 hw1 hc ha hok hxt hD hN hh37 hx36
  go_enter Tryz.func89,Tryz.ntmps89
  go_wp2_with fail
  rw [← HW1.out]
  (with_reducible refine HT.out.mono ?_);rintro e w2 ⟨rfl,ho2⟩
  have hrd2:=HR1.out.on ho2 (by simp)
  have hc2:=HC1.out.on ho2 (by simp)
  have e1:=hrd2.c1
  have HNU:=hid (number_fn (M:=2) hrd2 HA.out hs 2 (by decide) rfl)
  rw [← HD.out,← HN.out] at HNU
  have HRD2:=hid hrd2
  have HC2:=hid hc2
  have HO2:=hid (HO1.out.trans (ho2.more (by simp)))
  clear ho2 hrd2 hc2 c4 c5 f4 f5
  go_wp2_with fail
  (with_reducible refine HNU.out.mono ?_);rintro e w3 ⟨rfl,h3,ho3⟩
  have hc3:=HC2.out.on ho3 (by simpa using fun e=>hpq e.symm)
  have HR3:=hid h3
  have HC3:=hid hc3
  have HO3:=hid (HO2.out.trans (ho3.more (by simp)))
  clear h3 hc3 ho3 e1
  go_upto_region 7 with fail
  go_cut [38] from 7 to 159 (fun v wx=>v=.bool false∧SRd wx p s (i+D.length)∧OnlyS [p] w3 wx)
  case first=>as_aux_lemma=>
    by_cases hn:1≤N
    · have hDne : D ≠ [] := by
        intro e
        rw [HN.out,e] at hn
        exact absurd hn (by decide)
      obtain ⟨y,D',hyD⟩:∃ y D',D=y::D':=by
        cases D with
        | nil=>exact absurd rfl hDne
        | cons y D'=>exact ⟨y,D',rfl⟩
      have hat:=HA.out
      rw [HXD.out,hyD] at hat
      have hg:∀ h',(⟨s.toArray⟩:ByteArray)[i]'h'=y:=At.byte hat
      have hlt:(i:Int)<(s.length:Int):=by have:=At.lt hat;omega
      have hsz:(⟨s.toArray⟩:ByteArray).size=s.length:=by rw [Lib.size_mk]
      have e0:=HR3.out.c0
      clear hat hyD hDne
      by_cases hy:y=48
      · have y48:((y.toNat:Int) != 48)=false:=by rw [hy];rfl
        clear hy
        go_wp2
        go_meet
        case rel=>exact ⟨rfl,HR3.out,OnlyS.refl _ _⟩
      · have y48 : ((y.toNat : Int) != 48) = true := by
          rw [bne_iff_ne]
          intro e
          exact hy (UInt8.toNat_inj.1 (show y.toNat=(48:UInt8).toNat by have h48:(48:UInt8).toNat=48:=rfl;omega))
        clear hy
        have hat2:At s (x::t) (i+D.length):=by
          have h9:=HA.out
          rw [HXD.out] at h9
          exact h9.app
        have HTK:=hid (take_no (x:=36) HR3.out hat2 hs 36 rfl (by intro e;exact HX36.out (Option.some.inj e)))
        clear hat2
        go_wp2_with fail
        (with_reducible refine HTK.out.mono ?_);rintro e w4 ⟨rfl,ho4⟩
        have HO4:=hid ho4
        clear ho4
        go_wp2
        go_meet
        case rel=>exact ⟨rfl,HR3.out.on HO4.out (by simp),HO4.out.more (by simp)⟩
    · have hnd:decide (1≤N)=false:=decide_eq_false hn
      go_wp2
      go_meet
      case rel=>exact ⟨rfl,HR3.out,OnlyS.refl _ _⟩
  obtain ⟨rfl,h4,ho4⟩:=hcut
  have hc4:=HC3.out.on ho4 (by simpa using fun e=>hpq e.symm)
  have e0:=h4.c0
  have e1:=h4.c1
  have f1:=h4.f1
  have HO4:=hid (HO3.out.trans (ho4.more (by simp)))
  obtain ⟨w5,hw5⟩:∃ w5,w5=wc.setCell ⟨p,1,none⟩ (.int .i64 (i:Nat)):=⟨_,rfl⟩
  have hF5:FlagSt p q i s A fl w w5 []:=⟨by rw [hw5];exact h4.set i,by rw [hw5];exact hc4.other (fun e=>hpq e.symm) _ _,by rw [hw5];exact HO4.out.trans (OnlyS.set (by simp) _)⟩
  have HF5:=hid hF5
  have HW5:=hid hw5
  clear h4 ho4 hc4 hF5 hw5
  go_wp2_with fail
  rw [← HW5.out]
  clear e0 e1 f1
  go_loopg [] fl.length (fun k wr=>∃ a b:Str,Hid (fl=a++b)∧FlagSt p q i s A fl w wr a∧k=b.length)
  case atStart=>exact ⟨[],fl,hid rfl,HF5.out,rfl⟩
  case round=>
    obtain ⟨a,b,HAB,hF,rfl⟩:=hrel
    have hat:At s (b++(wd++c::r)) (i+a.length):=by
      have h9:=HA.out
      rw [HAB.out,List.append_assoc] at h9
      exact h9.app
    obtain ⟨K,hK⟩:∃ K,K=a.length:=⟨_,rfl⟩
    rw [← hK] at hat
    have hrd:=hF.rd
    rw [← hK] at hrd
    have e0:=hrd.c0
    have e1:=hrd.c1
    have g1:=hrd.f1
    rw [show ((i+K:Nat):Int)=(i:Int)+(K:Int) by omega] at e1
    have d3:=hF.cv.cell 3 (v:=.string ⟨a.toArray⟩) rfl
    have g3:=hF.cv.fz 3
    have hsz:(⟨s.toArray⟩:ByteArray).size=s.length:=by rw [Lib.size_mk]
    have hti:((i:Int)+(K:Int)).toNat=i+K:=by omega
    have HF:=hid hF
    have HRD:=hid hrd
    have HK:=hid hK
    clear hF hrd hK
    cases b with
    | cons x b=>
      have hfx:isFlag x=true:=List.all_eq_true.1 HOK.out.flags x (by rw [HAB.out];simp)
      obtain ⟨m,hm1,-,hm3⟩:=flag_fn x
      have hm0:=hm1 hfx
      have HM:=hid hm3
      have hlt:(i:Int)+(K:Int)<(s.length:Int):=by have:=At.lt hat;omega
      have hlN:i+K<s.length:=At.lt hat
      have hg:∀ h',(⟨s.toArray⟩:ByteArray)[i+K]'h'=x:=At.byte hat
      have HEXT:=hid (show (⟨s.toArray⟩:ByteArray).extract (i+K) (i+K+1)=⟨[x].toArray⟩ from At.text (x:=[x]) hat)
      clear hat hm1 hm3 hfx
      go_wp2
      go_quiet ((go_at_call 88;exact Calls.quiet_of_same (HM.out _)))
      go_wp2
      obtain ⟨wn,hwn⟩:∃ wn,wn=wr.drewN nq:=⟨_,rfl⟩
      have hcvn:CvS wn q (cvCells A [] a (-1) (-1) false false 0 false):=by rw [hwn];exact HF.out.cv
      have hrdn:SRd wn p s (i+K):=by rw [hwn];exact HRD.out
      have hon:OnlyS [p,q] w wn:=by rw [hwn];exact HF.out.only.trans (OnlyS.drewN _ _ _)
      rw [← hwn]
      clear hwn d3 g3 e0 e1 g1
      have d3:=hcvn.cell 3 (v:=.string ⟨a.toArray⟩) rfl
      have g3:=hcvn.fz 3
      have e0:=hrdn.c0
      have e1:=hrdn.c1
      rw [show ((i+K:Nat):Int)=(i:Int)+(K:Int) by omega] at e1
      have HCVN:=hid hcvn
      have HRDN:=hid hrdn
      have HON:=hid hon
      clear hcvn hrdn hon
      obtain ⟨C,hC⟩:∃ C:ByteArray,C=⟨a.toArray⟩:=⟨_,rfl⟩
      obtain ⟨X,hX⟩:∃ X:ByteArray,X=⟨[x].toArray⟩:=⟨_,rfl⟩
      obtain ⟨B,hB⟩:∃ B:ByteArray,B=⟨(a++[x]).toArray⟩:=⟨_,rfl⟩
      have HCAT:=hid (show ∀ u:World,(Op.stringOp .add C X).run Tryz.prog u=.ok (.string B) u by
        intro u
        rw [hC,hX,hB]
        exact run_string_add_lists u a [x] (by have:=HK.out;omega) (by rw [List.length_singleton];decide))
      rw [← hC] at d3
      rw [← hX] at HEXT
      have HB:=hid hB
      clear hC hX hB
      have S0:Hid ((fun u:World=>u.cell? ⟨q,3,none⟩=some (.string C)∧u.cell? ⟨p,0,none⟩=some (.string ⟨s.toArray⟩)∧u.cell? ⟨p,1,none⟩=some (.int .i64 ((i:Int)+(K:Int)))) wn.drew):=hid ⟨d3,e0,e1⟩
      refine U_begin (late:=fun k=>decide (21≤k)) (S:=fun u:World=>u.cell? ⟨q,3,none⟩=some (.string C)∧u.cell? ⟨p,0,none⟩=some (.string ⟨s.toArray⟩)∧u.cell? ⟨p,1,none⟩=some (.int .i64 ((i:Int)+(K:Int)))) (by kernel_rfl) ?_
      refine U_take2 8 (i:=0) (v:=.pointer (some ⟨q,0,none⟩)) rfl (by kernel_rfl) (by kernel_rfl) (by kernel_rfl) (by kernel_rfl) (by kernel_rfl) (fun _ _ _ h=>h) (.inl ⟨rfl,fun u hu=>(by go_simp)⟩) S0.out ?_
      refine U_take2 8 (i:=1) (v:=.pointer (some ⟨q,0,none⟩)) rfl (by kernel_rfl) (by kernel_rfl) (by kernel_rfl) (by kernel_rfl) (by kernel_rfl) (fun _ _ _ h=>h) (.inl ⟨rfl,fun u hu=>(by go_simp)⟩) S0.out ?_
      refine U_take2 8 (i:=2) (v:=.pointer (some ⟨q,3,none⟩)) rfl (by kernel_rfl) (by kernel_rfl) (by kernel_rfl) (by kernel_rfl) (by kernel_rfl) (fun _ _ _ h=>h) (.inl ⟨rfl,fun u hu=>(by go_simp)⟩) S0.out ?_
      refine U_take2 8 (i:=3) (v:=.string C) rfl (by kernel_rfl) (by kernel_rfl) (by kernel_rfl) (by kernel_rfl) (by kernel_rfl) (fun _ _ _ h=>h) (.inl ⟨rfl,fun u hu=>(by obtain ⟨h1,h2,h3⟩:=hu;go_simp)⟩) S0.out ?_
      refine U_take2 8 (i:=4) (v:=.pointer (some ⟨p,0,none⟩)) rfl (by kernel_rfl) (by kernel_rfl) (by kernel_rfl) (by kernel_rfl) (by kernel_rfl) (fun _ _ _ h=>h) (.inl ⟨rfl,fun u hu=>(by go_simp)⟩) S0.out ?_
      refine U_take2 8 (i:=5) (v:=.pointer (some ⟨p,0,none⟩)) rfl (by kernel_rfl) (by kernel_rfl) (by kernel_rfl) (by kernel_rfl) (by kernel_rfl) (fun _ _ _ h=>h) (.inl ⟨rfl,fun u hu=>(by go_simp)⟩) S0.out ?_
      refine U_take2 8 (i:=6) (v:=.pointer (some ⟨p,0,none⟩)) rfl (by kernel_rfl) (by kernel_rfl) (by kernel_rfl) (by kernel_rfl) (by kernel_rfl) (fun _ _ _ h=>h) (.inl ⟨rfl,fun u hu=>(by go_simp)⟩) S0.out ?_
      refine U_take2 8 (i:=7) (v:=.string ⟨s.toArray⟩) rfl (by kernel_rfl) (by kernel_rfl) (by kernel_rfl) (by kernel_rfl) (by kernel_rfl) (fun _ _ _ h=>h) (.inl ⟨rfl,fun u hu=>(by obtain ⟨h1,h2,h3⟩:=hu;go_simp)⟩) S0.out ?_
      refine U_take2 8 (i:=8) (v:=.pointer (some ⟨p,0,none⟩)) rfl (by kernel_rfl) (by kernel_rfl) (by kernel_rfl) (by kernel_rfl) (by kernel_rfl) (fun _ _ _ h=>h) (.inl ⟨rfl,fun u hu=>(by go_simp)⟩) S0.out ?_
      refine U_take2 8 (i:=9) (v:=.pointer (some ⟨p,0,none⟩)) rfl (by kernel_rfl) (by kernel_rfl) (by kernel_rfl) (by kernel_rfl) (by kernel_rfl) (fun _ _ _ h=>h) (.inl ⟨rfl,fun u hu=>(by go_simp)⟩) S0.out ?_
      refine U_take2 8 (i:=10) (v:=.pointer (some ⟨p,1,none⟩)) rfl (by kernel_rfl) (by kernel_rfl) (by kernel_rfl) (by kernel_rfl) (by kernel_rfl) (fun _ _ _ h=>h) (.inl ⟨rfl,fun u hu=>(by go_simp)⟩) S0.out ?_
      refine U_take2 8 (i:=11) (v:=.int .i64 ((i:Int)+(K:Int))) rfl (by kernel_rfl) (by kernel_rfl) (by kernel_rfl) (by kernel_rfl) (by kernel_rfl) (fun _ _ _ h=>h) (.inl ⟨rfl,fun u hu=>(by obtain ⟨h1,h2,h3⟩:=hu;go_simp)⟩) S0.out ?_
      refine U_take2 8 (i:=12) (v:=.pointer (some ⟨p,0,none⟩)) rfl (by kernel_rfl) (by kernel_rfl) (by kernel_rfl) (by kernel_rfl) (by kernel_rfl) (fun _ _ _ h=>h) (.inl ⟨rfl,fun u hu=>(by go_simp)⟩) S0.out ?_
      refine U_take2 8 (i:=13) (v:=.pointer (some ⟨p,0,none⟩)) rfl (by kernel_rfl) (by kernel_rfl) (by kernel_rfl) (by kernel_rfl) (by kernel_rfl) (fun _ _ _ h=>h) (.inl ⟨rfl,fun u hu=>(by go_simp)⟩) S0.out ?_
      refine U_take2 8 (i:=14) (v:=.pointer (some ⟨p,1,none⟩)) rfl (by kernel_rfl) (by kernel_rfl) (by kernel_rfl) (by kernel_rfl) (by kernel_rfl) (fun _ _ _ h=>h) (.inl ⟨rfl,fun u hu=>(by go_simp)⟩) S0.out ?_
      refine U_take2 8 (i:=15) (v:=.int .i64 ((i:Int)+(K:Int))) rfl (by kernel_rfl) (by kernel_rfl) (by kernel_rfl) (by kernel_rfl) (by kernel_rfl) (fun _ _ _ h=>h) (.inl ⟨rfl,fun u hu=>(by obtain ⟨h1,h2,h3⟩:=hu;go_simp)⟩) S0.out ?_
      refine U_take2 8 (i:=16) (v:=.int .i64 ((i:Int)+(K:Int)+1)) rfl (by kernel_rfl) (by kernel_rfl) (by kernel_rfl) (by kernel_rfl) (by kernel_rfl) (fun _ _ _ h=>h) (.inl ⟨rfl,fun u hu=>(by go_simp;exact IntWalk.i64_in _ (by omega))⟩) S0.out ?_
      refine U_take2 8 (i:=17) (v:=.string X) rfl (by kernel_rfl) (by kernel_rfl) (by kernel_rfl) (by kernel_rfl) (by kernel_rfl) (fun _ _ _ h=>h) (.inl ⟨rfl,fun u hu=>(by go_simp<;>(try rw [if_pos ⟨by omega,by omega⟩])<;>(try rw [show ((i:Int)+(K:Int)+1).toNat=i+K+1 by omega])<;>(try rw [hti])<;>(try rw [HEXT.out])<;>(try rw [if_pos ⟨by omega,by omega⟩]))⟩) S0.out ?_
      refine U_take2 8 (i:=18) (v:=.string B) rfl (by kernel_rfl) (by kernel_rfl) (by kernel_rfl) (by kernel_rfl) (by kernel_rfl) (fun _ _ _ h=>h) (.inl ⟨rfl,fun u hu=>(by have hk:=HCAT.out u;go_simp)⟩) S0.out ?_
      refine U_take2 8 (i:=19) (v:=.pointer (some ⟨q,0,none⟩)) rfl (by kernel_rfl) (by kernel_rfl) (by kernel_rfl) (by kernel_rfl) (by kernel_rfl) (fun _ _ _ h=>h) (.inl ⟨rfl,fun u hu=>(by go_simp)⟩) S0.out ?_
      refine U_take2 8 (i:=20) (v:=.pointer (some ⟨q,3,none⟩)) rfl (by kernel_rfl) (by kernel_rfl) (by kernel_rfl) (by kernel_rfl) (by kernel_rfl) (fun _ _ _ h=>h) (.inl ⟨rfl,fun u hu=>(by go_simp)⟩) S0.out ?_
      have d3:wn.drew.cell? ⟨q,3,none⟩=some (.string C):=d3
      have g3:wn.drew.frozen? ⟨q,3,none⟩=false:=g3
      refine U_step (j:=21) (by kernel_rfl) rfl (fun K9 hK9=>?_)
      go_simp
      refine hK9.out _ _ (.inl rfl) ?_
      clear hK9 K9
      refine U_done (by kernel_rfl) ?_ _
      obtain ⟨w6,hw6⟩:∃ w6,w6=(wn.setCell ⟨q,3,none⟩ (.string B)).drew:=⟨_,rfl⟩
      have hcv6:CvS w6 q (cvCells A [] (a++[x]) (-1) (-1) false false 0 false):=by
        rw [hw6,HB.out]
        exact CvS.set (w:=wn.drew) HCVN.out 3 _
      have hrd6:SRd w6 p s (i+K):=by rw [hw6];exact SRd.other (w:=wn.drew) HRDN.out hpq _ _
      have ho6:OnlyS [p,q] w w6:=by
        rw [hw6]
        exact (HON.out.trans (show OnlyS [p,q] wn wn.drew from OnlyS.drewN _ _ 1)).trans (OnlyS.set (by simp) _)
      rw [← hw6]
      clear hw6 d3 g3 e0 e1 S0
      have e1:=hrd6.c1
      have g1:=hrd6.f1
      rw [show ((i+K:Nat):Int)=(i:Int)+(K:Int) by omega] at e1
      have HCV6:=hid hcv6
      have HRD6:=hid hrd6
      have HO6:=hid ho6
      clear hcv6 hrd6 ho6
      go_wp2
      go_roundg b.length
      case measure=>simp
      case rel=>exact ⟨a++[x],b,hid (by rw [HAB.out];simp),⟨by rw [List.length_append,← HK.out];exact SRd.put HRD6.out (i+(K+1)) (by omega),HCV6.out.other (fun e=>hpq e.symm) _ _,HO6.out.trans (OnlyS.set (by simp) _)⟩,rfl⟩
    | nil=>
      obtain ⟨z,t2,hzt,hz1,hz2,hz3⟩:=HOK.out.behind r
      have hfa:fl=a:=by rw [HAB.out,List.append_nil]
      have HAT:=hid (show At s (wd++c::r) (i+K) from hat)
      rw [List.nil_append,hzt] at hat
      obtain ⟨m,-,hm2,hm3⟩:=flag_fn z
      have hm0:=hm2 hz1
      have HM:=hid hm3
      have hlt:(i:Int)+(K:Int)<(s.length:Int):=by have:=At.lt hat;omega
      have hlN:i+K<s.length:=At.lt hat
      have hg:∀ h',(⟨s.toArray⟩:ByteArray)[i+K]'h'=z:=At.byte hat
      have HFA:=hid hfa
      have HZT:=hid hzt
      have hrd7:SRd (wr.drewN 0) p s (i+K):=HRD.out
      have HTK:=hid (fun (W:World) (h:SRd W p s (i+K))=>take_no (x:=42) h HAT.out hs 42 rfl (by rw [HZT.out];intro e;exact hz3 (Option.some.inj e)))
      have HZ2:=hid hz2
      clear hat hm2 hm3 hz1 hz2 hz3 hfa hzt hrd7
      go_wp2
      go_quiet ((go_at_call 88;exact Calls.quiet_of_same (HM.out _)))
      have HT7:=hid (HTK.out (wr.drewN nq) HRD.out)
      have hcv7:CvS (wr.drewN nq) q (cvCells A [] a (-1) (-1) false false 0 false):=HF.out.cv
      have ho7:OnlyS [p,q] w (wr.drewN nq):=HF.out.only.trans (OnlyS.drewN _ _ _)
      have hrd7:SRd (wr.drewN nq) p s (i+K):=HRD.out
      have HCV7:=hid hcv7
      have HO7:=hid ho7
      have HRD7:=hid hrd7
      clear hcv7 ho7 hrd7 HTK d3 g3 e0 e1 g1
      go_wp2_with fail
      (with_reducible refine HT7.out.mono ?_);rintro e w8 ⟨rfl,ho8⟩
      have hcv8:=HCV7.out.on ho8 (by simp)
      have hrd8:=HRD7.out.on ho8 (by simp)
      have k6:=hcv8.cell 6 (v:=.bool false) rfl
      have g6:=hcv8.fz 6
      have hrd9:SRd (w8.setCell ⟨q,6,none⟩ (.bool false)) p s (i+K):=hrd8.other hpq _ _
      have hcv9:CvS (w8.setCell ⟨q,6,none⟩ (.bool false)) q (cvCells A [] a (-1) (-1) false false 0 false):=hcv8.set 6 _
      have HW:=hid (wide_fn hrd9 HAT.out hs (by rw [HZT.out];exact HZ2.out))
      rw [HOK.out.run r] at HW
      have HCV9:=hid hcv9
      have HO9:=hid ((HO7.out.trans (ho8.more (by simp))).trans (OnlyS.set (a:=⟨q,6,none⟩) (by simp) (.bool false)))
      clear hcv8 hrd8 ho8 hrd9 hcv9
      go_wp2_with fail
      (with_reducible refine HW.out.mono ?_);rintro e w9 ⟨rfl,h9,ho9⟩
      have hcv10:=HCV9.out.on ho9 (by simpa using fun e=>hpq e.symm)
      have k4:=hcv10.cell 4 (v:=.int .i64 (-1)) rfl
      have g4:=hcv10.fz 4
      obtain ⟨L,hL⟩:∃ L,L=wd.length:=⟨_,rfl⟩
      rw [← hL] at h9
      have HLL:=hid hL
      have hrd11:SRd (w9.setCell ⟨q,4,none⟩ (.int .i64 (numE wd))) p s (i+K+L):=h9.other hpq _ _
      have hcv11:CvS (w9.setCell ⟨q,4,none⟩ (.int .i64 (numE wd))) q (cvCells A [] a (numE wd) (-1) false false 0 false):=hcv10.set 4 _
      have hat11:At s (c::r) (i+K+L):=by rw [hL];exact HAT.out.app
      obtain ⟨hl1,hl2,hl3,hl4,hl5,hl6,hl7⟩:=isLet_dig HOK.out.letter
      have HT11:=hid (take_no (x:=46) hrd11 hat11 hs 46 rfl (by intro e;exact hl6 (Option.some.inj e)))
      have n0:=byte_ne' 0 hl7 rfl
      have HCV11:=hid hcv11
      have HRD11:=hid hrd11
      have HAT11:=hid hat11
      have HO11:=hid ((HO9.out.trans (ho9.more (by simp))).trans (OnlyS.set (a:=⟨q,4,none⟩) (by simp) (.int .i64 (numE wd))))
      clear hcv10 h9 ho9 hL hrd11 hcv11 hat11 hl1 hl2 hl3 hl4 hl5 hl6 hl7 k6 g6
      go_wp2_with fail
      (with_reducible refine HT11.out.mono ?_);rintro e w12 ⟨rfl,ho12⟩
      have hcv12:=HCV11.out.on ho12 (by simp)
      have hrd12:=HRD11.out.on ho12 (by simp)
      have hnx:=next_fn hrd12 HAT11.out hs
      rw [show (c::r).headD 0=c from rfl] at hnx
      have HNX:=hid hnx
      have HCV12:=hid hcv12
      have HRD12:=hid hrd12
      have HO12:=hid (HO11.out.trans (ho12.more (by simp)))
      clear hcv12 hrd12 ho12 hnx k4 g4
      go_wp2_with fail
      (with_reducible refine HNX.out.mono ?_);rintro e w13 ⟨rfl,ho13⟩
      have hcv13:=HCV12.out.on ho13 (by simp)
      have hrd13:=HRD12.out.on ho13 (by simp)
      have k8:=hcv13.cell 8 (v:=.int .u8 0) rfl
      have g8:=hcv13.fz 8
      have e1:=hrd13.c1
      have g1:=hrd13.f1
      rw [show ((i+K+L:Nat):Int)=(i:Int)+(K:Int)+(L:Int) by omega] at e1
      have hl9:(i:Int)+(K:Int)+(L:Int)<(s.length:Int):=by have:=At.lt HAT11.out;omega
      obtain ⟨m9,hm9,hm8⟩:=letter_fn c
      have hm7:=hm9 HOK.out.letter
      have HM9:=hid hm8
      have HCV13:=hid hcv13
      have HRD13:=hid hrd13
      have HO13:=hid (HO12.out.trans (ho13.more (by simp)))
      clear hcv13 hrd13 ho13 hm9 hm8
      go_wp2_with fail
      (with_reducible refine (HM9.out _).mono ?_);rintro e w14 ⟨rfl,rfl⟩
      go_wp2
      go_ret
      refine ⟨rfl,SRd.put (i:=i+K+L) (HRD13.out.other hpq _ _) _ ?_,?_,(HO13.out.trans (OnlyS.set (by simp) _)).trans (OnlyS.set (by simp) _)⟩
      · rw [HFA.out,← HK.out,← HLL.out];omega
      · rw [HFA.out]
        exact (HCV13.out.set 8 _).other (fun e=>hpq e.symm) _ _
end Go.Proofs.YtbilphfbfnohmaaGreatDoor.Pz
namespace Go.Proofs.YtbilphfbfnohmaaGreatDoor.Pz
open Go.RowKit
structure CvIn (w wx:World) (cs:Array Value):Prop where
 cv:CvS wx w.heap.size cs
 low:Below w.heap.size w wx
theorem CvIn.on {w wx wy:World} {cs:Array Value} (h:CvIn w wx cs) (hb:Below wx.heap.size wx wy):CvIn w wy cs:=⟨(hb.block _ h.cv.lt).trans h.cv,h.low.trans (hb.mono h.low.size)⟩
theorem CvIn.new (w:World) (cs:Array Value):CvIn w (w.alloc (.cells cs 78)) cs:=⟨heap_alloc_new _ _,belowS _ _⟩
section
variable {A wd pr:Int} {tx fl:Str} {c:UInt8}
theorem cut_neg (d:Str) (hd:d.length≤1000000) (w:World):Calls Tryz.prog 61 #[.string ⟨d.toArray⟩,.string ⟨#[45]⟩] w fun e w'=>e=.returned (.tuple #[.string ⟨(if negD d then d.tail else d).toArray⟩,.bool (negD d)])∧w'=w:=by
 refine (cutPrefix_fn d [45] (by omega) (by decide) w).mono ?_
 rintro e w' ⟨rfl,rfl⟩
 refine ⟨?_,rfl⟩
 cases d with
 | nil=>rfl
 | cons x l=>
  have h:([45]:Str).isPrefixOf (x::l)=(x == 45):=by
   rw [List.isPrefixOf]
   simp only [List.isPrefixOf,Bool.and_true]
   exact Bool.beq_comm
  have h2:negD (x::l)=(x == 45):=rfl
  rw [h,h2]
  cases (x == 45)<;>rfl
set_option maxRecDepth 1000000 in
set_option maxHeartbeats 2000000 in
theorem cnumber_fn (arg:Str) (ha:arg.length≤1000000) (hp1:-1≤pr) (hp2:pr≤1000) (hw1:-1≤wd) (hw2:wd≤1000) (w:World) :
  Calls Tryz.prog 59 #[.agg #[.int .i64 A,.string ⟨tx.toArray⟩,.int .i64 0,.string ⟨fl.toArray⟩,.int .i64 wd,.int .i64 pr,.bool false,.bool false,.int .u8 (c.toNat:Nat),.bool false,.string ⟨#[]⟩],.string ⟨arg.toArray⟩] w fun e w'=>e=.returned (.tuple #[.string ⟨(numberE fl wd pr c arg).1.toArray⟩,.int .i64 (numberE fl wd pr c arg).2])∧Below w.heap.size w w':=by
 have hI:=CvIn.new w #[.int .i64 A,.string ⟨tx.toArray⟩,.int .i64 0,.string ⟨fl.toArray⟩,.int .i64 wd,.int .i64 pr,.bool false,.bool false,.int .u8 (c.toNat:Nat),.bool false,.string ⟨#[]⟩]
 obtain ⟨w0,hw0⟩:∃ w0,w0=w.alloc (.cells #[.int .i64 A,.string ⟨tx.toArray⟩,.int .i64 0,.string ⟨fl.toArray⟩,.int .i64 wd,.int .i64 pr,.bool false,.bool false,.int .u8 (c.toNat:Nat),.bool false,.string ⟨#[]⟩] 78):=⟨_,rfl⟩
 rw [← hw0] at hI
 obtain ⟨hb2,hb36⟩:=baseC_two c
 have hbt:=baseRes_text (a:=arg) hb2 hb36
 have hbe:=baseRes_err arg (baseC c) hb2 hb36
 have hE:numberE fl wd pr c arg=if (baseRes arg (baseC c)).2=0 then (numbE fl wd pr c (baseRes arg (baseC c)).1,0) else if (baseRes arg (baseC c)).2=4 then ([],4) else ([],11):=rfl
 have hbase:=fun w=>base_c c w
 have hba:=fun w=>base_fn arg (by omega) (baseC c:Nat) w
 obtain ⟨bb,hbb⟩:∃ bb,bb=baseC c:=⟨_,rfl⟩
 rw [← hbb] at hbt hbe hE hbase hba
 obtain ⟨d,hd⟩:∃ d,d=(baseRes arg bb).1:=⟨_,rfl⟩
 obtain ⟨z,hz⟩:∃ z,z=(baseRes arg bb).2:=⟨_,rfl⟩
 simp only [← hd,← hz] at hbt hbe hE hba
 obtain ⟨pf,hpf⟩:∃ pf,pf=prefC c:=⟨_,rfl⟩
 rw [← hpf] at hbase
 have HBASE:=hid hbase
 have HBA:=hid hba
 have HE:=hid hE
 have HPF:=hid hpf
 have HI:=hid hI
 have HW0:=hid hw0
 have HBT:=hid hbt
 clear hbase hba hE hpf hI hw0 hbb hd hb2 hb36 hbt
 have q0:=HI.out.cv.cell 0 (v:=.int .i64 A) rfl
 have q1:=HI.out.cv.cell 1 (v:=.string ⟨tx.toArray⟩) rfl
 have q2:=HI.out.cv.cell 2 (v:=.int .i64 0) rfl
 have q3:=HI.out.cv.cell 3 (v:=.string ⟨fl.toArray⟩) rfl
 have q4:=HI.out.cv.cell 4 (v:=.int .i64 wd) rfl
 have q5:=HI.out.cv.cell 5 (v:=.int .i64 pr) rfl
 have q6:=HI.out.cv.cell 6 (v:=.bool false) rfl
 have q7:=HI.out.cv.cell 7 (v:=.bool false) rfl
 have q8:=HI.out.cv.cell 8 (v:=.int .u8 (c.toNat:Nat)) rfl
 have q9:=HI.out.cv.cell 9 (v:=.bool false) rfl
 have q10:=HI.out.cv.cell 10 (v:=.string ⟨#[]⟩) rfl
 go_enter Tryz.func59,Tryz.ntmps59
 go_wp2_with fail
 rw [← HW0.out]
 (with_reducible refine (HBASE.out _).mono ?_);rintro e w1 ⟨rfl,rfl⟩
 go_wp2_with fail
 (with_reducible refine (HBA.out _).mono ?_);rintro e w2 ⟨rfl,hb2⟩
 have hI2:=HI.out.on hb2
 clear q0 q1 q2 q3 q4 q5 q6 q7 q8 q9 q10
 have HI2:=hid hI2
 clear hI2 hb2 HI HBASE HBA
 rcases hbe with rfl | rfl | rfl
 ·obtain ⟨hdl,hda⟩:=HBT.out rfl
  have HR:=hid (show numberE fl wd pr c arg=(numbE fl wd pr c d,0) by rw [HE.out];rfl)
  clear hz HE HBT
  have hcut9:=fun w=>cut_neg d (by omega) w
  obtain ⟨nb,hnb⟩:∃ nb,nb=negD d:=⟨_,rfl⟩
  obtain ⟨b0,hb0⟩:∃ b0,b0=if negD d then d.tail else d:=⟨_,rfl⟩
  have hbody:bodyD c d=if c=88 then Lib.toUpperA b0 else b0:=by rw [hb0];rfl
  have hb0l:b0.length≤2011:=by
   rw [hb0]
   split
   ·rw [List.length_tail];omega
   ·omega
  have hb0a:∀ x∈b0,x.toNat<128:=by
   intro x hx
   rw [hb0] at hx
   split at hx
   ·exact hda x (List.mem_of_mem_tail hx)
   ·exact hda x hx
  simp only [← hb0] at hcut9
  simp only [← hnb] at hcut9
  have HCUT:=hid hcut9
  clear hcut9
  have HNB:=hid hnb
  have HBODY:=hid hbody
  have HA0:=hid hb0a
  clear hnb hb0 hbody hb0a hda
  have q8:=HI2.out.cv.cell 8 (v:=.int .u8 (c.toNat:Nat)) rfl
  go_upto_if 37 with ((with_reducible refine (HCUT.out _).mono ?_);rintro e w3 ⟨rfl,rfl⟩)
  go_cut [8] from 12 to 75 (fun v wx=>v=.string ⟨(bodyD c d).toArray⟩∧CvIn w wx #[.int .i64 A,.string ⟨tx.toArray⟩,.int .i64 0,.string ⟨fl.toArray⟩,.int .i64 wd,.int .i64 pr,.bool false,.bool false,.int .u8 (c.toNat:Nat),.bool false,.string ⟨#[]⟩])
  case first=>as_aux_lemma=>
   by_cases hc:c=88
   ·have y88:((c.toNat:Int) == 88)=true:=by rw [hc];rfl
    have HB:=hid (show bodyD c d=Lib.toUpperA b0 by rw [HBODY.out,if_pos hc])
    have HUP:=hid (fun w=>Tryz.strings_ToUpper_ascii ⟨b0.toArray⟩ w (by rw [Lib.size_mk];omega) (fun j b hj=>HA0.out b (List.mem_of_getElem? hj)))
    clear hc
    go_wp2_with fail
    (with_reducible refine (HUP.out _).mono ?_);rintro e w4 ⟨rfl,hb4⟩
    have HI4:=hid (HI2.out.on hb4)
    clear hb4 q8
    go_wp2
    go_meet
    case rel=>exact ⟨by rw [HB.out],HI4.out⟩
   ·have n88:=byte_ne 88 hc rfl
    have HB:=hid (show bodyD c d=b0 by rw [HBODY.out,if_neg hc])
    clear hc
    go_wp2
    go_meet
    case rel=>exact ⟨by rw [HB.out],HI2.out⟩
  clear q8 HI2
  obtain ⟨rfl,hI3⟩:=hcut
  obtain ⟨bd,hbd⟩:∃ bd,bd=bodyD c d:=⟨_,rfl⟩
  have hbdl:bd.length≤2011:=by rw [hbd];exact Nat.le_trans (bodyD_len c d) hdl
  rw [← hbd]
  have HBD:=hid hbd
  have HI3:=hid hI3
  clear hbd hI3 HBODY HA0 hb0l HCUT
  obtain ⟨v43,hv43⟩:∃ v,v=fl.contains 43:=⟨_,rfl⟩
  obtain ⟨v32,hv32⟩:∃ v,v=fl.contains 32:=⟨_,rfl⟩
  obtain ⟨v35,hv35⟩:∃ v,v=fl.contains 35:=⟨_,rfl⟩
  obtain ⟨v48,hv48⟩:∃ v,v=fl.contains 48:=⟨_,rfl⟩
  have h43:=fun w=>has_fn (A:=A) (wd:=wd) (pr:=pr) (tx:=tx) (fl:=fl) (c:=c) 43 (x:=43) rfl w
  have h32:=fun w=>has_fn (A:=A) (wd:=wd) (pr:=pr) (tx:=tx) (fl:=fl) (c:=c) 32 (x:=32) rfl w
  have h35:=fun w=>has_fn (A:=A) (wd:=wd) (pr:=pr) (tx:=tx) (fl:=fl) (c:=c) 35 (x:=35) rfl w
  have h48:=fun w=>has_fn (A:=A) (wd:=wd) (pr:=pr) (tx:=tx) (fl:=fl) (c:=c) 48 (x:=48) rfl w
  simp only [← hv43] at h43
  simp only [← hv32] at h32
  simp only [← hv35] at h35
  simp only [← hv48] at h48
  have hsd:signD fl c nb=(if nb then [45] else if v43 then [43] else if v32 then ([32]:Str) else [])++(if v35 then pf else []):=by rw [hv43,hv32,hv35,HPF.out];rfl
  have hnd:numbE fl wd pr c d=spreadE fl wd (signD fl c nb++padD pr bd) (signD fl c nb).length (v48 && decide (pr<0)):=by rw [hv48,HNB.out,HBD.out];rfl
  have hsl:(signD fl c nb).length≤3:=signD_len fl c nb
  obtain ⟨ss,hss⟩:∃ ss,ss=signD fl c nb:=⟨_,rfl⟩
  obtain ⟨sg,hsg⟩:∃ sg,sg=(if nb then [45] else if v43 then [43] else if v32 then ([32]:Str) else []):=⟨_,rfl⟩
  rw [← hss,← hsg] at hsd
  rw [← hss] at hnd hsl
  have HSG:=hid hsg
  have HSD:=hid hsd
  have HND:=hid hnd
  have H43:=hid h43
  have H32:=hid h32
  have H35:=hid h35
  have H48:=hid h48
  have hpfl:pf.length≤2:=by
   rw [HPF.out]
   unfold prefC
   split
   ·decide
   ·split
    ·decide
    ·split
     ·decide
     ·split<;>decide
  have hsgl:sg.length≤1:=by
   rw [HSG.out]
   split
   ·decide
   ·split
    ·decide
    ·split<;>decide
  clear hv43 hv32 hv35 hv48 h43 h32 h35 h48 hsd hnd hss hsg HPF HNB HBD
  go_upto_block 1 with fail
  go_cut [11] from 12 to 75 (fun v wx=>v=.string ⟨sg.toArray⟩∧CvIn w wx #[.int .i64 A,.string ⟨tx.toArray⟩,.int .i64 0,.string ⟨fl.toArray⟩,.int .i64 wd,.int .i64 pr,.bool false,.bool false,.int .u8 (c.toNat:Nat),.bool false,.string ⟨#[]⟩])
  case first=>as_aux_lemma=>
   cases nb with
   | true=>
    have HS:=hid (show sg=[45] by rw [HSG.out];rfl)
    go_wp2
    go_meet
    case rel=>exact ⟨by rw [HS.out],HI3.out⟩
   | false=>
    cases v43 with
    | true=>
     have HS:=hid (show sg=[43] by rw [HSG.out];rfl)
     have q0:=HI3.out.cv.cell 0 (v:=.int .i64 A) rfl
     have q1:=HI3.out.cv.cell 1 (v:=.string ⟨tx.toArray⟩) rfl
     have q2:=HI3.out.cv.cell 2 (v:=.int .i64 0) rfl
     have q3:=HI3.out.cv.cell 3 (v:=.string ⟨fl.toArray⟩) rfl
     have q4:=HI3.out.cv.cell 4 (v:=.int .i64 wd) rfl
     have q5:=HI3.out.cv.cell 5 (v:=.int .i64 pr) rfl
     have q6:=HI3.out.cv.cell 6 (v:=.bool false) rfl
     have q7:=HI3.out.cv.cell 7 (v:=.bool false) rfl
     have q8:=HI3.out.cv.cell 8 (v:=.int .u8 (c.toNat:Nat)) rfl
     have q9:=HI3.out.cv.cell 9 (v:=.bool false) rfl
     have q10:=HI3.out.cv.cell 10 (v:=.string ⟨#[]⟩) rfl
     go_wp2_with fail
     (with_reducible refine (H43.out _).mono ?_);rintro e w4 ⟨rfl,hb4⟩
     have HI4:=hid (HI3.out.on hb4)
     clear hb4 q0 q1 q2 q3 q4 q5 q6 q7 q8 q9 q10
     go_wp2
     go_meet
     case rel=>exact ⟨by rw [HS.out],HI4.out⟩
    | false=>
     have q0:=HI3.out.cv.cell 0 (v:=.int .i64 A) rfl
     have q1:=HI3.out.cv.cell 1 (v:=.string ⟨tx.toArray⟩) rfl
     have q2:=HI3.out.cv.cell 2 (v:=.int .i64 0) rfl
     have q3:=HI3.out.cv.cell 3 (v:=.string ⟨fl.toArray⟩) rfl
     have q4:=HI3.out.cv.cell 4 (v:=.int .i64 wd) rfl
     have q5:=HI3.out.cv.cell 5 (v:=.int .i64 pr) rfl
     have q6:=HI3.out.cv.cell 6 (v:=.bool false) rfl
     have q7:=HI3.out.cv.cell 7 (v:=.bool false) rfl
     have q8:=HI3.out.cv.cell 8 (v:=.int .u8 (c.toNat:Nat)) rfl
     have q9:=HI3.out.cv.cell 9 (v:=.bool false) rfl
     have q10:=HI3.out.cv.cell 10 (v:=.string ⟨#[]⟩) rfl
     go_wp2_with fail
     (with_reducible refine (H43.out _).mono ?_);rintro e w4 ⟨rfl,hb4⟩
     have HI4:=hid (HI3.out.on hb4)
     clear hb4 q0 q1 q2 q3 q4 q5 q6 q7 q8 q9 q10
     have q0:=HI4.out.cv.cell 0 (v:=.int .i64 A) rfl
     have q1:=HI4.out.cv.cell 1 (v:=.string ⟨tx.toArray⟩) rfl
     have q2:=HI4.out.cv.cell 2 (v:=.int .i64 0) rfl
     have q3:=HI4.out.cv.cell 3 (v:=.string ⟨fl.toArray⟩) rfl
     have q4:=HI4.out.cv.cell 4 (v:=.int .i64 wd) rfl
     have q5:=HI4.out.cv.cell 5 (v:=.int .i64 pr) rfl
     have q6:=HI4.out.cv.cell 6 (v:=.bool false) rfl
     have q7:=HI4.out.cv.cell 7 (v:=.bool false) rfl
     have q8:=HI4.out.cv.cell 8 (v:=.int .u8 (c.toNat:Nat)) rfl
     have q9:=HI4.out.cv.cell 9 (v:=.bool false) rfl
     have q10:=HI4.out.cv.cell 10 (v:=.string ⟨#[]⟩) rfl
     go_wp2_with fail
     (with_reducible refine (H32.out _).mono ?_);rintro e w5 ⟨rfl,hb5⟩
     have HI5:=hid (HI4.out.on hb5)
     clear hb5 q0 q1 q2 q3 q4 q5 q6 q7 q8 q9 q10
     cases v32 with
     | true=>
      have HS:=hid (show sg=[32] by rw [HSG.out];rfl)
      go_wp2
      go_meet
      case rel=>exact ⟨by rw [HS.out],HI5.out⟩
     | false=>
      have HS:=hid (show sg=[] by rw [HSG.out];rfl)
      go_wp2
      go_meet
      case rel=>exact ⟨by rw [HS.out],HI5.out⟩
  obtain ⟨rfl,hI4⟩:=hcut
  have HI4:=hid hI4
  clear hI4 HI3 HSG
  have q0:=HI4.out.cv.cell 0 (v:=.int .i64 A) rfl
  have q1:=HI4.out.cv.cell 1 (v:=.string ⟨tx.toArray⟩) rfl
  have q2:=HI4.out.cv.cell 2 (v:=.int .i64 0) rfl
  have q3:=HI4.out.cv.cell 3 (v:=.string ⟨fl.toArray⟩) rfl
  have q4:=HI4.out.cv.cell 4 (v:=.int .i64 wd) rfl
  have q5:=HI4.out.cv.cell 5 (v:=.int .i64 pr) rfl
  have q6:=HI4.out.cv.cell 6 (v:=.bool false) rfl
  have q7:=HI4.out.cv.cell 7 (v:=.bool false) rfl
  have q8:=HI4.out.cv.cell 8 (v:=.int .u8 (c.toNat:Nat)) rfl
  have q9:=HI4.out.cv.cell 9 (v:=.bool false) rfl
  have q10:=HI4.out.cv.cell 10 (v:=.string ⟨#[]⟩) rfl
  go_upto_if 49 with ((with_reducible refine (H35.out _).mono ?_);rintro e w5 ⟨rfl,hb5⟩;have HI5:=hid (HI4.out.on hb5);clear hb5)
  clear q0 q1 q2 q3 q4 q5 q6 q7 q8 q9 q10
  go_cut [11] from 12 to 75 (fun v wx=>v=.string ⟨ss.toArray⟩∧CvIn w wx #[.int .i64 A,.string ⟨tx.toArray⟩,.int .i64 0,.string ⟨fl.toArray⟩,.int .i64 wd,.int .i64 pr,.bool false,.bool false,.int .u8 (c.toNat:Nat),.bool false,.string ⟨#[]⟩])
  case first=>as_aux_lemma=>
   cases v35 with
   | true=>
    have HS:=hid (show ss=sg++pf by rw [HSD.out];rfl)
    have hcat:∀ u:World,(Op.stringOp .add ⟨sg.toArray⟩ ⟨pf.toArray⟩).run Tryz.prog u=.ok (.string ⟨ss.toArray⟩) u:=fun u=>by rw [HS.out];exact cat_run _ _ (by omega) (by omega) u
    go_wp2
    go_meet
    case rel=>exact ⟨rfl,HI5.out⟩
   | false=>
    have HS:=hid (show ss=sg by rw [HSD.out];exact List.append_nil _)
    go_wp2
    go_meet
    case rel=>exact ⟨by rw [HS.out],HI5.out⟩
  obtain ⟨rfl,hI6⟩:=hcut
  have HI6:=hid hI6
  clear hI6 HI5 HI4 HSD hsgl hpfl
  obtain ⟨n,hn⟩:∃ n,n=bd.length:=⟨_,rfl⟩
  obtain ⟨NN,hNN⟩:∃ N:Nat,N=(pr-(bd.length:Int)).toNat:=⟨_,rfl⟩
  have hszb:(⟨bd.toArray⟩:ByteArray).size=n:=by rw [hn,Lib.size_mk]
  rw [← hn] at hNN
  have hmax:max (0:Int) (pr-(n:Int))=(NN:Int):=by omega
  have hNl:NN≤1000:=by omega
  have hn9:n≤2011:=by omega
  obtain ⟨Z,hZ⟩:∃ Z:ByteArray,Z=⟨(List.replicate NN 48).toArray⟩:=⟨_,rfl⟩
  have hpd:padD pr bd=List.replicate NN 48++bd:=by unfold padD;rw [← hn,← hNN]
  obtain ⟨pd,hpd9⟩:∃ pd,pd=padD pr bd:=⟨_,rfl⟩
  rw [← hpd9] at hpd HND
  have hcat:∀ u:World,(Op.stringOp .add Z ⟨bd.toArray⟩).run Tryz.prog u=.ok (.string ⟨pd.toArray⟩) u:=fun u=>by rw [hZ,hpd];exact cat_run _ _ (by rw [List.length_replicate];omega) (by omega) u
  have hpdl:pd.length≤4000:=by rw [hpd,List.length_append,List.length_replicate,← hn];omega
  have hrp:=fun w=>repeat_fn 48 (X:=⟨#[48]⟩) rfl NN (by omega) w
  rw [← hZ] at hrp
  have HRP:=hid hrp
  have q5:=HI6.out.cv.cell 5 (v:=.int .i64 pr) rfl
  clear hn hNN hZ hpd hpd9 hrp hbdl hdl
  go_wp2_with fail
  (with_reducible refine (HRP.out _).mono ?_);rintro e w7 ⟨rfl,hb7⟩
  have hI7:=HI6.out.on hb7
  have HI7:=hid hI7
  clear hI7 hb7 HI6 q5
  obtain ⟨n2,hn2⟩:∃ n2,n2=ss.length:=⟨_,rfl⟩
  have hsz2:(⟨ss.toArray⟩:ByteArray).size=n2:=by rw [hn2,Lib.size_mk]
  have hl9:(ss++pd).length≤5000:=by rw [List.length_append];omega
  obtain ⟨Y,hY⟩:∃ Y:ByteArray,Y=⟨(ss++pd).toArray⟩:=⟨_,rfl⟩
  have HY:=hid (show ∀ u:World,(Op.stringOp .add ⟨ss.toArray⟩ ⟨pd.toArray⟩).run Tryz.prog u=.ok (.string Y) u from fun u=>by rw [hY];exact cat_run _ _ (by omega) (by omega) u)
  have hsp:=fun (q:Bool) w=>spread_fn (A:=A) (wd:=wd) (pr:=pr) (tx:=tx) (fl:=fl) (c:=c) (ss++pd) (by omega) n2 (by rw [List.length_append,hn2];omega) q hw1 hw2 w
  rw [← hY] at hsp
  have HSPQ:=hid hsp
  have HN2:=hid hn2
  clear hsp hY hn2 hsl hpdl hl9 H43 H32 H35
  go_upto_region 21 with fail
  clear hcat
  cases v48 with
  | true=>
   have HSP:=hid (fun w=>HSPQ.out (decide (pr<0)) w)
   have S0:Hid ((fun u:World=>CvS u w.heap.size #[.int .i64 A,.string ⟨tx.toArray⟩,.int .i64 0,.string ⟨fl.toArray⟩,.int .i64 wd,.int .i64 pr,.bool false,.bool false,.int .u8 (c.toNat:Nat),.bool false,.string ⟨#[]⟩]) w7.drew):=hid HI7.out.cv
   refine U_begin (late:=fun _=>false) (S:=fun u:World=>CvS u w.heap.size #[.int .i64 A,.string ⟨tx.toArray⟩,.int .i64 0,.string ⟨fl.toArray⟩,.int .i64 wd,.int .i64 pr,.bool false,.bool false,.int .u8 (c.toNat:Nat),.bool false,.string ⟨#[]⟩]) (by kernel_rfl) ?_
   refine U_take2 8 (i:=0) (v:=.agg #[.int .i64 A,.string ⟨tx.toArray⟩,.int .i64 0,.string ⟨fl.toArray⟩,.int .i64 wd,.int .i64 pr,.bool false,.bool false,.int .u8 (c.toNat:Nat),.bool false,.string ⟨#[]⟩]) rfl (by kernel_rfl) (by kernel_rfl) (by kernel_rfl) (by kernel_rfl) (by kernel_rfl) (fun _ _ _ h=>h) (.inl ⟨rfl,fun u hu=>(by have q0:=CvS.cell hu 0 (v:=.int .i64 A) rfl;have q1:=CvS.cell hu 1 (v:=.string ⟨tx.toArray⟩) rfl;have q2:=CvS.cell hu 2 (v:=.int .i64 0) rfl;have q3:=CvS.cell hu 3 (v:=.string ⟨fl.toArray⟩) rfl;have q4:=CvS.cell hu 4 (v:=.int .i64 wd) rfl;have q5:=CvS.cell hu 5 (v:=.int .i64 pr) rfl;have q6:=CvS.cell hu 6 (v:=.bool false) rfl;have q7:=CvS.cell hu 7 (v:=.bool false) rfl;have q8:=CvS.cell hu 8 (v:=.int .u8 (c.toNat:Nat)) rfl;have q9:=CvS.cell hu 9 (v:=.bool false) rfl;have q10:=CvS.cell hu 10 (v:=.string ⟨#[]⟩) rfl;go_simp)⟩) S0.out ?_
   refine U_take2 8 (i:=1) (v:=.string ⟨ss.toArray⟩) rfl (by kernel_rfl) (by kernel_rfl) (by kernel_rfl) (by kernel_rfl) (by kernel_rfl) (fun _ _ _ h=>h) (.inl ⟨rfl,fun u hu=>(by go_simp)⟩) S0.out ?_
   refine U_take2 8 (i:=2) (v:=.string ⟨pd.toArray⟩) rfl (by kernel_rfl) (by kernel_rfl) (by kernel_rfl) (by kernel_rfl) (by kernel_rfl) (fun _ _ _ h=>h) (.inl ⟨rfl,fun u hu=>(by go_simp)⟩) S0.out ?_
   refine U_take2 8 (i:=3) (v:=.string Y) rfl (by kernel_rfl) (by kernel_rfl) (by kernel_rfl) (by kernel_rfl) (by kernel_rfl) (fun _ _ _ h=>h) (.inl ⟨rfl,fun u hu=>(by have hk:=HY.out u;go_simp)⟩) S0.out ?_
   refine U_take2 8 (i:=4) (v:=.string ⟨ss.toArray⟩) rfl (by kernel_rfl) (by kernel_rfl) (by kernel_rfl) (by kernel_rfl) (by kernel_rfl) (fun _ _ _ h=>h) (.inl ⟨rfl,fun u hu=>(by go_simp)⟩) S0.out ?_
   refine U_take2 8 (i:=5) (v:=.int .i64 (n2:Nat)) rfl (by kernel_rfl) (by kernel_rfl) (by kernel_rfl) (by kernel_rfl) (by kernel_rfl) (fun _ _ _ h=>h) (.inl ⟨rfl,fun u hu=>(by go_simp)⟩) S0.out ?_
   refine U_take2 8 (i:=6) (v:=.agg #[.int .i64 A,.string ⟨tx.toArray⟩,.int .i64 0,.string ⟨fl.toArray⟩,.int .i64 wd,.int .i64 pr,.bool false,.bool false,.int .u8 (c.toNat:Nat),.bool false,.string ⟨#[]⟩]) rfl (by kernel_rfl) (by kernel_rfl) (by kernel_rfl) (by kernel_rfl) (by kernel_rfl) (fun _ _ _ h=>h) (.inl ⟨rfl,fun u hu=>(by have q0:=CvS.cell hu 0 (v:=.int .i64 A) rfl;have q1:=CvS.cell hu 1 (v:=.string ⟨tx.toArray⟩) rfl;have q2:=CvS.cell hu 2 (v:=.int .i64 0) rfl;have q3:=CvS.cell hu 3 (v:=.string ⟨fl.toArray⟩) rfl;have q4:=CvS.cell hu 4 (v:=.int .i64 wd) rfl;have q5:=CvS.cell hu 5 (v:=.int .i64 pr) rfl;have q6:=CvS.cell hu 6 (v:=.bool false) rfl;have q7:=CvS.cell hu 7 (v:=.bool false) rfl;have q8:=CvS.cell hu 8 (v:=.int .u8 (c.toNat:Nat)) rfl;have q9:=CvS.cell hu 9 (v:=.bool false) rfl;have q10:=CvS.cell hu 10 (v:=.string ⟨#[]⟩) rfl;go_simp)⟩) S0.out ?_
   refine U_step (j:=7) (by kernel_rfl) rfl (fun K9 hK9=>?_)
   go_simp
   (with_reducible refine (H48.out _).mono ?_);rintro e w8 ⟨rfl,hb8⟩
   have hI8:CvIn w w8 #[.int .i64 A,.string ⟨tx.toArray⟩,.int .i64 0,.string ⟨fl.toArray⟩,.int .i64 wd,.int .i64 pr,.bool false,.bool false,.int .u8 (c.toNat:Nat),.bool false,.string ⟨#[]⟩]:=HI7.out.on ((Below.refl _ w7).drew.trans hb8)
   have S8:Hid ((fun u:World=>CvS u w.heap.size #[.int .i64 A,.string ⟨tx.toArray⟩,.int .i64 0,.string ⟨fl.toArray⟩,.int .i64 wd,.int .i64 pr,.bool false,.bool false,.int .u8 (c.toNat:Nat),.bool false,.string ⟨#[]⟩]) w8):=hid hI8.cv
   have HI8:=hid hI8
   refine hK9.out _ _ (.inr S8.out) ?_
   clear hK9 K9 S0 hb8 hI8
   refine U_take2 8 (i:=8) (v:=.bool true) rfl (by kernel_rfl) (by kernel_rfl) (by kernel_rfl) (by kernel_rfl) (by kernel_rfl) (fun _ _ _ h=>h) (.inl ⟨rfl,fun u hu=>(by go_simp)⟩) S8.out ?_
   refine U_take2 8 (i:=9) (v:=.pointer (some ⟨w.heap.size,5,none⟩)) rfl (by kernel_rfl) (by kernel_rfl) (by kernel_rfl) (by kernel_rfl) (by kernel_rfl) (fun _ _ _ h=>h) (.inl ⟨by kernel_rfl,fun u hu=>(by go_simp)⟩) S8.out ?_
   refine U_take2 8 (i:=10) (v:=.int .i64 pr) rfl (by kernel_rfl) (by kernel_rfl) (by kernel_rfl) (by kernel_rfl) (by kernel_rfl) (fun _ _ _ h=>h) (.inl ⟨by kernel_rfl,fun u hu=>(by have q5:=CvS.cell hu 5 (v:=.int .i64 pr) rfl;go_simp)⟩) S8.out ?_
   refine U_take2 8 (i:=11) (v:=.bool (decide (pr<0))) rfl (by kernel_rfl) (by kernel_rfl) (by kernel_rfl) (by kernel_rfl) (by kernel_rfl) (fun _ _ _ h=>h) (.inl ⟨by kernel_rfl,fun u hu=>(by go_simp)⟩) S8.out ?_
   refine U_take2 8 (i:=12) (v:=.bool (decide (pr<0))) rfl (by kernel_rfl) (by kernel_rfl) (by kernel_rfl) (by kernel_rfl) (by kernel_rfl) (fun _ _ _ h=>h) (.inl ⟨rfl,fun u hu=>(by go_simp)⟩) S8.out ?_
   refine U_step (j:=13) (by kernel_rfl) rfl (fun K9 hK9=>?_)
   go_simp
   (with_reducible refine (HSP.out _).mono ?_);rintro e w9 ⟨rfl,hb9⟩
   have hI9:CvIn w w9 #[.int .i64 A,.string ⟨tx.toArray⟩,.int .i64 0,.string ⟨fl.toArray⟩,.int .i64 wd,.int .i64 pr,.bool false,.bool false,.int .u8 (c.toNat:Nat),.bool false,.string ⟨#[]⟩]:=HI8.out.on hb9
   have S9:Hid ((fun u:World=>CvS u w.heap.size #[.int .i64 A,.string ⟨tx.toArray⟩,.int .i64 0,.string ⟨fl.toArray⟩,.int .i64 wd,.int .i64 pr,.bool false,.bool false,.int .u8 (c.toNat:Nat),.bool false,.string ⟨#[]⟩]) w9):=hid hI9.cv
   have HI9:=hid hI9
   refine hK9.out _ _ (.inr S9.out) ?_
   clear hK9 K9 S8 hb9 hI9
   refine U_take2 8 (i:=14) (v:=.string ⟨(spreadE fl wd (ss++pd) n2 (decide (pr<0))).toArray⟩) rfl (by kernel_rfl) (by kernel_rfl) (by kernel_rfl) (by kernel_rfl) (by kernel_rfl) (fun _ _ _ h=>h) (.inl ⟨rfl,fun u hu=>(by go_simp)⟩) S9.out ?_
   refine U_take2 8 (i:=15) (v:=.int .i64 0) rfl (by kernel_rfl) (by kernel_rfl) (by kernel_rfl) (by kernel_rfl) (by kernel_rfl) (fun _ _ _ h=>h) (.inl ⟨rfl,fun u hu=>(by go_simp)⟩) S9.out ?_
   refine U_done (by kernel_rfl) ?_ _
   clear S9
   go_wp2
   go_ret2
   exact ⟨by rw [HR.out,HND.out,← HN2.out];rfl,HI9.out.low⟩
  | false=>
   have HSP:=hid (fun w=>HSPQ.out false w)
   have S0:Hid ((fun u:World=>CvS u w.heap.size #[.int .i64 A,.string ⟨tx.toArray⟩,.int .i64 0,.string ⟨fl.toArray⟩,.int .i64 wd,.int .i64 pr,.bool false,.bool false,.int .u8 (c.toNat:Nat),.bool false,.string ⟨#[]⟩]) w7.drew):=hid HI7.out.cv
   refine U_begin (late:=fun _=>false) (S:=fun u:World=>CvS u w.heap.size #[.int .i64 A,.string ⟨tx.toArray⟩,.int .i64 0,.string ⟨fl.toArray⟩,.int .i64 wd,.int .i64 pr,.bool false,.bool false,.int .u8 (c.toNat:Nat),.bool false,.string ⟨#[]⟩]) (by kernel_rfl) ?_
   refine U_take2 8 (i:=0) (v:=.agg #[.int .i64 A,.string ⟨tx.toArray⟩,.int .i64 0,.string ⟨fl.toArray⟩,.int .i64 wd,.int .i64 pr,.bool false,.bool false,.int .u8 (c.toNat:Nat),.bool false,.string ⟨#[]⟩]) rfl (by kernel_rfl) (by kernel_rfl) (by kernel_rfl) (by kernel_rfl) (by kernel_rfl) (fun _ _ _ h=>h) (.inl ⟨rfl,fun u hu=>(by have q0:=CvS.cell hu 0 (v:=.int .i64 A) rfl;have q1:=CvS.cell hu 1 (v:=.string ⟨tx.toArray⟩) rfl;have q2:=CvS.cell hu 2 (v:=.int .i64 0) rfl;have q3:=CvS.cell hu 3 (v:=.string ⟨fl.toArray⟩) rfl;have q4:=CvS.cell hu 4 (v:=.int .i64 wd) rfl;have q5:=CvS.cell hu 5 (v:=.int .i64 pr) rfl;have q6:=CvS.cell hu 6 (v:=.bool false) rfl;have q7:=CvS.cell hu 7 (v:=.bool false) rfl;have q8:=CvS.cell hu 8 (v:=.int .u8 (c.toNat:Nat)) rfl;have q9:=CvS.cell hu 9 (v:=.bool false) rfl;have q10:=CvS.cell hu 10 (v:=.string ⟨#[]⟩) rfl;go_simp)⟩) S0.out ?_
   refine U_take2 8 (i:=1) (v:=.string ⟨ss.toArray⟩) rfl (by kernel_rfl) (by kernel_rfl) (by kernel_rfl) (by kernel_rfl) (by kernel_rfl) (fun _ _ _ h=>h) (.inl ⟨rfl,fun u hu=>(by go_simp)⟩) S0.out ?_
   refine U_take2 8 (i:=2) (v:=.string ⟨pd.toArray⟩) rfl (by kernel_rfl) (by kernel_rfl) (by kernel_rfl) (by kernel_rfl) (by kernel_rfl) (fun _ _ _ h=>h) (.inl ⟨rfl,fun u hu=>(by go_simp)⟩) S0.out ?_
   refine U_take2 8 (i:=3) (v:=.string Y) rfl (by kernel_rfl) (by kernel_rfl) (by kernel_rfl) (by kernel_rfl) (by kernel_rfl) (fun _ _ _ h=>h) (.inl ⟨rfl,fun u hu=>(by have hk:=HY.out u;go_simp)⟩) S0.out ?_
   refine U_take2 8 (i:=4) (v:=.string ⟨ss.toArray⟩) rfl (by kernel_rfl) (by kernel_rfl) (by kernel_rfl) (by kernel_rfl) (by kernel_rfl) (fun _ _ _ h=>h) (.inl ⟨rfl,fun u hu=>(by go_simp)⟩) S0.out ?_
   refine U_take2 8 (i:=5) (v:=.int .i64 (n2:Nat)) rfl (by kernel_rfl) (by kernel_rfl) (by kernel_rfl) (by kernel_rfl) (by kernel_rfl) (fun _ _ _ h=>h) (.inl ⟨rfl,fun u hu=>(by go_simp)⟩) S0.out ?_
   refine U_take2 8 (i:=6) (v:=.agg #[.int .i64 A,.string ⟨tx.toArray⟩,.int .i64 0,.string ⟨fl.toArray⟩,.int .i64 wd,.int .i64 pr,.bool false,.bool false,.int .u8 (c.toNat:Nat),.bool false,.string ⟨#[]⟩]) rfl (by kernel_rfl) (by kernel_rfl) (by kernel_rfl) (by kernel_rfl) (by kernel_rfl) (fun _ _ _ h=>h) (.inl ⟨rfl,fun u hu=>(by have q0:=CvS.cell hu 0 (v:=.int .i64 A) rfl;have q1:=CvS.cell hu 1 (v:=.string ⟨tx.toArray⟩) rfl;have q2:=CvS.cell hu 2 (v:=.int .i64 0) rfl;have q3:=CvS.cell hu 3 (v:=.string ⟨fl.toArray⟩) rfl;have q4:=CvS.cell hu 4 (v:=.int .i64 wd) rfl;have q5:=CvS.cell hu 5 (v:=.int .i64 pr) rfl;have q6:=CvS.cell hu 6 (v:=.bool false) rfl;have q7:=CvS.cell hu 7 (v:=.bool false) rfl;have q8:=CvS.cell hu 8 (v:=.int .u8 (c.toNat:Nat)) rfl;have q9:=CvS.cell hu 9 (v:=.bool false) rfl;have q10:=CvS.cell hu 10 (v:=.string ⟨#[]⟩) rfl;go_simp)⟩) S0.out ?_
   refine U_step (j:=7) (by kernel_rfl) rfl (fun K9 hK9=>?_)
   go_simp
   (with_reducible refine (H48.out _).mono ?_);rintro e w8 ⟨rfl,hb8⟩
   have hI8:CvIn w w8 #[.int .i64 A,.string ⟨tx.toArray⟩,.int .i64 0,.string ⟨fl.toArray⟩,.int .i64 wd,.int .i64 pr,.bool false,.bool false,.int .u8 (c.toNat:Nat),.bool false,.string ⟨#[]⟩]:=HI7.out.on ((Below.refl _ w7).drew.trans hb8)
   have S8:Hid ((fun u:World=>CvS u w.heap.size #[.int .i64 A,.string ⟨tx.toArray⟩,.int .i64 0,.string ⟨fl.toArray⟩,.int .i64 wd,.int .i64 pr,.bool false,.bool false,.int .u8 (c.toNat:Nat),.bool false,.string ⟨#[]⟩]) w8):=hid hI8.cv
   have HI8:=hid hI8
   refine hK9.out _ _ (.inr S8.out) ?_
   clear hK9 K9 S0 hb8 hI8
   refine U_take2 8 (i:=8) (v:=.bool false) rfl (by kernel_rfl) (by kernel_rfl) (by kernel_rfl) (by kernel_rfl) (by kernel_rfl) (fun _ _ _ h=>h) (.inl ⟨rfl,fun u hu=>(by go_simp)⟩) S8.out ?_
   refine U_take2 8 (i:=9) (v:=undef) rfl (by kernel_rfl) (by kernel_rfl) (by kernel_rfl) (by kernel_rfl) (by kernel_rfl) (fun _ _ _ h=>h) (.inr ⟨by go_simp,rfl⟩) S8.out ?_
   refine U_take2 8 (i:=10) (v:=undef) rfl (by kernel_rfl) (by kernel_rfl) (by kernel_rfl) (by kernel_rfl) (by kernel_rfl) (fun _ _ _ h=>h) (.inr ⟨by go_simp,rfl⟩) S8.out ?_
   refine U_take2 8 (i:=11) (v:=undef) rfl (by kernel_rfl) (by kernel_rfl) (by kernel_rfl) (by kernel_rfl) (by kernel_rfl) (fun _ _ _ h=>h) (.inr ⟨by go_simp,rfl⟩) S8.out ?_
   refine U_take2 8 (i:=12) (v:=.bool false) rfl (by kernel_rfl) (by kernel_rfl) (by kernel_rfl) (by kernel_rfl) (by kernel_rfl) (fun _ _ _ h=>h) (.inl ⟨rfl,fun u hu=>(by go_simp)⟩) S8.out ?_
   refine U_step (j:=13) (by kernel_rfl) rfl (fun K9 hK9=>?_)
   go_simp
   (with_reducible refine (HSP.out _).mono ?_);rintro e w9 ⟨rfl,hb9⟩
   have hI9:CvIn w w9 #[.int .i64 A,.string ⟨tx.toArray⟩,.int .i64 0,.string ⟨fl.toArray⟩,.int .i64 wd,.int .i64 pr,.bool false,.bool false,.int .u8 (c.toNat:Nat),.bool false,.string ⟨#[]⟩]:=HI8.out.on hb9
   have S9:Hid ((fun u:World=>CvS u w.heap.size #[.int .i64 A,.string ⟨tx.toArray⟩,.int .i64 0,.string ⟨fl.toArray⟩,.int .i64 wd,.int .i64 pr,.bool false,.bool false,.int .u8 (c.toNat:Nat),.bool false,.string ⟨#[]⟩]) w9):=hid hI9.cv
   have HI9:=hid hI9
   refine hK9.out _ _ (.inr S9.out) ?_
   clear hK9 K9 S8 hb9 hI9
   refine U_take2 8 (i:=14) (v:=.string ⟨(spreadE fl wd (ss++pd) n2 false).toArray⟩) rfl (by kernel_rfl) (by kernel_rfl) (by kernel_rfl) (by kernel_rfl) (by kernel_rfl) (fun _ _ _ h=>h) (.inl ⟨rfl,fun u hu=>(by go_simp)⟩) S9.out ?_
   refine U_take2 8 (i:=15) (v:=.int .i64 0) rfl (by kernel_rfl) (by kernel_rfl) (by kernel_rfl) (by kernel_rfl) (by kernel_rfl) (fun _ _ _ h=>h) (.inl ⟨rfl,fun u hu=>(by go_simp)⟩) S9.out ?_
   refine U_done (by kernel_rfl) ?_ _
   clear S9
   go_wp2
   go_ret2
   exact ⟨by rw [HR.out,HND.out,← HN2.out];rfl,HI9.out.low⟩
 ·have HR:=hid (show numberE fl wd pr c arg=([],4) by rw [HE.out];rfl)
  clear hz
  go_wp2
  go_ret2
  exact ⟨by rw [HR.out];rfl,HI2.out.low⟩
 ·have HR:=hid (show numberE fl wd pr c arg=([],11) by rw [HE.out];rfl)
  clear hz
  go_wp2
  go_ret2
  exact ⟨by rw [HR.out];rfl,HI2.out.low⟩
end
end Go.Proofs.YtbilphfbfnohmaaGreatDoor.Pz
namespace Go.Proofs.YtbilphfbfnohmaaGreatDoor.Pz
open Go.RowKit
theorem isLet_scan {c:UInt8} (h:isLet true c=true):c=100∨c=120∨c=111∨c=98∨c=115:=by
 unfold isLet at h
 simpa [or_assoc] using h
set_option maxRecDepth 1000000 in
set_option maxHeartbeats 1000000 in
theorem read_cnv {w:World} {p q i:Nat} {s r:Str} {c:UInt8} {A:Int} (h:SRd w p s i) (ha:At s (c::r) i) (hs:s.length≤1000000) (hc:CvS w q (cvCells A [] [] 0 0 false false 0 false)) (hpq:p≠q) (hok:isLet true c=true) :
  Calls Tryz.prog 90 #[.pointer (some ⟨p,0,none⟩),.pointer (some ⟨q,0,none⟩)] w fun e w'=>e=.returned (.bool true)∧SRd w' p s (i+1)∧CvS w' q (cvCells A [] [] (-1) 0 false false c false)∧OnlyS [p,q] w w':=by
 obtain ⟨hl1,hl2,hl3,hl4,hl5,hl6,hl7⟩:=isLet_dig hok
 have HT:=hid (take_no (x:=42) h ha hs 42 rfl (by intro e;exact hl5 (Option.some.inj e)))
 have h48:c≠48:=by rintro rfl;exact absurd hl1 (by decide)
 have hrun:digRun 3 (c::r)=[]:=by show (if isDig c then _ else _)=_;rw [hl1];rfl
 have HRUN:=hid hrun
 have H48:=hid h48
 have H:=hid h
 have HA:=hid ha
 have HC:=hid hc
 have HOK:=hid hok
 clear h ha hc hok hl1 hl2 hl3 hl4 hl5 hl6 hl7 h48 hrun
 go_enter Tryz.func90,Tryz.ntmps90
 go_wp2_with fail
 (with_reducible refine HT.out.mono ?_);rintro e w1 ⟨rfl,ho1⟩
 have hcv1:=HC.out.on ho1 (by simp)
 have hrd1:=H.out.on ho1 (by simp)
 have k9:=hcv1.cell 9 (v:=.bool false) rfl
 have g9:=hcv1.fz 9
 have hrd2:SRd (w1.setCell ⟨q,9,none⟩ (.bool false)) p s i:=hrd1.other hpq _ _
 have hcv2:CvS (w1.setCell ⟨q,9,none⟩ (.bool false)) q (cvCells A [] [] 0 0 false false 0 false):=hcv1.set 9 _
 have HW:=hid (wide_fn hrd2 HA.out hs H48.out)
 rw [HRUN.out] at HW
 have HCV2:=hid hcv2
 have HO2:=hid ((ho1.more (A':=[p,q]) (by simp)).trans (OnlyS.set (a:=⟨q,9,none⟩) (by simp) (.bool false)))
 clear hcv1 hrd1 ho1 hrd2 hcv2
 go_wp2_with fail
 (with_reducible refine HW.out.mono ?_);rintro e w3 ⟨rfl,h3,ho3⟩
 have hcv3:=HCV2.out.on ho3 (by simpa using fun e=>hpq e.symm)
 have k4:=hcv3.cell 4 (v:=.int .i64 0) rfl
 have g4:=hcv3.fz 4
 have hrd4:SRd (w3.setCell ⟨q,4,none⟩ (.int .i64 (-1))) p s i:=h3.other hpq _ _
 have hcv4:CvS (w3.setCell ⟨q,4,none⟩ (.int .i64 (-1))) q (cvCells A [] [] (-1) 0 false false 0 false):=hcv3.set 4 _
 have hnx:=next_fn hrd4 HA.out hs
 rw [show (c::r).headD 0=c from rfl] at hnx
 have HNX:=hid hnx
 have HCV4:=hid hcv4
 have HRD4:=hid hrd4
 have HO4:=hid ((HO2.out.trans (ho3.more (by simp))).trans (OnlyS.set (a:=⟨q,4,none⟩) (by simp) (.int .i64 (-1))))
 have hm1:numE [] = -1:=rfl
 clear hcv3 h3 ho3 hrd4 hcv4 hnx k9 g9
 go_wp2_with fail
 (with_reducible refine HNX.out.mono ?_);rintro e w5 ⟨rfl,ho5⟩
 have hcv5:=HCV4.out.on ho5 (by simp)
 have hrd5:=HRD4.out.on ho5 (by simp)
 have k8:=hcv5.cell 8 (v:=.int .u8 0) rfl
 have g8:=hcv5.fz 8
 have e1:=hrd5.c1
 have g1:=hrd5.f1
 have hl9:(i:Int)<(s.length:Int):=by have:=At.lt HA.out;omega
 have HCV5:=hid hcv5
 have HRD5:=hid hrd5
 have HO5:=hid (HO4.out.trans (ho5.more (by simp)))
 clear hcv5 hrd5 ho5 k4 g4 hm1 HNX HW HT HC
 rcases isLet_scan HOK.out with rfl | rfl | rfl | rfl | rfl
 all_goals
  go_wp2
  go_ret
  exact ⟨rfl,SRd.put (i:=i) (HRD5.out.other hpq _ _) _ (by omega),(HCV5.out.set 8 _).other (fun e=>hpq e.symm) _ _,(HO5.out.trans (OnlyS.set (by simp) _)).trans (OnlyS.set (by simp) _)⟩
end Go.Proofs.YtbilphfbfnohmaaGreatDoor.Pz
namespace Go.Proofs.YtbilphfbfnohmaaGreatDoor.Pz
open Go.RowKit
section
variable {P:Program} {fn:Func} {ty:TypeId} {d:TypeDesc} {w:World} {g:Nat} {cs:Array Value} {fr:Nat×Nat} {t:TypeId}
theorem results_ctS {t0 p:Tmp} (h:fn.results=#[.cell p ty,.tmp t0]) (tmps:Array Value) (hp:tmps.getD p undef=.pointer (some ⟨g,0,none⟩)) (hg:w.heap[g]? = some (.cells cs t fr))
  (hu:P.underlying ty=some d) (hd:(match d with | .struct _ | .array _ _=>true | _=>false)=true) (hi:(P.info? ty).map (·.size)=some cs.size) :
  (results fn tmps).run P w=.ok (.tuple #[.agg cs,tmps.getD t0 undef]) w:=by
 have hp':tmps[p]?.getD undef=.pointer (some ⟨g,0,none⟩):=by simpa using hp
 simp [results,h,hp',asAddr,run_loadVar_row w g t ty cs fr d hg hu hd hi]
end
theorem CvS.fill {w:World} {q:Nat} {z0 z1 z2 z3 z4 z5 z6 z7 z8 z9 z10:Value} (h:CvS w q #[z0,z1,z2,z3,z4,z5,z6,z7,z8,z9,z10]) (v0 v1 v2 v3 v4 v5 v6 v7 v8 v9 v10:Value):CvS (((((((((((w.setCell ⟨q,0,none⟩ v0).setCell ⟨q,1,none⟩ v1).setCell ⟨q,2,none⟩ v2).setCell ⟨q,3,none⟩ v3).setCell ⟨q,4,none⟩ v4).setCell ⟨q,5,none⟩ v5).setCell ⟨q,6,none⟩ v6).setCell ⟨q,7,none⟩ v7).setCell ⟨q,8,none⟩ v8).setCell ⟨q,9,none⟩ v9).setCell ⟨q,10,none⟩ v10) q #[v0,v1,v2,v3,v4,v5,v6,v7,v8,v9,v10]:=by
 have h9:=(((((((((((h.set 0 v0).set 1 v1).set 2 v2).set 3 v3).set 4 v4).set 5 v5).set 6 v6).set 7 v7).set 8 v8).set 9 v9).set 10 v10)
 simp only [List.setIfInBounds_toArray,List.set_cons_zero,List.set_cons_succ] at h9
 exact h9
structure TkS (w:World) (ab:Nat) (v:Value) (k:Nat):Prop where
 args:w.heap[ab]? = some (.cells #[v] 26 (0,0))
 next:w.heap[ab+1]? = some (.cells #[.int .i64 (k:Nat)] 3 (0,0))
theorem taken_fn (a:Option Addr) (n c:Nat) (w:World):Calls Tryz.prog 46 #[.slice a n c] w fun e w'=>
  e=.returned (.func (.func 86) #[] #[.pointer (some ⟨w.heap.size+1,0,none⟩),.pointer (some ⟨w.heap.size,0,none⟩)])∧Below w.heap.size w w'∧TkS w' w.heap.size (.slice a n c) 0∧w'.heap.size=w.heap.size+1+1:=by
 have hmf:∀ (fn:Fn) (first cap:Array Value) (w:World),(Instr.makeFunc fn first cap).run Tryz.prog w=.ok (.func fn first cap) w:=fun _ _ _ _=>rfl
 go_enter Tryz.func46,Tryz.ntmps46
 go_wp2
 go_ret
 refine ⟨rfl,((belowS _ _).trans ((belowS _ _).mono (by simp))),⟨?_,?_⟩,by simp⟩
 ·rw [Below.heap_alloc _ _ _ (by simp)]
  exact heap_alloc_new _ _
 ·have h:=heap_alloc_new (w.alloc (.cells #[.slice a n c] 26)) (.cells #[.int .i64 0] 3)
  rw [World.size_alloc] at h
  exact h
set_option maxRecDepth 100000 in
theorem taken1_fn {w:World} {ab k:Nat} {v:Value} {l:List Str} (h:TkS w ab v k) (hs:StrsAt w v l) (hk:k<l.length) (hl:l.length≤1000000) :
  Calls Tryz.prog 86 #[.int .i64 0,.pointer (some ⟨ab+1,0,none⟩),.pointer (some ⟨ab,0,none⟩)] w fun e w'=>
   e=.returned (.tuple #[.string ⟨l[k].toArray⟩,.int .i64 0])∧TkS w' ab v (k+1)∧OnlyS [ab+1] w w':=by
 obtain ⟨a,c,rfl,hcell⟩:=strsAt_off hs
 obtain ⟨b,o,rfl,hc⟩:=hcell k hk
 obtain ⟨x,hx⟩:∃ x,x=l[k]:=⟨_,rfl⟩
 rw [← hx] at hc ⊢
 have hne:b≠ab+1:=by
  rintro rfl
  rw [Lib.cell_of_heap h.next] at hc
  generalize o+k=j at hc
  cases j<;>simp at hc
 have c0:w.cell? ⟨ab+1,0,none⟩=some (.int .i64 (k:Nat)):=by rw [Lib.cell_of_heap h.next];rfl
 have f0:w.frozen? ⟨ab+1,0,none⟩=false:=Lib.frozen_of_heap h.next 0
 have c1:w.cell? ⟨ab,0,none⟩=some (.slice (some ⟨b,o,none⟩) l.length c):=by rw [Lib.cell_of_heap h.args];rfl
 obtain ⟨n,hn⟩:∃ n,n=l.length:=⟨_,rfl⟩
 rw [← hn] at hk hl c1
 have hkI:(k:Int)<(n:Int):=by omega
 have hkI2:¬ ((n:Int)<(k:Int)+1):=by omega
 have hne2:ab≠ab+1:=by omega
 have H:=hid h
 clear h hs hcell hx hn
 go_enter Tryz.func86,Tryz.ntmps86
 go_wp2
 go_ret2
 refine ⟨rfl,⟨(Below.heap_setCell _ _ _ _ (by exact hne2)).trans ?_,?_⟩,OnlyS.set (by simp) _⟩
 ·exact H.out.args
 ·have h9:=H.out.next
  simp [World.setCell,Array.getElem?_modify,h9]
section
variable {A wd pr:Int} {tx fl:Str} {c:UInt8}
set_option maxRecDepth 1000000 in
set_option maxHeartbeats 1000000 in
theorem filled_fn (g:Nat) (cap:Array Value) (w:World) :
  Calls Tryz.prog 50 #[.agg #[.int .i64 A,.string ⟨tx.toArray⟩,.int .i64 0,.string ⟨fl.toArray⟩,.int .i64 wd,.int .i64 pr,.bool false,.bool false,.int .u8 (c.toNat:Nat),.bool false,.string ⟨#[]⟩],.func (.func g) #[] cap] w fun e w'=>e=.returned (.tuple #[.agg #[.int .i64 A,.string ⟨tx.toArray⟩,.int .i64 0,.string ⟨fl.toArray⟩,.int .i64 wd,.int .i64 pr,.bool false,.bool false,.int .u8 (c.toNat:Nat),.bool false,.string ⟨#[]⟩],.int .i64 0])∧Below w.heap.size w w':=by
 have hmf:∀ (fn:Fn) (first cap:Array Value) (w:World),(Instr.makeFunc fn first cap).run Tryz.prog w=.ok (.func fn first cap) w:=fun _ _ _ _=>rfl
 have i0:∀ (x y:Value) (W:World),(Instr.index 131 (.agg #[.bool false,x,.bool false,y]) (.int .i64 0)).run Tryz.prog W=.ok (.agg #[.bool false,x]) W:=fun _ _ _=>by kernel_rfl
 have i1:∀ (x y:Value) (W:World),(Instr.index 131 (.agg #[.bool false,x,.bool false,y]) (.int .i64 1)).run Tryz.prog W=.ok (.agg #[.bool false,y]) W:=fun _ _ _=>by kernel_rfl
 obtain ⟨w1,hw1⟩:∃ w1,w1=(w.alloc (.cells #[.int .i64 A,.string ⟨tx.toArray⟩,.int .i64 0,.string ⟨fl.toArray⟩,.int .i64 wd,.int .i64 pr,.bool false,.bool false,.int .u8 (c.toNat:Nat),.bool false,.string ⟨#[]⟩] 78)).alloc (.cells #[.int .i64 0,.string ⟨#[]⟩,.int .i64 0,.string ⟨#[]⟩,.int .i64 0,.int .i64 0,.bool false,.bool false,.int .u8 0,.bool false,.string ⟨#[]⟩] 78):=⟨_,rfl⟩
 have hI:CvIn w w1 #[.int .i64 A,.string ⟨tx.toArray⟩,.int .i64 0,.string ⟨fl.toArray⟩,.int .i64 wd,.int .i64 pr,.bool false,.bool false,.int .u8 (c.toNat:Nat),.bool false,.string ⟨#[]⟩]:=by rw [hw1];exact (CvIn.new w #[.int .i64 A,.string ⟨tx.toArray⟩,.int .i64 0,.string ⟨fl.toArray⟩,.int .i64 wd,.int .i64 pr,.bool false,.bool false,.int .u8 (c.toNat:Nat),.bool false,.string ⟨#[]⟩]).on (belowS _ _)
 have hI2:w1.heap[w.heap.size+1]? = some (.cells #[.int .i64 0,.string ⟨#[]⟩,.int .i64 0,.string ⟨#[]⟩,.int .i64 0,.int .i64 0,.bool false,.bool false,.int .u8 0,.bool false,.string ⟨#[]⟩] 78 (0,0)):=by
  have h:=heap_alloc_new (w.alloc (.cells #[.int .i64 A,.string ⟨tx.toArray⟩,.int .i64 0,.string ⟨fl.toArray⟩,.int .i64 wd,.int .i64 pr,.bool false,.bool false,.int .u8 (c.toNat:Nat),.bool false,.string ⟨#[]⟩] 78)) (.cells #[.int .i64 0,.string ⟨#[]⟩,.int .i64 0,.string ⟨#[]⟩,.int .i64 0,.int .i64 0,.bool false,.bool false,.int .u8 0,.bool false,.string ⟨#[]⟩] 78)
  rw [World.size_alloc] at h
  rw [hw1]
  exact h
 have HW1:=hid hw1
 have HI:=hid hI
 have HI2:=hid hI2
 clear hw1 hI hI2
 go_enter Tryz.func50,Tryz.ntmps50
 go_upto_region 1 with fail
 rw [← HW1.out]
 have q0:=HI.out.cv.cell 0 (v:=.int .i64 A) rfl
 have q1:=HI.out.cv.cell 1 (v:=.string ⟨tx.toArray⟩) rfl
 have q2:=HI.out.cv.cell 2 (v:=.int .i64 0) rfl
 have q3:=HI.out.cv.cell 3 (v:=.string ⟨fl.toArray⟩) rfl
 have q4:=HI.out.cv.cell 4 (v:=.int .i64 wd) rfl
 have q5:=HI.out.cv.cell 5 (v:=.int .i64 pr) rfl
 have q6:=HI.out.cv.cell 6 (v:=.bool false) rfl
 have q7:=HI.out.cv.cell 7 (v:=.bool false) rfl
 have q8:=HI.out.cv.cell 8 (v:=.int .u8 (c.toNat:Nat)) rfl
 have q9:=HI.out.cv.cell 9 (v:=.bool false) rfl
 have q10:=HI.out.cv.cell 10 (v:=.string ⟨#[]⟩) rfl
 go_wp2_with fail
 clear q0 q1 q2 q3 q4 q5 q6 q7 q8 q9 q10
 have hd1:w.heap.size+1+1=w1.heap.size:=by rw [HW1.out];simp
 go_loopg [20] 2 (fun k iv wr=>∃ i:Nat,iv=.int .i64 (i:Nat)∧i≤2∧Below w1.heap.size w1 wr∧k=2-i)
 case atStart=>exact ⟨0,rfl,by omega,Below.refl _ _,rfl⟩
 case round=>
  obtain ⟨i,rfl,hi,hbl,rfl⟩:=hrel
  have HBL:=hid hbl
  have hsz:=hbl.size
  clear hbl
  rcases (show i=0∨i=1∨i=2 by omega) with rfl | rfl | rfl
  ·go_wp2
   go_roundg (2-(0+1))
   case measure=>omega
   case rel=>exact ⟨1,rfl,by omega,HBL.out.alloc hsz _,rfl⟩
  ·go_wp2
   go_roundg (2-(1+1))
   case measure=>omega
   case rel=>exact ⟨2,rfl,by omega,HBL.out.alloc hsz _,rfl⟩
  ·have hIr:=HI.out.on HBL.out
   have hZr:CvS wr (w.heap.size+1) _:=(HBL.out.block _ (by omega)).trans HI2.out
   have q0:=hIr.cv.cell 0 (v:=.int .i64 A) rfl
   have q1:=hIr.cv.cell 1 (v:=.string ⟨tx.toArray⟩) rfl
   have q2:=hIr.cv.cell 2 (v:=.int .i64 0) rfl
   have q3:=hIr.cv.cell 3 (v:=.string ⟨fl.toArray⟩) rfl
   have q4:=hIr.cv.cell 4 (v:=.int .i64 wd) rfl
   have q5:=hIr.cv.cell 5 (v:=.int .i64 pr) rfl
   have q6:=hIr.cv.cell 6 (v:=.bool false) rfl
   have q7:=hIr.cv.cell 7 (v:=.bool false) rfl
   have q8:=hIr.cv.cell 8 (v:=.int .u8 (c.toNat:Nat)) rfl
   have q9:=hIr.cv.cell 9 (v:=.bool false) rfl
   have q10:=hIr.cv.cell 10 (v:=.string ⟨#[]⟩) rfl
   have z0:=hZr.cell 0 (v:=.int .i64 0) rfl
   have fz0:=hZr.fz 0
   have z1:=hZr.cell 1 (v:=.string ⟨#[]⟩) rfl
   have fz1:=hZr.fz 1
   have z2:=hZr.cell 2 (v:=.int .i64 0) rfl
   have fz2:=hZr.fz 2
   have z3:=hZr.cell 3 (v:=.string ⟨#[]⟩) rfl
   have fz3:=hZr.fz 3
   have z4:=hZr.cell 4 (v:=.int .i64 0) rfl
   have fz4:=hZr.fz 4
   have z5:=hZr.cell 5 (v:=.int .i64 0) rfl
   have fz5:=hZr.fz 5
   have z6:=hZr.cell 6 (v:=.bool false) rfl
   have fz6:=hZr.fz 6
   have z7:=hZr.cell 7 (v:=.bool false) rfl
   have fz7:=hZr.fz 7
   have z8:=hZr.cell 8 (v:=.int .u8 0) rfl
   have fz8:=hZr.fz 8
   have z9:=hZr.cell 9 (v:=.bool false) rfl
   have fz9:=hZr.fz 9
   have z10:=hZr.cell 10 (v:=.string ⟨#[]⟩) rfl
   have fz10:=hZr.fz 10
   have HZR:=hid hZr
   have hne:w.heap.size≠w.heap.size+1:=by omega
   have HIR:=hid hIr
   clear hIr hZr
   go_wp2
   refine bodyPost_ret (results_ctS (g:=w.heap.size+1) (cs:=#[.int .i64 A,.string ⟨tx.toArray⟩,.int .i64 0,.string ⟨fl.toArray⟩,.int .i64 wd,.int .i64 pr,.bool false,.bool false,.int .u8 (c.toNat:Nat),.bool false,.string ⟨#[]⟩]) (t:=78) (fr:=(0,0)) rfl _ rfl ?_ Tryz.underlying78 rfl (by kernel_rfl)) rfl ⟨rfl,?_⟩
   ·exact HZR.out.fill _ _ _ _ _ _ _ _ _ _ _
   ·iterate 11 refine Below.setCell ?_ (by show w.heap.size≤w.heap.size+1;omega) _
    exact HIR.out.low
end
end Go.Proofs.YtbilphfbfnohmaaGreatDoor.Pz
