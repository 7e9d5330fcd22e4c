/-
  Part K5 of the proofs of this seat, merged by a program out of 1 texts; remarks are struck.
-/
import Derived.RangeFuncNested
import Derived.RangeFuncBound
import Derived.RangeFuncCalls
import Derived.RangeFuncLeaves
import Derived.RangeFuncBox
import Derived.Shelf.Abstract
import Derived.Shelf.RegionOpen
import Derived.OwnWalkIn
import Derived.TacticsInMore
import Derived.LoopNIn
import Derived.LoopIn
import Derived.Deep.CutRange
import Derived.Deep.CutBlock
import Derived.Outline
import Derived.Test.YtihdndaibmgoiaaGreatDoorK4
namespace Go.Proofs.YtihdndaibmgoiaaGreatDoor.Pz
open Go.RowKit Go.Shelf
attribute [local go_sem] Oper.semAt_some
def encF (f:Fld):Array Value:=#[fldV f]
def KpF (B p:Nat) (W W':World):Prop:=Below B W W'∧W'.heap[p]? = W.heap[p]?
theorem KpF.refl (B p:Nat) (W:World):KpF B p W W:=⟨Below.refl _ _,rfl⟩
theorem KpF.trans {B p:Nat} {X Y Z:World} (h:KpF B p X Y) (k:KpF B p Y Z):KpF B p X Z:=⟨h.1.trans k.1,k.2.trans h.2⟩
theorem belowA (w:World) (o:Obj):Below w.heap.size w (w.alloc o):=(Below.refl _ _).alloc (Nat.le_refl _) _
theorem KpF.of {B p:Nat} {X Y:World} (h:Below X.heap.size X Y) (hB:B≤X.heap.size) (hp:p<X.heap.size):KpF B p X Y:=⟨h.mono hB,h.block p hp⟩
structure FSt (p b:Nat) (s:Str) (wr wx:World) (c:UInt8) (pl:Bool) (n:Int):Prop where
 blk:wx.heap[b]? = some (.cells #[.int .u8 (c.toNat:Nat),.bool pl,.int .i64 n] 79 (0,0))
 low:Below b wr wx
 box:wx.heap[p]? = some (.cells #[.string ⟨s.toArray⟩] 9 (0,0))
section
variable {p b:Nat} {s:Str} {wr wx wy:World} {c:UInt8} {pl:Bool} {n:Int}
theorem FSt.lt (h:FSt p b s wr wx c pl n):b<wx.heap.size:=(Array.getElem?_eq_some_iff.1 h.blk).1
theorem FSt.plt (h:FSt p b s wr wx c pl n):p<wx.heap.size:=(Array.getElem?_eq_some_iff.1 h.box).1
theorem FSt.c0 (h:FSt p b s wr wx c pl n):wx.cell? ⟨b,0,none⟩=some (.int .u8 (c.toNat:Nat)):=by rw [Lib.cell_of_heap h.blk];rfl
theorem FSt.c1 (h:FSt p b s wr wx c pl n):wx.cell? ⟨b,1,none⟩=some (.bool pl):=by rw [Lib.cell_of_heap h.blk];rfl
theorem FSt.c2 (h:FSt p b s wr wx c pl n):wx.cell? ⟨b,2,none⟩=some (.int .i64 n):=by rw [Lib.cell_of_heap h.blk];rfl
theorem FSt.f1 (h:FSt p b s wr wx c pl n):wx.frozen? ⟨b,1,none⟩=false:=Lib.frozen_of_heap h.blk 1
theorem FSt.f2 (h:FSt p b s wr wx c pl n):wx.frozen? ⟨b,2,none⟩=false:=Lib.frozen_of_heap h.blk 2
theorem FSt.pc (h:FSt p b s wr wx c pl n):wx.cell? ⟨p,0,none⟩=some (.string ⟨s.toArray⟩):=by rw [Lib.cell_of_heap h.box];rfl
theorem FSt.below (h:FSt p b s wr wx c pl n) (hb:Below wx.heap.size wx wy):FSt p b s wr wy c pl n:=
 ⟨(hb.block b h.lt).trans h.blk,h.low.trans (hb.mono (Nat.le_of_lt h.lt)),(hb.block p h.plt).trans h.box⟩
theorem FSt.drew (h:FSt p b s wr wx c pl n):FSt p b s wr wx.drew c pl n:=⟨h.blk,h.low.drew,h.box⟩
theorem FSt.set1 (h:FSt p b s wr wx c pl n) (hp:p<b) (q:Bool):FSt p b s wr (wx.setCell ⟨b,1,none⟩ (.bool q)) c q n:=
 ⟨by simp [World.setCell,Array.getElem?_modify,h.blk],h.low.setCell (Nat.le_refl _) _,(Below.heap_setCell _ _ _ _ (by show p≠b;omega)).trans h.box⟩
theorem FSt.set2 (h:FSt p b s wr wx c pl n) (hp:p<b) (m:Int):FSt p b s wr (wx.setCell ⟨b,2,none⟩ (.int .i64 m)) c pl m:=
 ⟨by simp [World.setCell,Array.getElem?_modify,h.blk],h.low.setCell (Nat.le_refl _) _,(Below.heap_setCell _ _ _ _ (by show p≠b;omega)).trans h.box⟩
end
theorem uE_no {c:UInt8} {t:Str} (h:(uE c t).1=false):(uE c t).2=t:=by
 cases t with
 | nil=>rfl
 | cons d t=>
  rw [uE] at h ⊢
  split at h
  ·cases h
  ·rename_i hh
   rw [if_neg hh]
theorem uE_yes {c:UInt8} {t:Str} (h:(uE c t).1=true):t=117::(uE c t).2:=by
 cases t with
 | nil=>cases h
 | cons d t=>
  rw [uE] at h ⊢
  split at h
  ·rename_i hh
   rw [if_pos hh]
   simp only [Bool.and_eq_true,beq_iff_eq] at hh
   rw [hh.2]
  ·cases h
theorem uE_zero {c:UInt8} (t:Str) (h:¬ 0<widthL c):(uE c t).1=false:=by
 cases t with
 | nil=>rfl
 | cons d t=>rw [uE,decide_eq_false h];rfl
theorem uE_at {c d:UInt8} (t:Str) (h:0<widthL c):(uE c (d::t)).1=(d == 117):=by
 rw [uE,decide_eq_true h,Bool.true_and]
 cases hd:(d == 117)<;>rfl
theorem numE_step {d:UInt8} (k a:Nat) (t:Str) (h:isNum d=true):numE (k+1) a (d::t)=numE k (10*a+(d.toNat-48)) t:=by
 rw [numE,if_pos h]
theorem numE_stop {d:UInt8} (k a:Nat) (t:Str) (h:isNum d=false):numE k a (d::t)=(a,d::t):=by
 cases k with
 | zero=>rw [numE];simp
 | succ k=>rw [numE,if_neg (by simp [h])]
theorem numE_zero (a:Nat) (l:Str):numE 0 a l=(a,l):=by
 cases l with
 | nil=>rw [numE]
 | cons d t=>rw [numE];simp
theorem numE_nil (k a:Nat):numE k a []=(a,[]):=by
 cases k<;>rw [numE]
def digC:Str→Int×Str
 | []=>(-1,[])
 | c::t=>if isNum c then ((numE 5 0 (c::t)).1,(numE 5 0 (c::t)).2) else (-1,c::t)
structure DigSt (t2:Str) (j a:Nat) (r:Str) (n:Int):Prop where
 j5:j≤5
 lt:a<10 ^ j
 num:numE (5-j) a r=numE 5 0 t2
 one:(j=0∧n = -1∧r=t2)∨(0<j∧n=(a:Int)∧∃ d t',t2=d::t'∧isNum d=true)
theorem DigSt.start (t2:Str):DigSt t2 0 0 t2 (-1):=⟨by omega,by decide,rfl,.inl ⟨rfl,rfl,rfl⟩⟩
theorem DigSt.small {t2 r:Str} {j a:Nat} {n:Int} (h:DigSt t2 j a r n):a<100000:=Nat.lt_of_lt_of_le h.lt (Nat.pow_le_pow_right (by decide) h.j5)
theorem DigSt.max {t2 r:Str} {j a:Nat} {n:Int} (h:DigSt t2 j a r n):max n 0=(a:Int):=by
 rcases h.one with ⟨rfl,rfl,_⟩ | ⟨_,rfl,_⟩
 ·have:=h.lt
  simp at this
  subst this
  rfl
 ·omega
theorem isNum_iff (d:UInt8):isNum d=true↔48≤d.toNat∧d.toNat≤57:=by simp [isNum]
theorem DigSt.step {t2 r:Str} {j a:Nat} {n:Int} {d:UInt8} (h:DigSt t2 j a (d::r) n) (hd:isNum d=true) (hj:j<5):DigSt t2 (j+1) (10*a+(d.toNat-48)) r ((10*a+(d.toNat-48):Nat):Int):=by
 refine ⟨hj,?_,?_,.inr ⟨by omega,rfl,?_⟩⟩
 ·have h1:=h.lt
  have h2:=(isNum_iff d).1 hd
  rw [Nat.pow_succ]
  omega
 ·rw [← h.num,show 5-j=5-(j+1)+1 by omega,numE_step _ _ _ hd]
 ·rcases h.one with ⟨_,_,h1⟩ | ⟨_,_,h1⟩
  ·exact ⟨d,r,h1.symm,hd⟩
  ·exact h1
theorem DigSt.done {t2 r:Str} {j a:Nat} {n:Int} (h:DigSt t2 j a r n) (he:r=[]∨(∃ d t',r=d::t'∧isNum d=false)∨j=5):digC t2=(n,r):=by
 have hn:numE (5-j) a r=(a,r):=by
  rcases he with rfl | ⟨d,t',rfl,hd⟩ | rfl
  ·exact numE_nil _ _
  ·exact numE_stop _ _ _ hd
  ·exact numE_zero _ _
 rw [h.num] at hn
 rcases h.one with ⟨rfl,rfl,rfl⟩ | ⟨_,rfl,d,t',rfl,hd⟩
 ·rcases he with rfl | ⟨d,t',rfl,hd⟩ | h5
  ·rfl
  ·rw [digC,if_neg (by simp [hd])]
  ·omega
 ·rw [digC,if_pos hd,hn]
theorem cntE_nil:cntE []=(-1,true,[]):=rfl
theorem cntE_num {d:UInt8} (t:Str) (h:isNum d=true):cntE (d::t)=((((numE 5 0 (d::t)).1:Nat):Int),decide ((numE 5 0 (d::t)).1≤9999) && !(d == 48 && decide ((numE 5 0 (d::t)).2.length<t.length)),(numE 5 0 (d::t)).2):=by
 rw [cntE,if_pos h]
theorem cntE_star (t:Str):cntE (42::t)=(-2,true,t):=rfl
theorem cntE_none {d:UInt8} (t:Str) (h:isNum d=false) (h2:d≠42):cntE (d::t)=(-1,true,d::t):=by
 rw [cntE,if_neg (by simp [h]),if_neg (by simpa using h2)]
theorem digC_num {d:UInt8} (t:Str) (h:isNum d=true):digC (d::t)=((((numE 5 0 (d::t)).1:Nat):Int),(numE 5 0 (d::t)).2):=by
 rw [digC,if_pos h]
theorem digC_none {d:UInt8} (t:Str) (h:isNum d=false):digC (d::t)=(-1,d::t):=by
 rw [digC,if_neg (by simp [h])]
theorem digC_short {d:UInt8} (t:Str) (h:isNum d=true):(digC (d::t)).2.length≤t.length:=by
 rw [digC_num t h,numE_step 4 0 t h]
 exact suf_len (numE_suf _ _ _)
def starB (l:Str):Bool:=match l with | []=>false | d::_=>d == 42
def badB (kn:Bool) (n:Int) (z more:Bool) (c:UInt8):Bool:=!kn || decide (9999<n) || (decide (0≤n) && z && more) || (c == 64 && decide (n = -1))
def headZ (l:Str):Bool:=match l with | []=>false | d::_=>d == 48
theorem bad_eq (c:UInt8) (t2:Str) {i2 i4 m:Nat} (h2:i2+t2.length=m) (h4:i4+(cntE t2).2.2.length=m) :
  badB (knownL c) (cntE t2).1 (headZ t2) (decide (i2+1<i4)) c=!(knownL c && (cntE t2).2.1 && !(c == 64 && decide ((cntE t2).1 = -1))):=by
 unfold badB
 cases t2 with
 | nil=>
  rw [cntE_nil]
  cases knownL c<;>cases (c == 64)<;>rfl
 | cons d t=>
  cases hn:isNum d with
  | true=>
   rw [cntE_num t hn] at h4 ⊢
   generalize numE 5 0 (d::t)=x at *
   obtain ⟨v,r⟩:=x
   dsimp only at h4 ⊢
   simp only [List.length_cons] at h2
   have e1:decide (i2+1<i4)=decide (r.length<t.length):=decide_eq_decide.2 (by omega)
   have e2:decide ((9999:Int)<(v:Int))=!decide (v≤9999):=by
    rw [← decide_not];exact decide_eq_decide.2 (by omega)
   have e3:decide ((0:Int)≤(v:Int))=true:=decide_eq_true (by omega)
   have e4:decide ((v:Int) = -1)=false:=decide_eq_false (by omega)
   rw [e1,e2,e3,e4]
   show (!knownL c || !decide (v≤9999) || (true && (d == 48) && decide (r.length<t.length)) || (c == 64 && false))=_
   cases knownL c<;>cases (c == 64)<;>cases decide (v≤9999)<;>cases (d == 48)<;>cases decide (r.length<t.length)<;>rfl
  | false=>
   by_cases h42:d=42
   ·subst h42
    rw [cntE_star]
    cases knownL c<;>cases (c == 64)<;>rfl
   ·rw [cntE_none t hn h42]
    cases knownL c<;>cases (c == 64)<;>rfl
theorem knownL_eq (c:UInt8):knownL c=(textL c || decide (0<widthL c) || c == 120 || c == 64):=rfl
set_option maxRecDepth 100000 in
set_option maxHeartbeats 6000000 in
theorem fields1_in (l B p:Nat) (s:Str) (hs:s.length≤1000000) (J Jx:List Fld→World→Prop) (W:World) (N:Nat)
    (hY:∀ pre x W1,J pre W1→pre++[x] <+: fldsE s→YieldAt Fence.wide (N-1) Tryz.prog l (encF x) W1 fun e W'=>(e=.returned (.bool true)∧J (pre++[x]) W'∧KpF B p W1 W')∨(e=.returned (.bool false)∧Jx (pre++[x]) W'))
    (hp:W.heap[p]? = some (.cells #[.string ⟨s.toArray⟩] 9 (0,0))) (hBW:B≤W.heap.size)
    (hJd:∀ s W1 W2,J s W1→Below W1.heap.size W1 W2→J s W2) (h0:J [] W) :
    CallsIn Fence.wide N Tryz.prog 120 #[.func (.yield l) #[] #[],.pointer (some ⟨p,0,none⟩)] W fun e W'=>(∃ v,e=.returned v)∧(J (fldsE s) W'∨∃ pre,pre <+: fldsE s∧Jx pre W'):=by
  have hsz:(⟨s.toArray⟩:ByteArray).size=s.length:=Lib.size_mk _
  have HY:=hid hY
  have HP:=hid hp
  have HJ:=hid hJd
  have H0:=hid h0
  have hpl:=(Array.getElem?_eq_some_iff.1 hp).1
  have hpc:W.cell? ⟨p,0,none⟩=some (.string ⟨s.toArray⟩):=by rw [Lib.cell_of_heap hp];rfl
  clear hY hp hJd h0
  refine callsIn_of_wp Tryz.func120 rfl trivial ?_ rfl
  simp only [Tryz.ntmps120,List.size_toArray,List.length_cons,List.length_nil,Nat.reduceAdd,Nat.reduceSub,Array.replicate_succ,Array.replicate_zero,List.push_toArray,List.append_toArray,List.nil_append,List.cons_append]
  gi_wp2
  gi_loopw [3] (fun iv wr=>∃ (i:Nat) (r:Str) (pre:List Fld),iv=.int .i64 (i:Nat)∧At s r i∧fldsE s=pre++fldsE r∧J pre wr∧KpF B p W wr)
    (fun iv _=>s.length-(intOf iv).toNat)
  case atStart=>exact ⟨0,s,[],rfl,At.start s,rfl,H0.out,KpF.refl _ _ _⟩
  case round=>
    obtain ⟨i,r,pre,rfl,ha,hpre,hJ,hkp⟩:=hrel
    have hsw:=hkp.1.size
    have hpc':wr.cell? ⟨p,0,none⟩=some (.string ⟨s.toArray⟩):=by rw [Lib.cell_of_heap (hkp.2.trans HP.out)];rfl
    cases r with
    | nil=>
      have hge:s.length≤i:=ha.nil_iff.1 rfl
      rw [fldsE_nil,List.append_nil] at hpre
      clear ha
      gi_wp2
      go_end0
      exact ⟨⟨_,rfl⟩,.inl (by rw [hpre];exact hJ)⟩
    | cons c t=>
      have hlt:=ha.lt
      have hx:=ha.byte
      have hlen:=ha.len
      simp only [List.length_cons] at hlen
      have HA:=hid ha
      have HPRE:=hid hpre
      have HJ1:=hid hJ
      have HKP:=hid hkp
      clear hpre hJ hkp ha
      by_cases h32:c=32
      · subst h32
        gi_wp2
        go_roundw
        case rel=>exact ⟨i+1,t,pre,by go_num,HA.out.tail,by rw [HPRE.out,fldsE_blank rfl],HJ1.out,HKP.out⟩
        case measure=>simp [intOf]<;>omega
      have n32:=byte_ne 32 h32 rfl
      have hpl':p<wr.heap.size:=by omega
      have hnew:(wr.alloc (.cells #[.int .u8 (c.toNat:Nat),.bool false,.int .i64 (-1)] 79)).heap[wr.heap.size]? = some (.cells #[.int .u8 (c.toNat:Nat),.bool false,.int .i64 (-1)] 79 (0,0)):=heap_alloc_new _ _
      have hsa:(wr.alloc (.cells #[.int .u8 (c.toNat:Nat),.bool false,.int .i64 (-1)] 79)).heap.size=wr.heap.size+1:=by simp
      have hba:Below wr.heap.size wr (wr.alloc (.cells #[.int .u8 (c.toNat:Nat),.bool false,.int .i64 (-1)] 79)):=belowA _ _
      refine wpIn_wide.2 ?_
      go_upto_region 6 with fail
      generalize wr.alloc (.cells #[.int .u8 (c.toNat:Nat),.bool false,.int .i64 (-1)] 79)=W1 at *
      have hS:FSt p wr.heap.size s wr W1 c false (-1):=⟨hnew,hba,(hba.block p hpl').trans (HKP.out.2.trans HP.out)⟩
      obtain ⟨b,hb⟩:∃ b,b=wr.heap.size:=⟨_,rfl⟩
      rw [← hb] at hS hpl' ⊢
      have HB:=hid hb
      have HS:=hid hS
      clear hb hnew hsa hba hS
      go_cut [37] from 7 to 152 (fun v wx=>v=.bool (uE c t).1∧FSt p b s wr wx c false (-1))
      case first=>as_aux_lemma=>
        obtain ⟨k,hk⟩:∃ k,k=widthL c:=⟨_,rfl⟩
        have hwf:=fun w=>width_fn c false (-1) w
        rw [← hk] at hwf
        have HW:=hid hwf
        have HK:=hid hk
        have c0:=HS.out.c0
        have c1:=HS.out.c1
        have c2:=HS.out.c2
        have HX:=hid hx
        clear hwf hk
        by_cases hk0:0<k
        · have hkI:(0:Int)<(k:Int):=by omega
          cases t with
          | nil=>
            have he:¬ ((i:Int)+1<(s.length:Int)):=by simp at hlen;omega
            go_wp2_with ((with_reducible refine (HW.out _).mono ?_);rintro e w1 ⟨rfl,hb1⟩;have S1:=HS.out.below hb1;have q1:=S1.pc;have HS1:=hid S1;clear S1 hb1)
            go_meet
            case rel=>exact ⟨rfl,HS1.out⟩
          | cons d t'=>
            have hlt2:(i:Int)+1<(s.length:Int):=by simp at hlen;omega
            have hx2:∀ h',(⟨s.toArray⟩:ByteArray)[i+1]'h'=d:=HA.out.tail.byte
            have HU:=hid (uE_at (d:=d) t' (by rw [← HK.out];exact hk0))
            by_cases hd:d=117
            · subst hd
              go_wp2_with ((with_reducible refine (HW.out _).mono ?_);rintro e w1 ⟨rfl,hb1⟩;have S1:=HS.out.below hb1;have q1:=S1.pc;have HS1:=hid S1;clear S1 hb1)
              go_meet
              case rel=>exact ⟨by rw [HU.out];rfl,HS1.out⟩
            · have n117:=byte_ne 117 hd rfl
              go_wp2_with ((with_reducible refine (HW.out _).mono ?_);rintro e w1 ⟨rfl,hb1⟩;have S1:=HS.out.below hb1;have q1:=S1.pc;have HS1:=hid S1;clear S1 hb1)
              go_meet
              case rel=>exact ⟨by rw [HU.out,show (d == 117)=false by simpa using hd],HS1.out⟩
        · have hkI:¬ ((0:Int)<(k:Int)):=by omega
          have HU:=hid (uE_zero t (c:=c) (by rw [← HK.out];exact hk0))
          go_wp2_with ((with_reducible refine (HW.out _).mono ?_);rintro e w1 ⟨rfl,hb1⟩;have S1:=HS.out.below hb1;have q1:=S1.pc;have HS1:=hid S1;clear S1 hb1)
          go_meet
          case rel=>exact ⟨by rw [HU.out],HS1.out⟩
      clear HS
      obtain ⟨rfl,hS⟩:=hcut
      have HS:=hid hS
      clear hS
      go_upto_if 37 with fail
      go_cut [3] from 7 to 152 (fun iv wx=>∃ i2:Nat,iv=.int .i64 (i2:Nat)∧At s (uE c t).2 i2∧FSt p b s wr wx c (uE c t).1 (-1))
      case first=>as_aux_lemma=>
        have c1:=HS.out.c1
        have f1:=HS.out.f1
        obtain ⟨q,hq⟩:∃ q,q=(uE c t).1:=⟨_,rfl⟩
        generalize hv:Value.bool (uE c t).1=vq at *
        rw [← hq] at hv
        subst hv
        cases q with
        | true=>
          have hu:=hq.symm
          have ht:=uE_yes hu
          have ha2:At s (uE c t).2 (i+1+1):=by
            have h1:=HA.out.tail
            rw [ht] at h1
            exact h1.tail
          have hb2:=ha2.len
          have HA2:=hid ha2
          have HU:=hid hu
          clear hu hq ht ha2
          go_wp2
          go_meet
          case rel=>exact ⟨i+1+1,by go_num,HA2.out,by have h9:=HS.out.set1 hpl' true;rwa [HU.out]⟩
        | false=>
          have hu:=hq.symm
          have ht:=uE_no hu
          have HT:=hid ht
          have HU:=hid hu
          clear hu hq ht
          go_wp2
          go_meet
          case rel=>exact ⟨i+1,by go_num,by rw [HT.out];exact HA.out.tail,by rw [HU.out];exact HS.out⟩
      clear HS
      obtain ⟨i2,rfl,ha2,hS⟩:=hcut
      have HS:=hid hS
      have HA2:=hid ha2
      clear hS ha2
      obtain ⟨pl,hpl2⟩:∃ pl,pl=(uE c t).1:=⟨_,rfl⟩
      obtain ⟨t2,ht2⟩:∃ t2,t2=(uE c t).2:=⟨_,rfl⟩
      rw [← hpl2] at HS
      rw [← ht2] at HA2
      have HPL:=hid hpl2
      have HT2:=hid ht2
      clear hpl2 ht2
      go_upto_block 2 with fail
      go_cut [3] from 7 to 152 (fun iv wx=>∃ (i3:Nat),iv=.int .i64 (i3:Nat)∧At s (digC t2).2 i3∧FSt p b s wr wx c pl (digC t2).1)
      case first=>as_aux_lemma=>
        go_wp2_with fail
        go_loopw [3] (fun iv wx=>∃ (j a:Nat) (r:Str) (n:Int),iv=.int .i64 ((i2+j:Nat):Int)∧At s r (i2+j)∧DigSt t2 j a r n∧FSt p b s wr wx c pl n) (fun iv _=>s.length-(intOf iv).toNat)
        case atStart=>exact ⟨0,0,t2,-1,rfl,HA2.out,DigSt.start t2,HS.out⟩
        case round=>
          obtain ⟨j,a,r,n,rfl,ha3,hD,hS3⟩:=hrel
          have hq:=hS3.pc
          have hlen3:=ha3.len
          have HS3:=hid hS3
          have HA3:=hid ha3
          have hj5:=hD.j5
          have hab:=hD.small
          have HD:=hid hD
          clear hS3 ha3 hD
          cases r with
          | nil=>
            have he:¬ ((i2:Int)+(j:Int)<(s.length:Int)):=by simp at hlen3;omega
            go_wp2
            go_meet
            case rel=>exact ⟨i2+j,rfl,by rw [HD.out.done (.inl rfl)];exact HA3.out,by rw [HD.out.done (.inl rfl)];exact HS3.out⟩
          | cons d t'=>
            have hx3:∀ h',(⟨s.toArray⟩:ByteArray)[i2+j]'h'=d:=HA3.out.byte
            have hlt3:(i2:Int)+(j:Int)<(s.length:Int):=by simp at hlen3;omega
            have hd8:=d.toNat_lt
            cases hn:isNum d with
            | false=>
              have hno:d.toNat<48∨57<d.toNat:=by
                rcases Nat.lt_or_ge d.toNat 48 with h9 | h9
                · exact .inl h9
                · rcases Nat.lt_or_ge 57 d.toNat with h8 | h8
                  · exact .inr h8
                  · have:=(isNum_iff d).2 ⟨h9,h8⟩
                    rw [hn] at this
                    cases this
              have HE:=hid (HD.out.done (.inr (.inl ⟨d,t',rfl,hn⟩)))
              clear hn
              rcases hno with g | g
              · go_wp2
                go_meet
                case rel=>exact ⟨i2+j,rfl,by rw [HE.out];exact HA3.out,by rw [HE.out];exact HS3.out⟩
              · have g4:(48:Int)≤(d.toNat:Int):=by omega
                go_wp2
                go_meet
                case rel=>exact ⟨i2+j,rfl,by rw [HE.out];exact HA3.out,by rw [HE.out];exact HS3.out⟩
            | true=>
              obtain ⟨g1,g2⟩:=(isNum_iff d).1 hn
              have HN:=hid hn
              clear hn
              by_cases hj:j=5
              · subst hj
                have HE:=hid (HD.out.done (.inr (.inr rfl)))
                go_wp2
                go_meet
                case rel=>exact ⟨i2+5,rfl,by rw [HE.out];exact HA3.out,by rw [HE.out];exact HS3.out⟩
              · have hnl:(i2:Int)+(j:Int)<(i2:Int)+5:=by omega
                have hmx:=HD.out.max
                have c2:=HS3.out.c2
                have f2:=HS3.out.f2
                go_wp2
                go_region
                go_wp2
                refine ⟨⟨j+1,10*a+(d.toNat-48),t',_,by go_num,HA3.out.tail,HD.out.step HN.out (by omega),?_⟩,by simp [intOf]<;>omega⟩
                have h9:=(HS3.out.set2 hpl' ((10*a+(d.toNat-48):Nat):Int)).drew
                rwa [show ((10*a+(d.toNat-48):Nat):Int)=(a:Int)*10+((d.toNat:Int)-48) by omega] at h9 ⊢
      clear HS
      obtain ⟨i3,rfl,ha3,hS⟩:=hcut
      have HS:=hid hS
      have HA3:=hid ha3
      clear hS ha3
      go_upto_region 13 with fail
      go_cut [91] from 7 to 152 (fun v wx=>v=.bool (starB t2)∧FSt p b s wr wx c pl (digC t2).1)
      case first=>as_aux_lemma=>
        have hq:=HS.out.pc
        cases t2 with
        | nil=>
          have hi:i3=i2:=by
            have h1:=HA2.out.len
            have h2:=HA3.out.len
            simp [digC] at h1 h2
            omega
          subst hi
          have hi2:i3=s.length:=by simpa using HA2.out.len
          have he:¬ ((i3:Int)<(s.length:Int)):=by omega
          have HI:=hid hi2
          clear hi2
          go_wp2
          go_meet
          case rel=>exact ⟨rfl,HS.out⟩
        | cons d t'=>
          cases hn:isNum d with
          | true=>
            have hne:((i2:Int) == (i3:Int))=false:=by
              have h1:=HA2.out.len
              have h2:=HA3.out.len
              have h3:=digC_short t' hn
              simp only [List.length_cons] at h1
              rw [beq_eq_false_iff_ne]
              omega
            have HZ:=hid (show starB (d::t')=false by show (d == 42)=false;rw [beq_eq_false_iff_ne];rintro rfl;exact absurd hn (by decide))
            clear hn
            go_wp2
            go_meet
            case rel=>exact ⟨by rw [HZ.out],HS.out⟩
          | false=>
            have hi:i3=i2:=by
              have h1:=HA2.out.len
              have h2:=HA3.out.len
              rw [digC_none t' hn] at h2
              dsimp only at h2
              omega
            subst hi
            have hlt3:(i3:Int)<(s.length:Int):=by have:=HA2.out.lt;omega
            have hx3:∀ h',(⟨s.toArray⟩:ByteArray)[i3]'h'=d:=HA2.out.byte
            clear hn
            by_cases h42:d=42
            · subst h42
              go_wp2
              go_meet
              case rel=>exact ⟨rfl,HS.out⟩
            · have n42:=byte_ne 42 h42 rfl
              have HZ:=hid (show starB (d::t')=false by show (d == 42)=false;rw [beq_eq_false_iff_ne];exact h42)
              go_wp2
              go_meet
              case rel=>exact ⟨by rw [HZ.out],HS.out⟩
      clear HS
      obtain ⟨rfl,hS⟩:=hcut
      have HS:=hid hS
      clear hS
      go_upto_if 91 with fail
      go_cut [3] from 7 to 152 (fun iv wx=>∃ i4:Nat,iv=.int .i64 (i4:Nat)∧At s (cntE t2).2.2 i4∧FSt p b s wr wx c pl (cntE t2).1)
      case first=>as_aux_lemma=>
        obtain ⟨q,hq⟩:∃ q,q=starB t2:=⟨_,rfl⟩
        generalize hv:Value.bool (starB t2)=vq at *
        rw [← hq] at hv
        subst hv
        have f2:=HS.out.f2
        have c2:=HS.out.c2
        cases q with
        | true=>
          have h1:∃ t',t2=42::t':=by
            cases t2 with
            | nil=>cases hq
            | cons d t'=>
              have h8:(d == 42)=true:=hq.symm
              exact ⟨t',by rw [beq_iff_eq.1 h8]⟩
          obtain ⟨t',h1⟩:=h1
          have ha4:At s (cntE t2).2.2 (i3+1):=by
            have h2:=HA3.out
            rw [h1] at h2 ⊢
            exact h2.tail
          have HA4:=hid ha4
          have hl4:=ha4.len
          have HN:=hid (show (cntE t2).1 = -2 by rw [h1];rfl)
          clear hq h1 ha4
          go_wp2
          go_meet
          case rel=>exact ⟨i3+1,by go_num,HA4.out,by have h9:=HS.out.set2 hpl' (-2);rwa [HN.out]⟩
        | false=>
          have h1:(cntE t2).1=(digC t2).1∧(cntE t2).2.2=(digC t2).2:=by
            cases t2 with
            | nil=>exact ⟨rfl,rfl⟩
            | cons d t'=>
              have h8:(d == 42)=false:=hq.symm
              cases hn:isNum d with
              | true=>rw [cntE_num t' hn,digC_num t' hn];exact ⟨rfl,rfl⟩
              | false=>rw [cntE_none t' hn (by simpa using h8),digC_none t' hn];exact ⟨rfl,rfl⟩
          have H1:=hid h1
          clear hq h1
          go_wp2
          go_meet
          case rel=>exact ⟨i3,rfl,by rw [H1.out.2];exact HA3.out,by rw [H1.out.1];exact HS.out⟩
      clear HS
      obtain ⟨i4,rfl,ha4,hS⟩:=hcut
      have HBAD:=hid (bad_eq c t2 HA2.out.len ha4.len)
      obtain ⟨n,hn⟩:∃ n,n=(cntE t2).1:=⟨_,rfl⟩
      rw [← hn] at hS
      have HS:=hid hS
      have HA4:=hid ha4
      have HN:=hid hn
      clear hS ha4 hn
      go_upto_region 16 with fail
      go_cut [6] from 7 to 152 (fun v wx=>v=.bool (knownL c)∧FSt p b s wr wx c pl n)
      case first=>as_aux_lemma=>
        have htx:=fun w=>text_fn c pl n w
        have hwf:=fun w=>width_fn c pl n w
        have HKL:=hid (knownL_eq c)
        obtain ⟨k,hk⟩:∃ k,k=widthL c:=⟨_,rfl⟩
        obtain ⟨tx,hx4⟩:∃ tx,tx=textL c:=⟨_,rfl⟩
        rw [← hx4] at htx
        rw [← hk] at hwf
        rw [← hx4,← hk] at HKL
        have HT:=hid htx
        have HW:=hid hwf
        clear htx hwf hk hx4
        have c0:=HS.out.c0
        have c1:=HS.out.c1
        have c2:=HS.out.c2
        cases tx with
        | true=>
          have HK:=hid (show knownL c=true by rw [HKL.out];rfl)
          go_wp2_with ((with_reducible refine (HT.out _).mono ?_);rintro e w1 ⟨rfl,hb1⟩;have S1:=HS.out.below hb1;have q0:=S1.c0;have q1:=S1.c1;have q2:=S1.c2;have HS1:=hid S1;clear S1 hb1)
          go_meet
          case rel=>exact ⟨by rw [HK.out],HS1.out⟩
        | false=>
          by_cases hk0:0<k
          · have hkI:(0:Int)<(k:Int):=by omega
            have HK:=hid (show knownL c=true by rw [HKL.out,decide_eq_true hk0];rfl)
            go_wp2_with (first|((with_reducible refine (HT.out _).mono ?_);rintro e w1 ⟨rfl,hb1⟩;have S1:=HS.out.below hb1;have q0:=S1.c0;have q1:=S1.c1;have q2:=S1.c2;have HS1:=hid S1;clear S1 hb1)|((with_reducible refine (HW.out _).mono ?_);rintro e w2 ⟨rfl,hb2⟩;have S2:=HS1.out.below hb2;have r0:=S2.c0;have r1:=S2.c1;have r2:=S2.c2;have HS2:=hid S2;clear S2 hb2))
            go_meet
            case rel=>exact ⟨by rw [HK.out],HS2.out⟩
          · have hkI:¬ ((0:Int)<(k:Int)):=by omega
            by_cases h120:c=120
            · have y120:((c.toNat:Int) == 120)=true:=by rw [h120];rfl
              have HK:=hid (show knownL c=true by rw [h120];decide)
              clear h120
              go_wp2_with (first|((with_reducible refine (HT.out _).mono ?_);rintro e w1 ⟨rfl,hb1⟩;have S1:=HS.out.below hb1;have q0:=S1.c0;have q1:=S1.c1;have q2:=S1.c2;have HS1:=hid S1;clear S1 hb1)|((with_reducible refine (HW.out _).mono ?_);rintro e w2 ⟨rfl,hb2⟩;have S2:=HS1.out.below hb2;have r0:=S2.c0;have r1:=S2.c1;have r2:=S2.c2;have HS2:=hid S2;clear S2 hb2))
              go_meet
              case rel=>exact ⟨by rw [HK.out],HS2.out⟩
            have n120:=byte_ne 120 h120 rfl
            by_cases h64:c=64
            · have y64:((c.toNat:Int) == 64)=true:=by rw [h64];rfl
              have HK:=hid (show knownL c=true by rw [h64];decide)
              clear h64
              go_wp2_with (first|((with_reducible refine (HT.out _).mono ?_);rintro e w1 ⟨rfl,hb1⟩;have S1:=HS.out.below hb1;have q0:=S1.c0;have q1:=S1.c1;have q2:=S1.c2;have HS1:=hid S1;clear S1 hb1)|((with_reducible refine (HW.out _).mono ?_);rintro e w2 ⟨rfl,hb2⟩;have S2:=HS1.out.below hb2;have r0:=S2.c0;have r1:=S2.c1;have r2:=S2.c2;have HS2:=hid S2;clear S2 hb2))
              go_meet
              case rel=>exact ⟨by rw [HK.out],HS2.out⟩
            have n64:=byte_ne 64 h64 rfl
            have HK:=hid (show knownL c=false by rw [HKL.out,decide_eq_false hk0,show (c == 120)=false by simpa using h120,show (c == 64)=false by simpa using h64];rfl)
            clear h120 h64
            go_wp2_with (first|((with_reducible refine (HT.out _).mono ?_);rintro e w1 ⟨rfl,hb1⟩;have S1:=HS.out.below hb1;have q0:=S1.c0;have q1:=S1.c1;have q2:=S1.c2;have HS1:=hid S1;clear S1 hb1)|((with_reducible refine (HW.out _).mono ?_);rintro e w2 ⟨rfl,hb2⟩;have S2:=HS1.out.below hb2;have r0:=S2.c0;have r1:=S2.c1;have r2:=S2.c2;have HS2:=hid S2;clear S2 hb2))
            go_meet
            case rel=>exact ⟨by rw [HK.out],HS2.out⟩
      clear HS
      obtain ⟨rfl,hS⟩:=hcut
      have HS:=hid hS
      clear hS
      go_upto_region 17 with fail
      go_cut [145] from 7 to 152 (fun v wx=>v=.bool (badB (knownL c) n (headZ t2) (decide (i2+1<i4)) c)∧FSt p b s wr wx c pl n)
      case first=>as_aux_lemma=>
        have c0:=HS.out.c0
        have c2:=HS.out.c2
        have hq:=HS.out.pc
        obtain ⟨kn,hkn⟩:∃ kn,kn=knownL c:=⟨_,rfl⟩
        generalize hv:Value.bool (knownL c)=vq at *
        rw [← hkn] at hv
        subst hv
        have HKN:=hid hkn
        clear hkn
        have hb64:c≠64→badB kn n (headZ t2) (decide (i2+1<i4)) c=(!kn || decide (9999<n) || (decide (0≤n) && headZ t2 && decide (i2+1<i4))):=fun h=>by
          unfold badB
          rw [show (c == 64)=false by simpa using h,Bool.false_and,Bool.or_false]
        cases kn with
        | false=>
          have HE:=hid (show badB (knownL c) n (headZ t2) (decide (i2+1<i4)) c=true by rw [← HKN.out];rfl)
          clear hb64
          go_wp2
          go_meet
          case rel=>exact ⟨by rw [HE.out],HS.out⟩
        | true=>
          by_cases h9:9999<n
          · have HE:=hid (show badB (knownL c) n (headZ t2) (decide (i2+1<i4)) c=true by rw [← HKN.out];unfold badB;rw [decide_eq_true h9];rfl)
            clear hb64
            go_wp2
            go_meet
            case rel=>exact ⟨by rw [HE.out],HS.out⟩
          · obtain ⟨q64, hq64, y64⟩ : ∃ q, (c == 64) = q ∧ ((c.toNat : Int) == 64) = q := ⟨_, rfl, by
              rw [Bool.eq_iff_iff,beq_iff_eq,beq_iff_eq]
              constructor
              · intro h
                exact UInt8.toNat_inj.1 (show c.toNat=64 by omega)
              · rintro rfl
                rfl⟩
            obtain ⟨qm,hqm,ym⟩:∃ q,decide (n = -1)=q∧(n == -1)=q:=⟨_,rfl,by
              rw [Bool.eq_iff_iff,beq_iff_eq,decide_eq_true_eq]⟩
            by_cases h0:0≤n
            · have hqf:qm=false:=by rw [← hqm];exact decide_eq_false (by omega)
              subst hqf
              obtain ⟨d,t',ht2⟩:∃ d t',t2=d::t':=by
                cases t2 with
                | nil=>
                  have:=HN.out
                  rw [this] at h0
                  exact absurd h0 (by decide)
                | cons d t'=>exact ⟨d,t',rfl⟩
              have ha5:=HA2.out
              rw [ht2] at ha5
              have hx5:∀ h',(⟨s.toArray⟩:ByteArray)[i2]'h'=d:=ha5.byte
              have hlt5:(i2:Int)<(s.length:Int):=by have:=ha5.lt;omega
              have hz:headZ t2=(d == 48):=by rw [ht2];rfl
              have HZ:=hid hz
              clear ha5 ht2 hz
              by_cases h48:d=48
              · subst h48
                by_cases hm:i2+1<i4
                · have hmI:(i2:Int)+1<(i4:Int):=by omega
                  have HE:=hid (show badB (knownL c) n (headZ t2) (decide (i2+1<i4)) c=true by rw [← HKN.out];unfold badB;rw [decide_eq_false h9,decide_eq_true h0,HZ.out,decide_eq_true hm];first | rfl | simp)
                  clear hq64 hqm hm
                  go_wp2
                  go_meet
                  case rel=>exact ⟨by rw [HE.out],HS.out⟩
                · have hmI:¬ ((i2:Int)+1<(i4:Int)):=by omega
                  cases q64 with
                  | false=>
                    have HE:=hid (show badB (knownL c) n (headZ t2) (decide (i2+1<i4)) c=false by rw [← HKN.out];unfold badB;rw [decide_eq_false h9,decide_eq_true h0,HZ.out,decide_eq_false hm,hq64];first | rfl | simp)
                    clear hq64 hqm hm
                    go_wp2
                    go_meet
                    case rel=>exact ⟨by rw [HE.out],HS.out⟩
                  | true=>
                    have HE:=hid (show badB (knownL c) n (headZ t2) (decide (i2+1<i4)) c=false by rw [← HKN.out];unfold badB;rw [decide_eq_false h9,decide_eq_true h0,HZ.out,decide_eq_false hm,hq64,hqm];first | rfl | simp)
                    clear hq64 hqm hm
                    go_wp2
                    go_meet
                    case rel=>exact ⟨by rw [HE.out],HS.out⟩
              · have n48:=byte_ne 48 h48 rfl
                have h48b:(d == 48)=false:=by simpa using h48
                cases q64 with
                | false=>
                  have HE:=hid (show badB (knownL c) n (headZ t2) (decide (i2+1<i4)) c=false by rw [← HKN.out];unfold badB;rw [decide_eq_false h9,decide_eq_true h0,HZ.out,h48b,hq64];first | rfl | simp)
                  clear hq64 hqm h48 h48b
                  go_wp2
                  go_meet
                  case rel=>exact ⟨by rw [HE.out],HS.out⟩
                | true=>
                  have HE:=hid (show badB (knownL c) n (headZ t2) (decide (i2+1<i4)) c=false by rw [← HKN.out];unfold badB;rw [decide_eq_false h9,decide_eq_true h0,HZ.out,h48b,hq64,hqm];first | rfl | simp)
                  clear hq64 hqm h48 h48b
                  go_wp2
                  go_meet
                  case rel=>exact ⟨by rw [HE.out],HS.out⟩
            · have h0I:n<0:=by omega
              cases q64 with
              | false=>
                have HE:=hid (show badB (knownL c) n (headZ t2) (decide (i2+1<i4)) c=false by rw [← HKN.out];unfold badB;rw [decide_eq_false h9,decide_eq_false h0,hq64];first | rfl | simp)
                clear hq64 hqm h0
                go_wp2
                go_meet
                case rel=>exact ⟨by rw [HE.out],HS.out⟩
              | true=>
                cases qm with
                | false=>
                  have HE:=hid (show badB (knownL c) n (headZ t2) (decide (i2+1<i4)) c=false by rw [← HKN.out];unfold badB;rw [decide_eq_false h9,decide_eq_false h0,hq64,hqm];first | rfl | simp)
                  clear hq64 hqm h0
                  go_wp2
                  go_meet
                  case rel=>exact ⟨by rw [HE.out],HS.out⟩
                | true=>
                  have HE:=hid (show badB (knownL c) n (headZ t2) (decide (i2+1<i4)) c=true by rw [← HKN.out];unfold badB;rw [decide_eq_false h9,decide_eq_false h0,hq64,hqm];first | rfl | simp)
                  clear hq64 hqm h0
                  go_wp2
                  go_meet
                  case rel=>exact ⟨by rw [HE.out],HS.out⟩
      clear HS
      obtain ⟨rfl,hS⟩:=hcut
      have HS:=hid hS
      clear hS
      rw [show badB (knownL c) n (headZ t2) (decide (i2+1<i4)) c=!(fldE c t).2.1 by rw [HN.out,HBAD.out];unfold fldE;rw [← HT2.out]]
      have HKB:=hid (show KpF B p W wc from ⟨HKP.out.1.trans (HS.out.low.mono (by have:=HB.out;omega)),HS.out.box.trans HP.out.symm⟩)
      have hbw:Below wr.heap.size wr wc:=by have h9:=HS.out.low;rwa [HB.out] at h9
      have hJc:=HJ.out _ _ _ HJ1.out hbw
      cases hg:(fldE c t).2.1 with
      | false=>
        have HIT:=hid (fldsE_bad h32 hg)
        obtain ⟨fn,tmps,assign,body,hy,hR⟩:=HY.out pre noFld wc hJc ⟨[],by rw [HPRE.out,HIT.out];simp⟩
        rw [show encF noFld=#[.agg #[.int .u8 0,.bool false,.int .i64 0]] from rfl] at hy
        have HR:=hid hR
        clear hR hg hJc
        go_upto_region 18 with fail
        go_cut [148] from 7 to 152 (fun v wx=>(v=.bool true∧J (pre++[noFld]) wx)∨(v=.bool false∧Jx (pre++[noFld]) wx))
        case first=>as_aux_lemma=>
          refine (wpIn_wide (n:=N)).1 ?_
          gi_wp2
          refine ⟨fun h=>by (cases h),?_⟩
          refine HR.out.mono ?_
          rintro e W3 (⟨rfl,hJ3,-⟩ | ⟨rfl,hJx3⟩)
          · have HJ3:=hid hJ3
            clear hJ3
            gi_wp2
            go_meet
            case rel=>exact .inl ⟨rfl,HJ3.out⟩
          · have HX3:=hid hJx3
            clear hJx3
            gi_wp2
            go_meet
            case rel=>exact .inr ⟨rfl,HX3.out⟩
        rcases hcut with ⟨rfl,hJ3⟩ | ⟨rfl,hJx3⟩
        · have HJ3:=hid hJ3
          clear hJ3
          go_wp2
          refine bodyPost_ret (results_none rfl _ _ _) rfl ?_
          exact ⟨⟨_,rfl⟩,.inl (by rw [HPRE.out,HIT.out];exact HJ3.out)⟩
        · have HX3:=hid hJx3
          clear hJx3
          go_wp2
          refine bodyPost_ret (results_none rfl _ _ _) rfl ?_
          exact ⟨⟨_,rfl⟩,.inr ⟨_,by rw [HPRE.out,HIT.out];exact (List.prefix_append_right_inj pre).2 (by simp),HX3.out⟩⟩
      | true=>
        have HIT:=hid (fldsE_good h32 hg)
        have HF:=hid (show (⟨c,pl,n⟩:Fld)=(fldE c t).1 by unfold fldE;rw [HPL.out,HN.out,HT2.out])
        obtain ⟨fn,tmps,assign,body,hy,hR⟩:=HY.out pre ⟨c,pl,n⟩ wc hJc ⟨fldsE (fldE c t).2.2,by rw [HPRE.out,HIT.out,HF.out];simp⟩
        rw [show encF ⟨c,pl,n⟩=#[.agg #[.int .u8 (c.toNat:Nat),.bool pl,.int .i64 n]] from rfl] at hy
        have HR:=hid hR
        have c0:=HS.out.c0
        have c1:=HS.out.c1
        have c2:=HS.out.c2
        clear hR hg hJc
        go_upto_region 19 with fail
        go_cut [152] from 7 to 152 (fun v wx=>(v=.bool false∧J (pre++[⟨c,pl,n⟩]) wx∧KpF B p wc wx)∨(v=.bool true∧Jx (pre++[⟨c,pl,n⟩]) wx))
        case first=>as_aux_lemma=>
          refine (wpIn_wide (n:=N)).1 ?_
          gi_wp2
          refine ⟨fun h=>by (cases h),?_⟩
          refine HR.out.mono ?_
          rintro e W3 (⟨rfl,hJ3,hk3⟩ | ⟨rfl,hJx3⟩)
          · have HJ3:=hid hJ3
            have HK3:=hid hk3
            clear hJ3 hk3
            gi_wp2
            go_meet
            case rel=>exact .inl ⟨rfl,HJ3.out,HK3.out⟩
          · have HX3:=hid hJx3
            clear hJx3
            gi_wp2
            go_meet
            case rel=>exact .inr ⟨rfl,HX3.out⟩
        have HSL:=hid (show s.length-i4<s.length-i by
          have h7:=suf_len (fldE_suf c t)
          have h8:i4+(cntE t2).2.2.length=s.length:=HA4.out.len
          have h9:(fldE c t).2.2=(cntE t2).2.2:=by rw [HT2.out];rfl
          rw [← h9] at h8
          omega)
        rcases hcut with ⟨rfl,hJ3,hk3⟩ | ⟨rfl,hJx3⟩
        · have HJ3:=hid hJ3
          have HK3:=hid (HKB.out.trans hk3)
          clear hJ3 hk3
          go_wp2
          go_roundw
          case rel=>exact ⟨i4,(fldE c t).2.2,pre++[⟨c,pl,n⟩],rfl,by have h9:=HA4.out;rw [HT2.out] at h9;exact h9,by rw [HPRE.out,HIT.out,HF.out];simp,HJ3.out,HK3.out⟩
          case measure=>
            have:=HSL.out
            simpa [intOf] using this
        · have HX3:=hid hJx3
          clear hJx3
          go_wp2
          refine bodyPost_ret (results_none rfl _ _ _) rfl ?_
          exact ⟨⟨_,rfl⟩,.inr ⟨_,by rw [HPRE.out,HIT.out,HF.out];exact (List.prefix_append_right_inj pre).2 (by simp),HX3.out⟩⟩
end Go.Proofs.YtihdndaibmgoiaaGreatDoor.Pz
