/-
  Part K14 of the proofs of this seat, merged by a program out of 4 texts; remarks are struck.
-/
import Derived.Laws.AppendOwnNone
import Derived.Deep.LoopGhost
import Derived.BigQuiet
import Derived.Deep.QuietTactic
import Derived.Test.YtihdndaibmgoiaaGreatDoorK13
namespace Go.Proofs.YtihdndaibmgoiaaGreatDoor
open Go.RowKit
theorem dgt_cons (L d t:Nat) (hd:d<10):dgt 10 (10*L+d) t=if t=0 then d else dgt 10 L (t-1):=by
 cases t with
 | zero=>rw [if_pos rfl];unfold dgt;rw [Nat.pow_zero,Nat.div_one];omega
 | succ t=>
  rw [if_neg (by omega),Nat.add_sub_cancel]
  unfold dgt
  rw [Nat.pow_succ,Nat.mul_comm (10 ^ t) 10,← Nat.div_div_eq_div_mul]
  congr 2
  omega
theorem cons_lt (L d k:Nat) (h:L<10 ^ k) (hd:d<10):10*L+d<10 ^ (k+1):=by
 rw [Nat.pow_succ];omega
section
variable {w:World} {ops:Array Oper} {rest:List Oper} {o:Oper} {a:Act} {Q:Exit→Act→World→Prop}
theorem app_cat (hgd:o.guard=none) (s x:Operand)
  (ho:o.op=.call { callee:=.builtin .append,args:=#[s,x],argTypes:=#[57,57] })
  (base:Nat) (d L:Nat) (X:Int) (hX:X=(d:Int)) (hd:d<10) (hs:a.eval s=.slice (some ⟨w.heap.size,0,none⟩) 1 1) (A:Option Addr) (cap:Nat) (hx:a.eval x=.slice A (dlen 10 L) cap) (hrow:DecRep w (.slice A (dlen 10 L) cap) L) (hnil:A=none→cap=0) (hn:dlen 10 L≤1000000000) (hbase:base≤w.heap.size)
  (h:∀ v' w',Own .i64 3 w' base v' (dlen 10 L+1) (dgt 10 (10*L+d))→Below base w w'→wpList Tryz.prog ops Q rest (a.put o.dst v') w') :
  wpList Tryz.prog ops Q (o::rest) a (w.alloc (.cells #[.int .i64 X] 3)):=by
 subst hX
 obtain ⟨i0,hi,hz0,hz1,hz2⟩:=info_parts Tryz.infoInt
 have hown:(w.alloc (.cells #[.int .i64 (d:Int)] 3)).ownsRow base 3 1 (.slice (some ⟨w.heap.size,0,none⟩) 1 1) 1 [.int .i64 (d:Int)]:=World.ownsRow_lit (e:=3) (size:=1) w #[.int .i64 (d:Int)] 1 hbase (by unfold maxLen;omega) rfl
 have hbl:Below base w (w.alloc (.cells #[.int .i64 (d:Int)] 3)):=(Below.refl base w).alloc hbase _
 obtain ⟨A',cap',hv,hcap,hcell⟩:=hrow
 simp only [Value.slice.injEq,true_and] at hv
 obtain ⟨rfl,rfl⟩:=hv
 have hcells:cellsK .i64 (dgt 10 (10*L+d)) (dlen 10 L+1)=[.int .i64 (d:Int)]++cellsK .i64 (dgt 10 L) (dlen 10 L):=by
  unfold cellsK
  rw [List.range_succ_eq_map,List.map_cons,List.map_map,dgt_cons L d 0 hd,if_pos rfl]
  refine congrArg (List.cons _) ?_
  apply List.map_congr_left
  intro t _
  simp only [Function.comp]
  rw [dgt_cons L d (t+1) hd,if_neg (by omega),Nat.add_sub_cancel]
 cases A with
 | none=>
  have h0:dlen 10 L=0:=by
   rcases Nat.eq_zero_or_pos (dlen 10 L) with h | h
   ·exact h
   ·obtain ⟨b,off,he,_⟩:=hcell h
    cases he
  obtain rfl:=hnil rfl
  rw [h0] at hx hcells h
  refine wpList_append_own_none hgd s x 57 ho base 3 i0 1 Tryz.underlying57 hi (.slice (some ⟨w.heap.size,0,none⟩) 1 1) 1 _ hs hown hx (h _ _ ?_ hbl)
  unfold Own
  rw [hcells]
  exact hown
 | some ad=>
  refine wpList_append_own _ hgd s x 57 ho base 3 i0 (.int .i64 0) 1 8 Tryz.underlying57 hi hz0 hz1 hz2 rfl (by decide) _ 1 _ hs hown
   ad (dlen 10 L) cap (cellsK .i64 (dgt 10 L) (dlen 10 L)) hx (by rw [cellsK_length];omega) ?_ ?_ (by unfold maxLen;omega) (by omega) (by simp;omega) ?_
  ·intro j u hj
   have hjl:j<dlen 10 L:=by
    have:=(List.getElem?_eq_some_iff.1 hj).1
    rwa [cellsK_length] at this
   obtain ⟨b,off,he,hlt,hc⟩:=hcell (by omega)
   obtain rfl:ad=⟨b,off,none⟩:=by simpa using he
   have h1:=hc j hjl
   rw [cellsK_get _ _ _ _ hjl] at hj
   obtain rfl:(.int .i64 ((dgt 10 L j:Nat):Int))=u:=by simpa using hj
   rw [show Addr.add ⟨b,off,none⟩ j=⟨b,off+j,none⟩ from by simp [Addr.add]]
   exact (((Below.refl w.heap.size w).alloc (Nat.le_refl _) (.cells #[.int .i64 (d:Int)] 3)).cell (p:=⟨b,off+j,none⟩) hlt).trans h1
  ·intro u hu
   unfold cellsK at hu
   obtain ⟨t,_,rfl⟩:=List.mem_map.1 hu
   rfl
  ·intro v' w' hown' hgrow _
   refine h v' w' ?_ ?_
   ·unfold Own
    rw [hcells,Nat.add_comm]
    exact hown'
   ·refine hbl.grown hgrow (by simp;omega) ?_
    intro k hk
    simp [Value.ownBlock] at hk
    omega
end
def fQ (m n j s:Nat):Nat:=if s<j then 0 else dgt 10 (m / n) s
theorem divStep (m n j:Nat) (hn:0<n):10*(m / 10 ^ (j+1) % n)+dgt 10 m j=n*dgt 10 (m / n) j+m / 10 ^ j % n:=by
 have h1:=div10_split m j
 have hd:=dgt_lt 10 m j (by decide)
 have e:dgt 10 (m / n) j=m / 10 ^ j / n % 10:=by
  unfold dgt
  rw [Nat.div_div_eq_div_mul,Nat.mul_comm n,← Nat.div_div_eq_div_mul]
 rw [e]
 generalize dgt 10 m j=d at *
 generalize m / 10 ^ (j+1)=M at *
 rw [h1]
 have h2:=Nat.div_add_mod M n
 have h3:=Nat.mod_lt M hn
 generalize M / n=q at *
 generalize M % n=r at *
 have h4:d+10*M=(10*r+d)+n*(10*q):=by
  rw [← h2,Nat.mul_add,Nat.mul_left_comm];omega
 rw [h4,Nat.add_mul_div_left _ _ hn,Nat.add_mul_mod_self_left,Nat.add_mul_mod_self_left]
 have h5:(10*r+d) / n<10:=by rw [Nat.div_lt_iff_lt_mul hn];omega
 rw [Nat.mod_eq_of_lt h5]
 exact (Nat.div_add_mod _ _).symm
theorem OwnDec.nilcap {w:World} {base n cap:Nat} {a:Option Addr} (h:OwnDec w base (.slice a (dlen 10 n) cap) n):a=none→cap=0:=by
 intro ha
 subst ha
 obtain ⟨hl,⟨hv,h0⟩ | ⟨g',cap',cur,hv,_⟩⟩:=h
 ·simp only [Value.slice.injEq] at hv
  exact hv.2.2
 ·simp at hv
set_option maxRecDepth 100000 in
set_option maxHeartbeats 4000000 in
theorem dividedR_fn {v u:Value} {m n:Nat} {w:World} (hv:DecRep w v m) (hu:DecRep w u n) (hm:dlen 10 m≤10000000) (hn:dlen 10 n≤10000000) (hn0:0<n) :
    Calls Tryz.prog 109 #[v,u] w fun e w'=>∃ q r,e=.returned (.tuple #[q,r])∧OwnDec w' w.heap.size q (m / n)∧OwnDec w' w.heap.size r (m % n)∧Below w.heap.size w w':=by
  obtain ⟨a,cap,rfl⟩:=hv.shape
  obtain ⟨a',cap',rfl⟩:=hu.shape
  have hcell0:=hv
  obtain ⟨ax,capx,hvx,hcapx,hcellx⟩:=hcell0
  simp only [Value.slice.injEq,true_and] at hvx
  obtain ⟨rfl,rfl⟩:=hvx
  have HC:=hid hcellx
  have HN0:=hid hn0
  clear hcellx hn0 hcapx
  go_enter Tryz.func109,Tryz.ntmps109
  go_wp2_with (at_make;refine mk_i64 _ rfl _ _ rfl w.heap.size (dlen 10 m) _ _ rfl rfl (by simp) (by simp) (by omega) (Nat.le_refl _) ?_;intro w1 hown hb hz hb1)
  go_loopg [7,8] (dlen 10 m) (fun g lv iv wr=>∃ j:Nat,g=j∧iv=.int .i64 ((j:Int)-1)∧j≤dlen 10 m∧OwnDec wr (w.heap.size+1) lv (m / 10 ^ j % n)∧Own .i64 3 wr w.heap.size (.slice (some ⟨w.heap.size,0,none⟩) (dlen 10 m) (dlen 10 m)) (dlen 10 m) (fQ m n j)∧Below w.heap.size w wr)
  case atStart=>
    refine ⟨dlen 10 m,rfl,rfl,Nat.le_refl _,?_,hown.congr (fun t ht=>by unfold fQ;rw [if_pos ht]),hb⟩
    rw [(dlen_div 10 m _ (by decide)).2 (Nat.le_refl _),Nat.zero_mod]
    exact Own.nil
  case round=>
    obtain ⟨j,hg,rfl,hj,hl,hq,hbr⟩:=hrel
    obtain rfl:=hg.symm
    obtain ⟨la,lc,rfl⟩:=hl.dec.shape
    clear hown hb hz hb1
    obtain ⟨wo,rfl⟩:∃ wo:World,wo=wr:=⟨_,rfl⟩
    have hdl:dlen 10 (m / 10 ^ j % n)≤dlen 10 n:=dlen_mono _ _ (Nat.le_of_lt (Nat.mod_lt _ HN0.out))
    by_cases h0:j=0
    · subst h0
      have hqq:Own .i64 3 wo w.heap.size (.slice (some ⟨w.heap.size,0,none⟩) (dlen 10 m) (dlen 10 m)) (dlen 10 m) (dgt 10 (m / n)):=hq.congr (fun t _=>by unfold fQ;rw [if_neg (by omega)])
      have hlt:m / n<10 ^ dlen 10 m:=Nat.lt_of_le_of_lt (Nat.div_le_self _ _) (dlen_lt 10 m (by decide))
      have HT:=hid (trimmedD_own hqq (by omega) hlt)
      have HE:=hid (show m / 10 ^ 0 % n=m % n by simp)
      have hl':=hl
      rw [HE.out] at hl'
      clear hlt hqq hdl
      go_wp2_with fail
      (with_reducible refine HT.out.mono ?_);rintro e w2 ⟨⟨q,rfl,hqo⟩,rfl⟩
      obtain ⟨qa,qc,rfl⟩:=hqo.dec.shape
      go_wp2
      go_ret2
      exact ⟨_,_,rfl,hqo,Own.mono (by rw [← HE.out];exact hl) (Nat.le_succ _),hbr⟩
    · obtain ⟨i,rfl⟩:∃ i,j=i+1:=⟨j-1,by omega⟩
      have hi:((i+1:Nat):Int)-1=(i:Int):=by omega
      rw [hi]
      clear hi h0
      have hszr:=hbr.size
      obtain ⟨b,off,rfl,hbl,hc⟩:=HC.out (by omega)
      have hci:=(hbr.cell (p:=⟨b,off+i,none⟩) hbl).trans (hc i (by omega))
      have hst:=divStep m n i HN0.out
      have hd10:=dgt_lt 10 m i (by decide)
      have hL:=Nat.mod_lt (m / 10 ^ (i+1)) HN0.out
      have HS:=hid hst
      have hdlm:dlen 10 (m / 10 ^ (i+1) % n)≤10000000:=by omega
      have hconslt:=cons_lt (m / 10 ^ (i+1) % n) (dgt 10 m i) (dlen 10 (m / 10 ^ (i+1) % n)) (dlen_lt 10 _ (by decide)) hd10
      have HCL:=hid hconslt
      clear hst hc hconslt
      have hR2:=Nat.mod_lt (m / 10 ^ i) HN0.out
      have hFQ:=fun s=>hid (show (if s=i then dgt 10 (m / n) i else fQ m n (i+1) s)=fQ m n i s by
        unfold fQ
        by_cases h1:s=i
        · subst h1;rw [if_pos rfl,if_neg (by omega)]
        · rw [if_neg h1]
          by_cases h2:s<i
          · rw [if_pos h2,if_pos (by omega)]
          · rw [if_neg h2,if_neg (by omega)])
      have hqlt:=hq.lt
      generalize m / 10 ^ (i+1) % n=R at *
      generalize dgt 10 m i=d at *
      generalize dgt 10 (m / n) i=c at *
      have hR2':=hid hR2
      clear hR2
      have hc10:10*R+d<10*n:=by omega
      have hdb:dlen 10 (10*R+d)≤10000001:=by
        have:=(dlen_le_iff 10 (10*R+d) _ (by decide)).2 HCL.out
        omega
      go_wp2_with (at_builtin;refine app_cat rfl _ _ rfl (w.heap.size+1) d R _ rfl hd10 rfl la lc rfl hl.dec hl.nilcap (by omega) (by omega) ?_;intro v1 w2 hown2 hb2)
      have HT:=hid (trimmedD_own hown2 (by omega) HCL.out)
      (with_reducible refine HT.out.mono ?_);rintro e w3 ⟨⟨l1,rfl,hl1⟩,rfl⟩
      have hq1:=hq.keepAt hb2 (Nat.lt_succ_self _)
      have hbr1:=hbr.trans (hb2.mono (Nat.le_succ _))
      have hq2:Own .i64 3 w3 w.heap.size (.slice (some ⟨w.heap.size,0,none⟩) (dlen 10 m) (dlen 10 m)) (dlen 10 m) (fun s=>if s=i then 0 else fQ m n (i+1) s):=hq1.congr (fun s _=>by
        by_cases h1:s=i
        · subst h1;rw [if_pos rfl];unfold fQ;rw [if_pos (by omega)]
        · rw [if_neg h1])
      clear HT hown2 hl hq hq1 hbr hci hqlt
      go_wp2_with fail
      go_loopg [7] (10*R+d) (fun g lv wr=>∃ L t:Nat,g=L∧10*R+d=n*t+L∧OwnDec wr (w.heap.size+1) lv L∧Own .i64 3 wr w.heap.size (.slice (some ⟨w.heap.size,0,none⟩) (dlen 10 m) (dlen 10 m)) (dlen 10 m) (fun s=>if s=i then t else fQ m n (i+1) s)∧Below w.heap.size w wr)
      case atStart=>exact ⟨10*R+d,0,rfl,by omega,hl1,hq2,hbr1⟩
      case round=>
        obtain ⟨L,t,hg,hsum,hL1,hq3,hbr3⟩:=hrel
        obtain rfl:=hg.symm
        have HSUM:=hid hsum
        obtain ⟨a4,c4,rfl⟩:=hL1.dec.shape
        have ht10:t<10:=by
          have:n*t<n*10:=by omega
          exact Nat.lt_of_mul_lt_mul_left this
        have hdL:dlen 10 L≤10000001:=Nat.le_trans (dlen_mono _ _ (by omega)) hdb
        have hO:=hid (order_fn hL1.dec (hu.below hbr3) (by omega) (by omega))
        have hcell:=hq3.cell i (by omega)
        have hfree:=hq3.free i
        rw [if_pos rfl] at hcell
        have hszr:=hbr3.size
        clear hsum hl1 hq2 hbr1 hb2
        by_cases hle:n≤L
        · have hcm : ∃ C : Int, 0 ≤ C ∧ cmpN L n = C := by
            unfold cmpN
            rw [if_neg (by omega)]
            split
            · exact ⟨1,by decide,rfl⟩
            · exact ⟨0,by decide,rfl⟩
          obtain ⟨C,hC0,hC⟩:=hcm
          rw [hC] at hO
          have hO:=hid hO.out
          have hM:=hid (minusD_fn hL1.dec (hu.below hbr3) (by omega) (by omega) hle)
          have HLE:=hid hle
          clear hC hle
          go_wp2_with fail
          (with_reducible refine hO.out.mono ?_);rintro e w4 ⟨rfl,rfl⟩
          go_wp2_with fail
          (with_reducible refine hM.out.mono ?_);rintro e w5 ⟨l5,rfl,hl5,hb5⟩
          have hq5:=Own.keep hq3 hb5 (Nat.le_refl _)
          have hcell:=hq5.cell i (by omega)
          have hfree:=hq5.free i
          rw [if_pos rfl] at hcell
          have hq6:=hq5.store i (t+1)
          have hbr5:=(hbr3.trans (hb5.mono hszr)).setCell (p:=⟨w.heap.size,i,none⟩) (Nat.le_refl _) (.int .i64 ((t+1:Nat):Int))
          have hl6:OwnDec (w5.setCell ⟨w.heap.size,i,none⟩ (.int .i64 ((t+1:Nat):Int))) (w.heap.size+1) l5 (L-n):=Own.mono (base:=w4.heap.size) (ownsRow_setCell_below hl5 (a:=⟨w.heap.size,i,none⟩) (by have:=hq3.lt;exact this) _) (by have:=hq3.lt;omega)
          go_wp2
          go_roundg (L-n)
          case measure=>have:=HLE.out;have:=HN0.out;omega
          case rel=>
            refine ⟨L-n,t+1,rfl,?_,hl6,hq6.congr (fun s _=>?_),hbr5⟩
            · have h1:=HSUM.out
              have h2:=HLE.out
              rw [Nat.mul_succ];omega
            · by_cases h1:s=i
              · rw [if_pos h1,if_pos h1]
              · rw [if_neg h1,if_neg h1,if_neg h1]
        · have hC:cmpN L n = -1:=by unfold cmpN;rw [if_pos (by omega)]
          rw [hC] at hO
          have hO:=hid hO.out
          have huniq:L=m / 10 ^ i % n∧t=c:=by
            have h1:=HSUM.out
            have h2:=HS.out
            have h3:=hR2'.out
            have h4:(n*t+L) / n=(n*c+m / 10 ^ i % n) / n:=by rw [← h1,← h2]
            rw [Nat.mul_add_div HN0.out,Nat.mul_add_div HN0.out,Nat.div_eq_of_lt (by omega),Nat.div_eq_of_lt h3] at h4
            have h5:t=c:=by omega
            subst h5
            exact ⟨by omega,rfl⟩
          have HU:=hid huniq
          clear huniq hC hle
          go_wp2_with fail
          (with_reducible refine hO.out.mono ?_);rintro e w4 ⟨rfl,rfl⟩
          go_wp2
          go_roundg i
          case measure=>omega
          case rel=>
            obtain ⟨h1,h2⟩:=HU.out
            refine ⟨i,rfl,rfl,by omega,by rw [← h1];exact hL1,hq3.congr (fun s _=>?_),hbr3⟩
            rw [h2]
            exact (hFQ s).out
end Go.Proofs.YtihdndaibmgoiaaGreatDoor
namespace Go.Proofs.YtihdndaibmgoiaaGreatDoor
open Go.RowKit
theorem mul_sign (a b:Int):((decide (a<0) != decide (b<0)) && decide (0<(a*b).natAbs))=decide (a*b<0):=by
 by_cases h0:a*b<0
 ·have e2:decide (0<(a*b).natAbs)=true:=decide_eq_true (by omega)
  rw [decide_eq_true h0,e2]
  by_cases ha:a<0
  ·by_cases hb:b<0
   ·have:=Int.mul_pos_of_neg_of_neg ha hb
    omega
   ·rw [decide_eq_true ha,decide_eq_false hb];rfl
  ·by_cases hb:b<0
   ·rw [decide_eq_false ha,decide_eq_true hb];rfl
   ·have h1:0≤a:=by omega
    have h2:0≤b:=by omega
    have:=Int.mul_nonneg h1 h2
    omega
 ·rw [decide_eq_false h0]
  by_cases hz:a*b=0
  ·rw [hz];simp
  ·have hp:0<a*b:=by omega
   have:(a<0)↔(b<0):=by
    constructor
    ·intro ha
     apply Decidable.byContradiction
     intro hb
     have:=Int.mul_nonpos_of_nonpos_of_nonneg (show a≤0 by omega) (show 0≤b by omega)
     omega
    ·intro hb
     apply Decidable.byContradiction
     intro ha
     have:=Int.mul_nonpos_of_nonneg_of_nonpos (show 0≤a by omega) (show b≤0 by omega)
     omega
   by_cases ha:a<0
   ·rw [decide_eq_true ha,decide_eq_true (this.1 ha)];rfl
   ·have hb:¬ b<0:=fun h=>ha (this.2 h)
    rw [decide_eq_false ha,decide_eq_false hb];rfl
theorem dlen_mul_le (m n:Nat):dlen 10 (m*n)≤dlen 10 m+dlen 10 n:=by
 rw [dlen_le_iff 10 _ _ (by decide),Nat.pow_add]
 exact Nat.mul_lt_mul'' (dlen_lt 10 m (by decide)) (dlen_lt 10 n (by decide))
set_option maxRecDepth 100000 in
set_option maxHeartbeats 4000000 in
theorem timesR {a1 a2:Option Addr} {c1 c2 m n:Nat} {w:World} (hs:DecRep w (.slice a1 (dlen 10 m) c1) m) (ht:DecRep w (.slice a2 (dlen 10 n) c2) n) (hm:dlen 10 m≤10000000) (hn:dlen 10 n≤10000000) (g1 g2:Bool) :
  Calls Tryz.prog 62 #[.agg #[.bool g1,.slice a1 (dlen 10 m) c1],.agg #[.bool g2,.slice a2 (dlen 10 n) c2]] w (FreshN (m*n) (!(g1 == g2)) w):=by
 have k1:=Blk.new w #[.bool g1,.slice a1 (dlen 10 m) c1] 59
 have k2:=Blk.new (w.alloc (.cells #[.bool g1,.slice a1 (dlen 10 m) c1] 59)) #[.bool g2,.slice a2 (dlen 10 n) c2] 59
 have k3:=Blk.new ((w.alloc (.cells #[.bool g1,.slice a1 (dlen 10 m) c1] 59)).alloc (.cells #[.bool g2,.slice a2 (dlen 10 n) c2] 59)) #[.bool false,.slice none 0 0] 59
 simp only [World.size_alloc] at k2 k3
 have k1:=(k1.alloc (.cells #[.bool g2,.slice a2 (dlen 10 n) c2] 59)).alloc (.cells #[.bool false,.slice none 0 0] 59)
 have k2:=k2.alloc (.cells #[.bool false,.slice none 0 0] 59)
 have hb0:Below w.heap.size w (((w.alloc (.cells #[.bool g1,.slice a1 (dlen 10 m) c1] 59)).alloc (.cells #[.bool g2,.slice a2 (dlen 10 n) c2] 59)).alloc (.cells #[.bool false,.slice none 0 0] 59)):=(((Below.refl _ _).alloc (Nat.le_refl _) _).alloc (by simp) _).alloc (by simp;omega) _
 have hdr:dlen 10 (m*n)≤20000000:=by have:=dlen_mul_le m n;omega
 go_enter Tryz.func62,Tryz.ntmps62
 go_wp2_with fail
 generalize ((w.alloc (.cells #[.bool g1,.slice a1 (dlen 10 m) c1] 59)).alloc (.cells #[.bool g2,.slice a2 (dlen 10 n) c2] 59)).alloc (.cells #[.bool false,.slice none 0 0] 59)=w0 at *
 have kA:=k1.drew
 have kB:=k2.drew
 have k3:=k3.drew
 have hb:=hb0.drew
 have hc1:=hid (timesD_fn (hs.below hb) (ht.below hb) hm hn)
 refine U_begin (late:=fun i=>decide (11≤i)) (S:=fun u=>Blk u w.heap.size #[.bool g1,.slice a1 (dlen 10 m) c1] 59∧Blk u (w.heap.size+1) #[.bool g2,.slice a2 (dlen 10 n) c2] 59) (by kernel_rfl) ?_
 generalize w0.drew=wd at *
 clear hb0 k1 k2
 refine U_take (i:=0) (v:=.pointer (some ⟨w.heap.size,0,none⟩)) rfl (by kernel_rfl) (by kernel_rfl) (by kernel_rfl) (by kernel_rfl) (by kernel_rfl) (fun _ _ _ h=>h) (.inl ⟨rfl,fun u hu=>(by go_simp)⟩) ⟨kA,kB⟩ ?_
 refine U_take (i:=1) (v:=.bool g1) rfl (by kernel_rfl) (by kernel_rfl) (by kernel_rfl) (by kernel_rfl) (by kernel_rfl) (fun _ _ _ h=>h) (.inl ⟨rfl,fun u hu=>(by obtain ⟨⟨h1,h2⟩,_⟩:=hu.1.two;go_simp)⟩) ⟨kA,kB⟩ ?_
 refine U_take (i:=2) (v:=.pointer (some ⟨w.heap.size+1,0,none⟩)) rfl (by kernel_rfl) (by kernel_rfl) (by kernel_rfl) (by kernel_rfl) (by kernel_rfl) (fun _ _ _ h=>h) (.inl ⟨rfl,fun u hu=>(by go_simp)⟩) ⟨kA,kB⟩ ?_
 refine U_take (i:=3) (v:=.bool g2) rfl (by kernel_rfl) (by kernel_rfl) (by kernel_rfl) (by kernel_rfl) (by kernel_rfl) (fun _ _ _ h=>h) (.inl ⟨rfl,fun u hu=>(by obtain ⟨⟨h1,h2⟩,_⟩:=hu.2.two;go_simp)⟩) ⟨kA,kB⟩ ?_
 refine U_take (i:=4) (v:=.bool (!(g1 == g2))) rfl (by kernel_rfl) (by kernel_rfl) (by kernel_rfl) (by kernel_rfl) (by kernel_rfl) (fun _ _ _ h=>h) (.inl ⟨rfl,fun u hu=>(by go_simp)⟩) ⟨kA,kB⟩ ?_
 generalize hGG:(!(g1 == g2))=G at *
 clear hGG
 refine U_take (i:=5) (v:=.pointer (some ⟨w.heap.size,1,none⟩)) rfl (by kernel_rfl) (by kernel_rfl) (by kernel_rfl) (by kernel_rfl) (by kernel_rfl) (fun _ _ _ h=>h) (.inl ⟨rfl,fun u hu=>(by go_simp)⟩) ⟨kA,kB⟩ ?_
 refine U_take (i:=6) (v:=.slice a1 (dlen 10 m) c1) rfl (by kernel_rfl) (by kernel_rfl) (by kernel_rfl) (by kernel_rfl) (by kernel_rfl) (fun _ _ _ h=>h) (.inl ⟨rfl,fun u hu=>(by obtain ⟨⟨h1,h2⟩,_⟩:=hu.1.two;go_simp)⟩) ⟨kA,kB⟩ ?_
 refine U_take (i:=7) (v:=.pointer (some ⟨w.heap.size+1,1,none⟩)) rfl (by kernel_rfl) (by kernel_rfl) (by kernel_rfl) (by kernel_rfl) (by kernel_rfl) (fun _ _ _ h=>h) (.inl ⟨rfl,fun u hu=>(by go_simp)⟩) ⟨kA,kB⟩ ?_
 refine U_take (i:=8) (v:=.slice a2 (dlen 10 n) c2) rfl (by kernel_rfl) (by kernel_rfl) (by kernel_rfl) (by kernel_rfl) (by kernel_rfl) (fun _ _ _ h=>h) (.inl ⟨rfl,fun u hu=>(by obtain ⟨⟨h1,h2⟩,_⟩:=hu.2.two;go_simp)⟩) ⟨kA,kB⟩ ?_
 refine U_step (j:=9) (by kernel_rfl) rfl (fun K hK=>?_)
 go_simp
 (with_reducible refine hc1.out.mono ?_);rintro e w1 ⟨r,rfl,hr,gg⟩
 obtain ⟨ra,rc,rfl⟩:=hr.dec.shape
 have hb:=hb.trans (gg.mono hb.size)
 have kA:=kA.later gg
 have kB:=kB.later gg
 have hlt3:=k3.lt
 have k3:=k3.later gg
 have hc2:=hid (num_fn hr.dec (by omega) G)
 generalize hG2:(G && decide (0<m*n))=G2 at *
 have HG2:=hid hG2
 clear hG2
 refine hK.out _ _ (.inr ⟨kA,kB⟩) ?_
 clear hK K gg
 refine U_step (j:=10) (by kernel_rfl) rfl (fun K hK=>?_)
 go_simp
 (with_reducible refine hc2.out.mono ?_);rintro e w2 ⟨rfl,gg⟩
 have hr:=Own.keep hr gg (Nat.le_refl _)
 have hb:=hb.trans (gg.mono hb.size)
 have kA:=kA.later gg
 have kB:=kB.later gg
 have k3:=k3.later gg
 refine hK.out _ _ (.inr ⟨kA,kB⟩) ?_
 clear hK K gg
 obtain ⟨⟨r1,r2⟩,⟨s1,s2⟩⟩:=k3.two
 refine U_step (j:=11) (by kernel_rfl) rfl (fun K hK=>?_)
 go_simp
 refine hK.out _ _ (.inl rfl) ?_
 clear hK K
 refine U_done (by kernel_rfl) ?_ _
 go_wp2
 have hF:=own_set2 hr (b:=w.heap.size+1+1) (.bool G2) (.slice ra (dlen 10 (m*n)) rc) hlt3
 have hbF:=(hb.setCell (p:=⟨w.heap.size+1+1,0,none⟩) (by simp;omega) (.bool G2)).setCell (p:=⟨w.heap.size+1+1,1,none⟩) (by simp;omega) (.slice ra (dlen 10 (m*n)) rc)
 exact bodyPost_ret (v:=.agg #[.bool G2,.slice ra (dlen 10 (m*n)) rc]) (by simp [results,Tryz.results62,go_sem,r1,r2]) rfl ⟨_,by rw [HG2.out],hF.mono (by omega),hbF⟩
theorem timesR_fn {v u:Value} {a b:Int} {w:World} (hv:DNum w v a) (hu:DNum w u b) (hla:dlen 10 a.natAbs≤10000000) (hlb:dlen 10 b.natAbs≤10000000):Calls Tryz.prog 62 #[v,u] w (FreshD (a*b) w):=by
 obtain ⟨a1,c1,rfl,hs⟩:=hv.shape
 obtain ⟨a2,c2,rfl,ht⟩:=hu.shape
 refine (timesR hs ht hla hlb _ _).mono fun e w' h=>h.dnum (Int.natAbs_mul a b).symm ?_
 rw [← Int.natAbs_mul]
 exact mul_sign a b
theorem whole_sign (n:Int):(decide (n<0) && decide (0<n.natAbs))=decide (n<0):=by
 by_cases h:n<0
 ·rw [decide_eq_true h,decide_eq_true (show 0<n.natAbs by omega)];rfl
 ·rw [decide_eq_false h];rfl
set_option maxRecDepth 100000 in
set_option maxHeartbeats 2000000 in
theorem whole_fn (n:Int) (h1:-9223372036854775807≤n) (h2:n≤9223372036854775807) (w:World):Calls Tryz.prog 110 #[.int .i64 n] w (FreshD n w):=by
 have k3:=Blk.new w #[.bool false,.slice none 0 0] 59
 have hb0:Below w.heap.size w (w.alloc (.cells #[.bool false,.slice none 0 0] 59)):=(Below.refl _ _).alloc (Nat.le_refl _) _
 have hc1:=hid (natOf_fn n.natAbs (by omega) (w.alloc (.cells #[.bool false,.slice none 0 0] 59)))
 have hmx:max n (-n)=((n.natAbs:Nat):Int):=by omega
 have HMX:=hid hmx
 have HSG:=hid (whole_sign n)
 have hdl:=dlen_small n.natAbs (by omega)
 clear hmx
 go_enter Tryz.func110,Tryz.ntmps110
 go_wp2_with fail
 rw [HMX.out]
 generalize w.alloc (.cells #[.bool false,.slice none 0 0] 59)=w0 at *
 (with_reducible refine hc1.out.mono ?_);rintro e w1 ⟨r,rfl,hr,gg⟩
 obtain ⟨ra,rc,rfl⟩:=hr.dec.shape
 have hb:=hb0.trans (gg.mono hb0.size)
 have hlt3:=k3.lt
 have k3:=k3.later gg
 have hc2:=hid (num_fn hr.dec (by omega) (decide (n<0)))
 rw [HSG.out] at hc2
 generalize hG:decide (n<0)=G at *
 generalize hN:n.natAbs=N at *
 have HG:=hid hG
 have HN:=hid hN
 clear gg hG hN
 go_wp2_with fail
 (with_reducible refine hc2.out.mono ?_);rintro e w2 ⟨rfl,gg⟩
 have hr:=Own.keep hr gg (Nat.le_refl _)
 have hb:=hb.trans (gg.mono hb.size)
 have k3:=k3.later gg
 obtain ⟨⟨r1,r2⟩,⟨s1,s2⟩⟩:=k3.two
 go_wp2
 have hF:=own_set2 hr (b:=w.heap.size) (.bool G) (.slice ra (dlen 10 N) rc) hlt3
 have hbF:=(hb.setCell (p:=⟨w.heap.size,0,none⟩) (Nat.le_refl _) (.bool G)).setCell (p:=⟨w.heap.size,1,none⟩) (Nat.le_refl _) (.slice ra (dlen 10 N) rc)
 exact bodyPost_ret (v:=.agg #[.bool G,.slice ra (dlen 10 N) rc]) (by simp [results,Tryz.results110,go_sem,r1,r2]) rfl ⟨_,rfl,⟨_,by rw [HG.out],by rw [HN.out];exact hF.mono hb0.size⟩,hbF⟩
end Go.Proofs.YtihdndaibmgoiaaGreatDoor
namespace Go.Proofs.YtihdndaibmgoiaaGreatDoor
open Go.RowKit
def NatA (w:World) (B:Nat) (v:Value) (n:Nat):Prop:=
 ∃ (a:Option Addr) (cap:Nat),v=.slice a (nlen n) cap∧nlen n≤cap∧(0<nlen n→∃ b off,a=some ⟨b,off,none⟩∧b<w.heap.size∧b≠B∧∀ i,i<nlen n→w.cell? ⟨b,off+i,none⟩=some (.int .u32 ((D n i:Nat):Int)))
theorem NatA.rep {w:World} {B n:Nat} {v:Value} (h:NatA w B v n):NatRep w v n:=by
 obtain ⟨a,cap,rfl,hc,h⟩:=h
 exact ⟨a,cap,rfl,hc,fun h0=>by
  obtain ⟨b,off,h1,h2,_,h3⟩:=h h0
  exact ⟨b,off,h1,h2,h3⟩⟩
theorem NatA.below {w w':World} {B n:Nat} {v:Value} (h:NatA w B v n) (hb:Below w.heap.size w w'):NatA w' B v n:=by
 obtain ⟨a,cap,rfl,hc,h⟩:=h
 refine ⟨a,cap,rfl,hc,fun h0=>?_⟩
 obtain ⟨b,off,h1,h2,h3,h4⟩:=h h0
 exact ⟨b,off,h1,Nat.lt_of_lt_of_le h2 hb.size,h3,fun i hi=>(hb.cell (p:=⟨b,off+i,none⟩) h2).trans (h4 i hi)⟩
theorem NatA.set3 {w:World} {B n:Nat} {v:Value} (h:NatA w B v n) (x y z:Value):NatRep (((w.setCell ⟨B,0,none⟩ x).setCell ⟨B,1,none⟩ y).setCell ⟨B,2,none⟩ z) v n:=by
 obtain ⟨a,cap,rfl,hc,h⟩:=h
 refine ⟨a,cap,rfl,hc,fun h0=>?_⟩
 obtain ⟨b,off,h1,h2,h3,h4⟩:=h h0
 exact ⟨b,off,h1,by simpa using h2,fun i hi=>(cell_set3 (off+i) x y z h3).trans (h4 i hi)⟩
end Go.Proofs.YtihdndaibmgoiaaGreatDoor
namespace Go.Proofs.YtihdndaibmgoiaaGreatDoor
open Go.RowKit
theorem neg_two {a b:List UInt8} {pe z:Int} (h:¬ (pOK a=true∧pOK b=true)):twoRes a b pe z=([],2):=by unfold twoRes;rw [if_neg h]
end Go.Proofs.YtihdndaibmgoiaaGreatDoor
