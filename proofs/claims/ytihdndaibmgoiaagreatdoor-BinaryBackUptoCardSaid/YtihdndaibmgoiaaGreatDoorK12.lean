/-
  Part K12 of the proofs of this seat, merged by a program out of 15 texts; remarks are struck.
-/
import Derived.BigQuiet
import Derived.RegionTactic
import Derived.BigRegion
import Derived.Test.YtihdndaibmgoiaaGreatDoorK2
namespace Go.Proofs.YtihdndaibmgoiaaGreatDoor
open Go.RowKit
def RefP (ok:Bool) (z:Int) (w:World) (e:Ending) (w':World):Prop:=
 ∃ v,e=.returned (.tuple #[v,.bool ok])∧Below w.heap.size w w'∧(ok=true→OwnDNum w' w.heap.size v z)∧(∃ g s n c,v=.agg #[.bool g,.slice s n c])
theorem Blk.two {w:World} {b:Nat} {x y:Value} {t:TypeId} (h:Blk w b #[x,y] t):(w.cell? ⟨b,0,none⟩=some x∧w.cell? ⟨b,1,none⟩=some y)∧(w.frozen? ⟨b,0,none⟩=false∧w.frozen? ⟨b,1,none⟩=false):=
 ⟨⟨h.cell 0,h.cell 1⟩,h.free 0,h.free 1⟩
theorem own_set2 {ik:IntKind} {e:TypeId} {w:World} {base b n:Nat} {v:Value} {f:Nat→Nat} (h:Own ik e w base v n f) (x y:Value) (hb:b<base):Own ik e ((w.setCell ⟨b,0,none⟩ x).setCell ⟨b,1,none⟩ y) base v n f:=
 ownsRow_setCell_below (ownsRow_setCell_below h (a:=⟨b,0,none⟩) hb x) (a:=⟨b,1,none⟩) hb y
set_option maxRecDepth 100000 in
set_option maxHeartbeats 4000000 in
theorem dec_fn (l:List UInt8) (hl:l.length≤1000000000) (b:Bool) (w:World) :
  Calls Tryz.prog 111 #[.bool b,.string ⟨l.toArray⟩] w (RefP (rOK 10 l) (sgnInt b (numOf 10 l)) w):=by
 have hsz:(⟨l.toArray⟩:ByteArray).size=l.length:=Lib.size_mk _
 have k0:=Blk.new w #[.bool false,.slice none 0 0] 59
 have hb0:Below w.heap.size w (w.alloc (.cells #[.bool false,.slice none 0 0] 59)):=(Below.refl _ _).alloc (Nat.le_refl _) _
 have hsz0:(w.alloc (.cells #[.bool false,.slice none 0 0] 59)).heap.size=w.heap.size+1:=by simp
 go_enter Tryz.func111,Tryz.ntmps111
 go_wp2
 generalize w.alloc (.cells #[.bool false,.slice none 0 0] 59)=W at *
 go_loopw [6,7] (fun sv iv wr=>∃ k:Nat,iv=.int .i64 ((l.length:Int)-1-k)∧k≤l.length∧Own .i64 3 wr (w.heap.size+1) sv k (fdig l)∧(∀ j,j<k→fdig l j<10)∧Below w.heap.size w wr∧Blk wr w.heap.size #[.bool false,.slice none 0 0] 59) (fun _ iv _=>(intOf iv+1).toNat)
 case atStart=>exact ⟨0,by simp,Nat.zero_le _,Own.nil,fun j h=>absurd h (Nat.not_lt_zero _),hb0,k0⟩
 case round=>
  obtain ⟨k,hiv,hk,hown,hall,hbr,kr⟩:=hrel
  clear k0 hb0 hsz0
  have hA:=hid hall
  clear hall
  obtain ⟨a,cap,rfl⟩:=hown.shape
  have hszr:=hbr.size
  have hltr:=kr.lt
  by_cases hlt:k<l.length
  ·obtain ⟨i,hi⟩:∃ i,i+k+1=l.length:=⟨l.length-1-k,by omega⟩
   have e:(l.length:Int)-1-k=(i:Int):=by omega
   rw [e] at hiv
   subst hiv
   have hil:i<l.length:=by omega
   have hx:∀ h,(⟨l.toArray⟩:ByteArray)[i]'h=l[i]'hil:=fun h=>rfl
   have hfd:fdig l k=valOf (l[i]'hil):=by
    unfold fdig
    have e1:l.length-1-k=i:=by omega
    rw [e1,List.getD_eq_getElem?_getD,List.getElem?_eq_getElem hil]
    rfl
   have hc:=fun w=>hid (digitR_fn (l[i]'hil) 10 (by decide) (by decide) w)
   by_cases hv:valOf (l[i]'hil)<10
   ·have hd:digR (l[i]'hil) 10=(valOf (l[i]'hil):Int):=by unfold digR;rw [if_pos hv]
    rw [hd] at hc
    have hc':∀ w,Hid (Calls Tryz.prog 12 #[.int .u8 (l[i]'hil).toNat,.int .i64 10] w fun e w'=>e=.returned (.int .i64 (valOf (l[i]'hil)))∧w'=w):=hc
    have HF:=hid hfd
    clear hd hc e hfd
    go_wp2_with fail
    (with_reducible refine (hc' _).out.mono ?_);rintro e w' ⟨rfl,rfl⟩
    go_wp2_with fail
    (with_reducible refine (hc' _).out.mono ?_);rintro e w' ⟨rfl,rfl⟩
    go_wp2_with (at_builtin;refine app_i64 rfl _ _ rfl (w.heap.size+1) _ k _ rfl hown _ rfl ?_ (by omega) (by omega) ?_;rotate_left;intro v' w2 hown2 hb2)
    ·go_roundw
     case rel=>
      refine ⟨k+1,?_,by omega,hown2,?_,hbr.trans (hb2.mono (by omega)),kr.below hb2 (by omega)⟩
      ·congr 1;omega
      ·intro j hj
       rcases Nat.lt_or_ge j k with h1 | h1
       ·exact hA.out j h1
       ·obtain rfl:j=k:=by omega
        rw [HF.out];exact hv
     case measure=>simp [intOf]<;>omega
    ·rw [HF.out]
   ·have hd:digR (l[i]'hil) 10 = -1:=by unfold digR;rw [if_neg hv]
    rw [hd] at hc
    have hc':∀ w,Hid (Calls Tryz.prog 12 #[.int .u8 (l[i]'hil).toNat,.int .i64 10] w fun e w'=>e=.returned (.int .i64 (-1))∧w'=w):=hc
    have HB:=hid (rOK_bad 10 l i hil hv)
    obtain ⟨⟨p1,p2⟩,q1,q2⟩:=kr.two
    clear hd hc e hfd hv
    go_wp2_with fail
    (with_reducible refine (hc' _).out.mono ?_);rintro e w' ⟨rfl,rfl⟩
    go_wp2
    refine bodyPost_ret (v:=.tuple #[.agg #[.bool false,.slice none 0 0],.bool false]) (by simp [results,Tryz.results111,go_sem,p1,p2]) rfl ⟨_,by rw [HB.out],?_,fun h=>absurd h (by rw [HB.out];decide),⟨_,_,_,_,rfl⟩⟩
    exact (hbr.setCell (p:=⟨w.heap.size,0,none⟩) (Nat.le_refl _) _).setCell (p:=⟨w.heap.size,1,none⟩) (Nat.le_refl _) _
  ·obtain rfl:k=l.length:=by omega
   have e:(l.length:Int)-1-l.length = -1:=by omega
   rw [e] at hiv
   subst hiv
   have hallc:∀ c∈l,valOf c<10:=by
    intro c hc
    obtain ⟨i,hi,rfl⟩:=List.getElem_of_mem hc
    have h1:=hA.out (l.length-1-i) (by omega)
    unfold fdig at h1
    have e1:l.length-1-(l.length-1-i)=i:=by omega
    rw [e1,List.getD_eq_getElem?_getD,List.getElem?_eq_getElem hi] at h1
    exact h1
   have hrok:rOK 10 l=!l.isEmpty:=by
    unfold rOK
    rw [List.all_eq_true.2 (fun c hc=>decide_eq_true (hallc c hc)),Bool.and_true]
   have HROK:=hid hrok
   have hN:=numOf_lt 10 (by decide) l hallc
   have hown':=hown.congr (g:=dgt 10 (numOf 10 l)) (fun j hj=>(dgt_numOf 10 (by decide) l hallc j hj).symm)
   have hdl:=(dlen_le_iff 10 _ _ (by decide)).2 hN
   have hcut:=hown'.cut hdl
   have hct:=hid (trimmedD_row hown'.row (by omega) hN)
   have HV:=hid (show sgnInt b (numOf 10 l)=sgnInt b (numOf 10 l) from rfl)
   clear hallc hrok hN e hown hlt
   generalize hNN:numOf 10 l=N at *
   clear hNN
   have hrep:DecRep wr (.slice a (dlen 10 N) cap) N:=Own.row hcut
   have hcn:=hid (num_fn hrep (by omega) b)
   obtain ⟨⟨p1,p2⟩,q1,q2⟩:=kr.two
   go_wp2_with fail
   (with_reducible refine hct.out.mono ?_);rintro e w' ⟨rfl,rfl⟩
   go_wp2_with fail
   (with_reducible refine hcn.out.mono ?_);rintro e w1 ⟨rfl,hb1⟩
   obtain ⟨⟨r1,r2⟩,s1,s2⟩:=(kr.later hb1).two
   have hkF:=own_set2 (hcut.keep hb1 (Nat.le_refl _)) (.bool (b && decide (0<N))) (.slice a (dlen 10 N) cap) (b:=w.heap.size) (by omega)
   have hbF:=((hbr.trans (hb1.mono hbr.size)).setCell (p:=⟨w.heap.size,0,none⟩) (Nat.le_refl _) (.bool (b && decide (0<N)))).setCell (p:=⟨w.heap.size,1,none⟩) (Nat.le_refl _) (.slice a (dlen 10 N) cap)
   go_wp2
   refine bodyPost_ret (v:=.tuple #[.agg #[.bool (b && decide (0<N)),.slice a (dlen 10 N) cap],.bool (!l.isEmpty)]) (by simp [results,Tryz.results111,go_sem,r1,r2]) rfl ⟨_,by rw [HROK.out],hbF,fun _=>⟨_,by rw [sgnInt_neg],?_⟩,⟨_,_,_,_,rfl⟩⟩
   unfold OwnDec
   rw [sgnInt_abs]
   exact hkF.mono (by omega)
end Go.Proofs.YtihdndaibmgoiaaGreatDoor
namespace Go.Proofs.YtihdndaibmgoiaaGreatDoor
open Go.RowKit
theorem dgt_out (n i:Nat) (h:dlen 10 n≤i):dgt 10 n i=0:=by
 unfold dgt
 rw [(dlen_div 10 n i (by decide)).2 h]
theorem dig_in (b off len cap i:Nat) (x:Int) (w:World) (hi:i<len) (_hl:len≤1000000000000) (hc:w.cell? ⟨b,off+i,none⟩=some (.int .i64 x)) :
  Calls Tryz.prog 144 #[.slice (some ⟨b,off,none⟩) len cap,.int .i64 i] w fun e w'=>e=.returned (.int .i64 x)∧w'=w:=by
 go_enter Tryz.func144,Tryz.ntmps144
 go_wp2
 go_ret
 exact ⟨rfl,rfl⟩
theorem dig_out (a:Option Addr) (len cap i:Nat) (w:World) (hi:len≤i) (_hl:i≤1000000000000) :
  Calls Tryz.prog 144 #[.slice a len cap,.int .i64 i] w fun e w'=>e=.returned (.int .i64 0)∧w'=w:=by
 go_enter Tryz.func144,Tryz.ntmps144
 go_wp2
 go_ret
 exact ⟨rfl,rfl⟩
theorem dig_fn {v:Value} {n:Nat} {w:World} (h:DecRep w v n) (hl:dlen 10 n≤1000000000) (i:Nat) (hi:i≤1000000000) :
  Calls Tryz.prog 144 #[v,.int .i64 i] w fun e w'=>e=.returned (.int .i64 (dgt 10 n i))∧w'=w:=by
 obtain ⟨a,cap,rfl,hc,h⟩:=h
 by_cases hlt:i<dlen 10 n
 ·obtain ⟨b,off,rfl,_,hcell⟩:=h (by omega)
  exact dig_in b off _ cap i _ w hlt (by omega) (hcell i hlt)
 ·have:=dig_out a (dlen 10 n) cap i w (by omega) (by omega)
  rw [dgt_out n i (by omega)]
  exact this
def cy10 (m n i:Nat):Nat:=(m % 10 ^ i+n % 10 ^ i) / 10 ^ i
theorem mod10_succ (n i:Nat):n % 10 ^ (i+1)=dgt 10 n i*10 ^ i+n % 10 ^ i:=by
 unfold dgt
 rw [Nat.pow_succ,Nat.mod_mul,Nat.mul_comm (n / 10 ^ i % 10),Nat.add_comm]
theorem cy10_le (m n i:Nat):cy10 m n i≤1:=by
 unfold cy10
 have h1:=Nat.mod_lt m (Nat.pow_pos (n:=i) (show 0<10 by decide))
 have h2:=Nat.mod_lt n (Nat.pow_pos (n:=i) (show 0<10 by decide))
 have h3:(m % 10 ^ i+n % 10 ^ i) / 10 ^ i<2:=by
  rw [Nat.div_lt_iff_lt_mul (Nat.pow_pos (by decide))];omega
 omega
theorem cy10_step (m n i:Nat):(dgt 10 m i+dgt 10 n i+cy10 m n i) % 10=dgt 10 (m+n) i∧(dgt 10 m i+dgt 10 n i+cy10 m n i) / 10=cy10 m n (i+1):=by
 have hp:0<10 ^ i:=Nat.pow_pos (by decide)
 have key:(m % 10 ^ (i+1)+n % 10 ^ (i+1)) / 10 ^ i=dgt 10 m i+dgt 10 n i+cy10 m n i:=by
  rw [mod10_succ,mod10_succ]
  unfold cy10
  have e:dgt 10 m i*10 ^ i+m % 10 ^ i+(dgt 10 n i*10 ^ i+n % 10 ^ i)=(m % 10 ^ i+n % 10 ^ i)+10 ^ i*(dgt 10 m i+dgt 10 n i):=by
   rw [Nat.mul_add,Nat.mul_comm (10 ^ i),Nat.mul_comm (10 ^ i)];omega
  rw [e,Nat.add_mul_div_left _ _ hp]
  omega
 constructor
 ·rw [← key]
  unfold dgt
  have h1:=Nat.div_add_mod m (10 ^ (i+1))
  have h2:=Nat.div_add_mod n (10 ^ (i+1))
  have e:m+n=(m % 10 ^ (i+1)+n % 10 ^ (i+1))+10 ^ i*(10*(m / 10 ^ (i+1)+n / 10 ^ (i+1))):=by
   have ps:10 ^ i*10=10 ^ (i+1):=(Nat.pow_succ 10 i).symm
   rw [← Nat.mul_assoc,ps,Nat.mul_add]
   omega
  conv=>rhs;rw [e,Nat.add_mul_div_left _ _ hp,Nat.add_mul_mod_self_left]
 ·rw [← key]
  unfold cy10
  rw [Nat.div_div_eq_div_mul,← Nat.pow_succ]
theorem cy10_top (m n i:Nat) (hm:dlen 10 m≤i) (hn:dlen 10 n≤i) (h:cy10 m n i=0):dlen 10 (m+n)≤i:=by
 rw [dlen_le_iff 10 _ _ (by decide)] at hm hn ⊢
 unfold cy10 at h
 rw [Nat.mod_eq_of_lt hm,Nat.mod_eq_of_lt hn] at h
 exact (Nat.div_eq_zero_iff_lt (Nat.pow_pos (by decide))).1 h
theorem cy10_grow (m n i:Nat) (h:i<dlen 10 m∨i<dlen 10 n∨0<cy10 m n i):i<dlen 10 (m+n):=by
 rw [lt_dlen_iff 10 _ _ (by decide)] at *
 rw [lt_dlen_iff 10 n _ (by decide)] at h
 rcases h with h | h | h
 ·omega
 ·omega
 ·unfold cy10 at h
  have h1:10 ^ i≤m % 10 ^ i+n % 10 ^ i:=by
   rcases Nat.lt_or_ge (m % 10 ^ i+n % 10 ^ i) (10 ^ i) with h2 | h2
   ·rw [Nat.div_eq_of_lt h2] at h;omega
   ·exact h2
  have h3:=Nat.mod_le m (10 ^ i)
  have h4:=Nat.mod_le n (10 ^ i)
  omega
def FreshDec (n:Nat) (w:World) (e:Ending) (w':World):Prop:=∃ v,e=.returned v∧OwnDec w' w.heap.size v n∧Below w.heap.size w w'
set_option maxRecDepth 100000 in
set_option maxHeartbeats 4000000 in
theorem plusD_fn {v u:Value} {m n:Nat} {w:World} (hv:DecRep w v m) (hu:DecRep w u n) (hm:dlen 10 m≤100000000) (hn:dlen 10 n≤100000000) :
  Calls Tryz.prog 113 #[v,u] w (FreshDec (m+n) w):=by
 obtain ⟨a1,c1,rfl⟩:=hv.shape
 obtain ⟨a2,c2,rfl⟩:=hu.shape
 go_enter Tryz.func113,Tryz.ntmps113
 go_wp2
 go_loopw [5,6,7] (fun sv cv iv wr=>∃ i:Nat,iv=.int .i64 i∧i≤100000001∧i≤dlen 10 (m+n)∧Own .i64 3 wr w.heap.size sv i (dgt 10 (m+n))∧cv=.int .i64 (cy10 m n i)∧Below w.heap.size w wr) (fun _ _ iv _=>100000001-(intOf iv).toNat)
 case atStart=>exact ⟨0,rfl,by decide,Nat.zero_le _,Own.nil,by simp [cy10],Below.refl _ _⟩
 case round=>
  obtain ⟨i,rfl,hi,hid1,hown,rfl,hbr⟩:=hrel
  obtain ⟨a3,c3,rfl⟩:=hown.shape
  have hcy:=cy10_le m n i
  have hszr:=hbr.size
  have hdm:=dgt_lt 10 m i (by decide)
  have hdn:=dgt_lt 10 n i (by decide)
  have hlim:i<dlen 10 m∨i<dlen 10 n∨0<cy10 m n i→i≤100000000:=by
   intro h
   rcases h with h | h | h
   ·omega
   ·omega
   ·rcases Nat.lt_or_ge i 100000001 with h2 | h2
    ·omega
    ·exfalso
     have h3:dlen 10 m<i:=by omega
     have h4:dlen 10 n<i:=by omega
     obtain ⟨j,rfl⟩:∃ j,i=j+1:=⟨i-1,by omega⟩
     have h5:=(cy10_step m n j).2
     have h6:=cy10_le m n j
     rw [dgt_out m j (by omega),dgt_out n j (by omega)] at h5
     omega
  by_cases h1:i<dlen 10 m
  ·have hlim2:=hlim (.inl h1)
   clear hlim
   have hg:=cy10_grow m n i (.inl h1)
   have hc1:=hid (dig_fn (hv.below hbr) (by omega) i (by omega))
   have hc2:=hid (dig_fn (hu.below hbr) (by omega) i (by omega))
   obtain ⟨hs1,hs2⟩:=cy10_step m n i
   have HS1:=hid hs1
   have HS2:=hid hs2
   clear hs1 hs2
   generalize dgt 10 m i=x at *
   generalize dgt 10 n i=y at *
   generalize cy10 m n i=z at *
   go_wp2_with fail
   (with_reducible refine hc1.out.mono ?_);rintro e w' ⟨rfl,rfl⟩
   go_wp2_with fail
   (with_reducible refine hc2.out.mono ?_);rintro e w' ⟨rfl,rfl⟩
   go_wp2_with (at_builtin;refine app_i64 rfl _ _ rfl w.heap.size _ i _ rfl hown _ rfl ?_ (by omega) (by omega) ?_;rotate_left;intro v' w2 hown2 hb2)
   ·go_roundw
    case rel=>exact ⟨i+1,by go_num,by omega,by omega,hown2,by rw [← HS2.out];rfl,hbr.trans (hb2.mono (Nat.le_refl _))⟩
    case measure=>simp [intOf]<;>omega
   ·rw [← HS1.out];omega
  ·by_cases h2:i<dlen 10 n
   ·have hlim2:=hlim (.inr (.inl h2))
    clear hlim
    have hg:=cy10_grow m n i (.inr (.inl h2))
    have hc1:=hid (dig_fn (hv.below hbr) (by omega) i (by omega))
    have hc2:=hid (dig_fn (hu.below hbr) (by omega) i (by omega))
    obtain ⟨hs1,hs2⟩:=cy10_step m n i
    have HS1:=hid hs1
    have HS2:=hid hs2
    clear hs1 hs2
    generalize dgt 10 m i=x at *
    generalize dgt 10 n i=y at *
    generalize cy10 m n i=z at *
    go_wp2_with fail
    (with_reducible refine hc1.out.mono ?_);rintro e w' ⟨rfl,rfl⟩
    go_wp2_with fail
    (with_reducible refine hc2.out.mono ?_);rintro e w' ⟨rfl,rfl⟩
    go_wp2_with (at_builtin;refine app_i64 rfl _ _ rfl w.heap.size _ i _ rfl hown _ rfl ?_ (by omega) (by omega) ?_;rotate_left;intro v' w2 hown2 hb2)
    ·go_roundw
     case rel=>exact ⟨i+1,by go_num,by omega,by omega,hown2,by rw [← HS2.out];rfl,hbr.trans (hb2.mono (Nat.le_refl _))⟩
     case measure=>simp [intOf]<;>omega
    ·rw [← HS1.out];omega
   ·by_cases h3:0<cy10 m n i
    ·have hlim2:=hlim (.inr (.inr h3))
     clear hlim
     have hg:=cy10_grow m n i (.inr (.inr h3))
     have hc1:=hid (dig_fn (hv.below hbr) (by omega) i (by omega))
     have hc2:=hid (dig_fn (hu.below hbr) (by omega) i (by omega))
     obtain ⟨hs1,hs2⟩:=cy10_step m n i
     have HS1:=hid hs1
     have HS2:=hid hs2
     clear hs1 hs2
     generalize dgt 10 m i=x at *
     generalize dgt 10 n i=y at *
     generalize cy10 m n i=z at *
     go_wp2_with fail
     (with_reducible refine hc1.out.mono ?_);rintro e w' ⟨rfl,rfl⟩
     go_wp2_with fail
     (with_reducible refine hc2.out.mono ?_);rintro e w' ⟨rfl,rfl⟩
     go_wp2_with (at_builtin;refine app_i64 rfl _ _ rfl w.heap.size _ i _ rfl hown _ rfl ?_ (by omega) (by omega) ?_;rotate_left;intro v' w2 hown2 hb2)
     ·go_roundw
      case rel=>exact ⟨i+1,by go_num,by omega,by omega,hown2,by rw [← HS2.out];rfl,hbr.trans (hb2.mono (Nat.le_refl _))⟩
      case measure=>simp [intOf]<;>omega
     ·rw [← HS1.out];omega
    ·have hz:cy10 m n i=0:=by omega
     have htop:=cy10_top m n i (by omega) (by omega) hz
     have hL:=hid (show dlen 10 (m+n)=i by omega)
     clear hlim htop hid1
     rw [hz]
     clear h3 hcy hz
     go_wp2
     go_ret
     exact ⟨_,rfl,by unfold OwnDec;rw [hL.out];exact hown,hbr⟩
end Go.Proofs.YtihdndaibmgoiaaGreatDoor
namespace Go.Proofs.YtihdndaibmgoiaaGreatDoor
open Go.RowKit
theorem dlen_small (n:Nat) (h:n≤9223372036854775807):dlen 10 n≤19:=(dlen_le_iff 10 n 19 (by decide)).2 (by omega)
set_option maxRecDepth 100000 in
set_option maxHeartbeats 4000000 in
theorem natOf_fn (n:Nat) (hn:n≤9223372036854775807) (w:World) :
  Calls Tryz.prog 146 #[.int .i64 n] w (FreshDec n w):=by
 have hdl:=dlen_small n hn
 go_enter Tryz.func146,Tryz.ntmps146
 go_wp2
 go_loopw [0,3] (fun nv sv wr=>∃ k:Nat,nv=.int .i64 ((n / 10 ^ k:Nat):Int)∧k≤dlen 10 n∧Own .i64 3 wr w.heap.size sv k (dgt 10 n)∧Below w.heap.size w wr) (fun _ sv _=>dlen 10 n-lenOf sv)
 case atStart=>exact ⟨0,by simp,Nat.zero_le _,Own.nil,Below.refl _ _⟩
 case round=>
  obtain ⟨k,rfl,hk,hown,hbr⟩:=hrel
  obtain ⟨a3,c3,rfl⟩:=hown.shape
  have hszr:=hbr.size
  have hle:n / 10 ^ k≤n:=Nat.div_le_self _ _
  have hz:=dlen_div 10 n k (by decide)
  have HD:=hid (show dgt 10 n k=n / 10 ^ k % 10 from rfl)
  have HS:=hid (show n / 10 ^ (k+1)=n / 10 ^ k / 10 by rw [Nat.pow_succ,Nat.div_div_eq_div_mul])
  generalize n / 10 ^ k=x at *
  by_cases h0:0<x
  ·have hlt:k<dlen 10 n:=by omega
   go_wp2_with (at_builtin;refine app_i64 rfl _ _ rfl w.heap.size _ k _ rfl hown _ rfl ?_ (by omega) (by omega) ?_;rotate_left;intro v' w2 hown2 hb2)
   ·go_roundw
    case rel=>exact ⟨k+1,by rw [HS.out];rfl,by omega,hown2,hbr.trans (hb2.mono (Nat.le_refl _))⟩
    case measure=>
     have e2:=hown2.lenOf
     have e1:=hown.lenOf
     omega
   ·rw [HD.out];omega
  ·have hx:x=0:=by omega
   have hL:=hid (show dlen 10 n=k by omega)
   subst hx
   clear hz hle
   go_wp2
   go_ret
   exact ⟨_,rfl,by unfold OwnDec;rw [hL.out];exact hown,hbr⟩
end Go.Proofs.YtihdndaibmgoiaaGreatDoor
namespace Go.Proofs.YtihdndaibmgoiaaGreatDoor
theorem pow10_pos (i:Nat):0<10 ^ i:=Nat.pow_pos (by decide)
theorem mod_split10 (n i:Nat):n % 10 ^ (i+1)=n % 10 ^ i+10 ^ i*dgt 10 n i:=by
 rw [mod10_succ,Nat.mul_comm,Nat.add_comm]
theorem dgt_congr (x y t:Nat) (h:x % 10 ^ (t+1)=y % 10 ^ (t+1)):dgt 10 x t=dgt 10 y t:=by
 have e:∀ z,dgt 10 z t=z % 10 ^ (t+1) / 10 ^ t:=by
  intro z
  rw [mod_split10,Nat.add_mul_div_left _ _ (pow10_pos t),Nat.div_eq_of_lt (Nat.mod_lt _ (pow10_pos t)),Nat.zero_add]
 rw [e,e,h]
def sX (m n i:Nat):Nat:=m % 10 ^ i*n
def tX (m n i k:Nat):Nat:=sX m n i % 10 ^ (i+k)+dgt 10 m i*(10 ^ i*(n % 10 ^ k))
def cX (m n i k:Nat):Nat:=tX m n i k / 10 ^ (i+k)
def uX (m n i k:Nat):Nat:=dgt 10 (sX m n i) (i+k)+dgt 10 m i*dgt 10 n k+cX m n i k
theorem tX_zero (m n i:Nat):tX m n i 0=sX m n i % 10 ^ i:=by simp [tX,Nat.mod_one]
theorem cX_zero (m n i:Nat):cX m n i 0=0:=by
 unfold cX;rw [tX_zero,Nat.add_zero];exact Nat.div_eq_of_lt (Nat.mod_lt _ (pow10_pos i))
theorem tX_succ (m n i k:Nat):tX m n i (k+1)=tX m n i k+10 ^ (i+k)*(dgt 10 (sX m n i) (i+k)+dgt 10 m i*dgt 10 n k):=by
 unfold tX
 rw [show i+(k+1)=(i+k)+1 by omega,mod_split10 (sX m n i) (i+k),mod_split10 n k]
 have e:dgt 10 m i*(10 ^ i*(n % 10 ^ k+10 ^ k*dgt 10 n k))=dgt 10 m i*(10 ^ i*(n % 10 ^ k))+10 ^ (i+k)*(dgt 10 m i*dgt 10 n k):=by
  rw [Nat.pow_add,Nat.mul_add (10 ^ i),Nat.mul_add (dgt 10 m i)]
  congr 1
  ac_rfl
 rw [e,Nat.mul_add (10 ^ (i+k))]
 omega
theorem uX_eq (m n i k:Nat):uX m n i k=tX m n i (k+1) / 10 ^ (i+k):=by
 rw [tX_succ,Nat.add_mul_div_left _ _ (pow10_pos _)]
 unfold uX cX
 omega
theorem uX_div (m n i k:Nat):uX m n i k / 10=cX m n i (k+1):=by
 rw [uX_eq,Nat.div_div_eq_div_mul]
 unfold cX
 rw [show i+(k+1)=(i+k)+1 by omega,Nat.pow_succ]
theorem uX_mod (m n i k:Nat):uX m n i k % 10=dgt 10 (tX m n i (k+1)) (i+k):=by
 rw [uX_eq];rfl
theorem tX_low (m n i k t:Nat) (h:t<i+k):dgt 10 (tX m n i k) t=dgt 10 (tX m n i (k+1)) t:=by
 apply dgt_congr
 rw [tX_succ]
 have e:10 ^ (i+k)=10 ^ (t+1)*10 ^ (i+k-(t+1)):=by rw [← Nat.pow_add];congr 1;omega
 rw [e,Nat.mul_assoc,Nat.add_mul_mod_self_left]
theorem cX_lt (m n i k:Nat):cX m n i k<10:=by
 induction k with
 | zero=>rw [cX_zero];decide
 | succ k ih=>
  rw [← uX_div]
  unfold uX
  have h1:=dgt_lt 10 (sX m n i) (i+k) (by decide)
  have h2:=dgt_lt 10 m i (by decide)
  have h3:=dgt_lt 10 n k (by decide)
  have h4:dgt 10 m i*dgt 10 n k≤9*9:=Nat.mul_le_mul (by omega) (by omega)
  omega
theorem sX_lt (m n i:Nat):sX m n i<10 ^ (i+dlen 10 n):=by
 unfold sX
 rw [Nat.pow_add]
 exact Nat.mul_lt_mul'' (Nat.mod_lt _ (pow10_pos i)) (dlen_lt 10 n (by decide))
theorem sX_succ (m n i:Nat):sX m n (i+1)=sX m n i+dgt 10 m i*(10 ^ i*n):=by
 unfold sX
 rw [mod_split10 m i,Nat.add_mul,Nat.mul_assoc,Nat.mul_left_comm]
theorem sX_zero (m n:Nat):sX m n 0=0:=by simp [sX,Nat.mod_one]
theorem sX_all (m n:Nat):sX m n (dlen 10 m)=m*n:=by
 unfold sX;rw [Nat.mod_eq_of_lt (dlen_lt 10 m (by decide))]
theorem tX_end (m n i k:Nat) (hk:dlen 10 n≤k):tX m n i k=sX m n (i+1):=by
 have h1:=(dlen_le_iff 10 n k (by decide)).1 hk
 have h2:sX m n i<10 ^ (i+k):=Nat.lt_of_lt_of_le (sX_lt m n i) (Nat.pow_le_pow_right (by decide) (by omega))
 unfold tX
 rw [Nat.mod_eq_of_lt h1,Nat.mod_eq_of_lt h2,sX_succ]
theorem cX_in (m n i k:Nat) (hk:dlen 10 n≤k) (h:0<cX m n i k):i+k<i+1+dlen 10 n:=by
 unfold cX at h
 rw [tX_end m n i k hk] at h
 have h1:=sX_lt m n (i+1)
 rcases Nat.lt_or_ge (i+k) (i+1+dlen 10 n) with h2 | h2
 ·exact h2
 ·rw [Nat.div_eq_of_lt (Nat.lt_of_lt_of_le h1 (Nat.pow_le_pow_right (by decide) h2))] at h
  omega
theorem dgt_high (x k t:Nat) (h:x<10 ^ k) (ht:k≤t):dgt 10 x t=0:=dgt_out x t (Nat.le_trans ((dlen_le_iff 10 x k (by decide)).2 h) ht)
theorem tX_rest (m n i k t:Nat) (hk:dlen 10 n≤k) (h:cX m n i k=0) (ht:i+k≤t):dgt 10 (sX m n i) t=dgt 10 (sX m n (i+1)) t:=by
 have h1:sX m n (i+1)<10 ^ (i+k):=by
  unfold cX at h
  rw [tX_end m n i k hk] at h
  exact (Nat.div_eq_zero_iff_lt (pow10_pos _)).1 h
 rw [dgt_high _ _ _ h1 ht,dgt_high _ _ _ (Nat.lt_of_lt_of_le (sX_lt m n i) (Nat.pow_le_pow_right (by decide) (show i+dlen 10 n≤i+k by omega))) ht]
theorem tX_start (m n i t:Nat) (h:t<i):dgt 10 (tX m n i 0) t=dgt 10 (sX m n i) t:=by
 rw [tX_zero]
 apply dgt_congr
 have e:10 ^ i=10 ^ (t+1)*10 ^ (i-(t+1)):=by rw [← Nat.pow_add];congr 1;omega
 rw [e,Nat.mod_mul_right_mod]
theorem mulX_lt (m n:Nat):m*n<10 ^ (dlen 10 m+dlen 10 n):=by rw [← sX_all];exact sX_lt m n _
end Go.Proofs.YtihdndaibmgoiaaGreatDoor
namespace Go.Proofs.YtihdndaibmgoiaaGreatDoor
open Go.RowKit
theorem wrap_i64_nat (x:Nat) (h:x<9223372036854775808):IntKind.i64.wrap (x:Int)=x:=by
 simp [IntKind.wrap,IntKind.bits,IntKind.signed]
 omega
section
variable {ops:Array Oper} {rest:List Oper} {o:Oper} {a:Act} {Q:Exit→Act→World→Prop}
theorem mk_i64 (w:World) (hgd:o.guard=none) (l c:Operand) (ho:o.op=Op.makeSlice 57 l c) (base n:Nat) (L C:Int) (hl:a.eval l=.int .i64 L) (hc:a.eval c=.int .i64 C) (hL:L=(n:Int)) (hC:C=(n:Int)) (hn:n≤1000000000000) (hbase:base≤w.heap.size)
  (h:∀ w',Own .i64 3 w' base (.slice (some ⟨w.heap.size,0,none⟩) n n) n (fun _=>0)→Below base w w'→w'.heap.size=w.heap.size+1→Below w.heap.size w w'→wpList Tryz.prog ops Q rest (a.put o.dst (.slice (some ⟨w.heap.size,0,none⟩) n n)) w') :
  wpList Tryz.prog ops Q (o::rest) a w:=by
 obtain ⟨i0,hi,hz0,hz1,hz2⟩:=info_parts Tryz.infoInt
 subst hL
 subst hC
 have hm:=run_make (P:=Tryz.prog) w 57 3 i0 (.int .i64 0) Tryz.underlying57 hi hz0 .i64 .i64 n n (by omega) (by omega) (by rw [hz2];omega) (by omega)
 refine wpList_plain hgd fun K hK'=>?_
 unfold Oper.wp
 simp only [Int.toNat_natCast] at hm
 simp [execOp,ho,hl,hc,hm,Result.andThen]
 refine hK' _ _ (h _ ?_ ?_ ?_ ?_)
 ·have:=World.ownsRow_lit (e:=3) (size:=1) w (madeCells (Value.int IntKind.i64 0).cells (n*1)) n hbase (by unfold maxLen;omega) (size_madeCells _ _)
  unfold Own
  rw [← cellsK_make]
  rw [hz1]
  exact this
 ·exact (Below.refl base w).alloc hbase _
 ·simp
 ·exact (Below.refl _ w).alloc (Nat.le_refl _) _
end
set_option maxRecDepth 100000 in
set_option maxHeartbeats 4000000 in
theorem timesD_fn {v u:Value} {m n:Nat} {w:World} (hv:DecRep w v m) (hu:DecRep w u n) (hm:dlen 10 m≤10000000) (hn:dlen 10 n≤10000000) :
  Calls Tryz.prog 108 #[v,u] w (FreshDec (m*n) w):=by
 obtain ⟨a,cap,rfl⟩:=hv.shape
 obtain ⟨a',cap',rfl⟩:=hu.shape
 go_enter Tryz.func108,Tryz.ntmps108
 go_wp2_with (at_make;refine mk_i64 _ rfl _ _ rfl w.heap.size (dlen 10 m+dlen 10 n) _ _ rfl rfl (by simp) (by simp) (by omega) (Nat.le_refl _) ?_;intro w1 hown hb hz hb1)
 go_loopw [18] (fun i wr=>∃ j:Nat,i=.int .i64 j∧j≤dlen 10 m∧Own .i64 3 wr w.heap.size (.slice (some ⟨w.heap.size,0,none⟩) (dlen 10 m+dlen 10 n) (dlen 10 m+dlen 10 n)) (dlen 10 m+dlen 10 n) (dgt 10 (sX m n j))∧Below w.heap.size w wr)
  (fun i _=>dlen 10 m-(intOf i).toNat)
 case atStart=>exact ⟨0,rfl,Nat.zero_le _,hown.congr (fun t _=>by rw [sX_zero];simp [dgt]),hb⟩
 case round=>
  obtain ⟨i,rfl,hi,hown1,hbr⟩:=hrel
  by_cases hlt:i<dlen 10 m
  ·obtain ⟨a1,cap1,hv1,_,hcell⟩:=hv.below hbr
   simp only [Value.slice.injEq,true_and] at hv1
   obtain ⟨rfl,rfl⟩:=hv1
   obtain ⟨b,off,rfl,_,hc0⟩:=hcell (by omega)
   have hcj:=hc0 i hlt
   have hd:=dgt_lt 10 m i (by decide)
   clear hown hb hz hb1
   obtain ⟨wo,rfl⟩:∃ wo:World,wo=wr:=⟨_,rfl⟩
   go_wp2
   go_loopw [7,8] (fun carry kv wr=>∃ k:Nat,kv=.int .i64 k∧i+k≤dlen 10 m+dlen 10 n∧carry=.int .i64 (cX m n i k)∧Own .i64 3 wr w.heap.size (.slice (some ⟨w.heap.size,0,none⟩) (dlen 10 m+dlen 10 n) (dlen 10 m+dlen 10 n)) (dlen 10 m+dlen 10 n) (fun t=>if t<i+k then dgt 10 (tX m n i k) t else dgt 10 (sX m n i) t)∧Below w.heap.size w wr)
    (fun _ k _=>dlen 10 m+dlen 10 n+1-(intOf k).toNat)
   case atStart=>
    refine ⟨0,rfl,by omega,by rw [cX_zero];rfl,hown1.congr (fun t _=>?_),hbr⟩
    by_cases e:t<i
    ·rw [if_pos (by omega),tX_start m n i t e]
    ·rw [if_neg (by omega)]
   case round=>
    obtain ⟨k,rfl,hk,rfl,hown2,hbr2⟩:=hrel
    have hsz2:=hbr2.size
    by_cases hlt2:k<dlen 10 n
    ·skip
     have hoc:=hown2.cell (i+k) (by omega)
     rw [if_neg (by omega)] at hoc
     have hof:=hown2.free (i+k)
     have hdn:=dgt_lt 10 n k (by decide)
     have hds:=dgt_lt 10 (sX m n i) (i+k) (by decide)
     have hcx:=cX_lt m n i k
     have hpp:dgt 10 m i*dgt 10 n k≤9*9:=Nat.mul_le_mul (by omega) (by omega)
     have hpc:((dgt 10 m i:Nat):Int)*((dgt 10 n k:Nat):Int)=((dgt 10 m i*dgt 10 n k:Nat):Int):=by rw [Int.natCast_mul]
     have HU1:=hid (uX_mod m n i k)
     have HU2:=hid (uX_div m n i k)
     have HU:=hid (show uX m n i k=dgt 10 (sX m n i) (i+k)+dgt 10 m i*dgt 10 n k+cX m n i k from rfl)
     have hcd:=hid (fun (q:Nat)=>dig_fn (hu.below (hbr2.trans (below_drewN (Below.refl w.heap.size wr) q))) (by omega) k (by omega))
     have hwik:IntKind.i64.wrap ((i:Int)+(k:Int))=((i+k:Nat):Int):=by rw [← Int.natCast_add];exact wrap_i64_nat _ (by omega)
     have hw2:IntKind.i64.wrap (((dgt 10 m i:Nat):Int)*((dgt 10 n k:Nat):Int))=((dgt 10 m i*dgt 10 n k:Nat):Int):=by rw [hpc];exact wrap_i64_nat _ (by omega)
     have hw3:IntKind.i64.wrap (((dgt 10 (sX m n i) (i+k):Nat):Int)+((dgt 10 m i*dgt 10 n k:Nat):Int))=((dgt 10 (sX m n i) (i+k)+dgt 10 m i*dgt 10 n k:Nat):Int):=by rw [← Int.natCast_add];exact wrap_i64_nat _ (by omega)
     have hw4:IntKind.i64.wrap (((dgt 10 (sX m n i) (i+k)+dgt 10 m i*dgt 10 n k:Nat):Int)+((cX m n i k:Nat):Int))=((uX m n i k:Nat):Int):=by rw [← Int.natCast_add,HU.out];exact wrap_i64_nat _ (by omega)
     have hul:uX m n i k<1000:=by rw [HU.out];omega
     have hix1:0≤(i:Int)+(k:Int):=by omega
     have hix2:(i:Int)+(k:Int)<(dlen 10 m:Int)+(dlen 10 n:Int):=by omega
     have hix3:((i:Int)+(k:Int)).toNat=i+k:=by omega
     have hix4:(0≤(i:Int)+(k:Int)∧(i:Int)+(k:Int)<(dlen 10 m:Int)+(dlen 10 n:Int))=True:=by simp [hix1,hix2]
     have hik:i+k<dlen 10 m+dlen 10 n:=by omega
     clear hcell hc0 hcj hpc
     obtain ⟨a2,cap2,hv2,_,hcell2⟩:=hv.below hbr2
     simp only [Value.slice.injEq,true_and] at hv2
     obtain ⟨rfl,rfl⟩:=hv2
     obtain ⟨b2,off2,hbo,_,hc2⟩:=hcell2 (by omega)
     simp only [Option.some.injEq,Addr.mk.injEq,and_true] at hbo
     obtain ⟨rfl,rfl⟩:=hbo
     have hcj:=hc2 i hlt
     clear hc2 hcell2
     go_wp2_with fail
     go_quiet ((go_at_call 144;exact Calls.quiet_of_same (hcd.out _)))
     have hX:((uX m n i k:Nat):Int)=((dgt 10 (sX m n i) (i+k):Nat):Int)+((dgt 10 m i:Nat):Int)*((dgt 10 n k:Nat):Int)+((cX m n i k:Nat):Int):=by rw [HU.out];simp
     have HX:=hid hX
     clear hX
     go_wp2
     go_roundw
     case rel=>
      refine ⟨k+1,by go_num,by omega,?_,?_,(below_drewN hbr2 nq).setCell (Nat.le_refl _) _⟩
      ·rw [← HU2.out,← HX.out];rfl
      ·rw [← HX.out,show ((uX m n i k:Nat):Int) % 10=((uX m n i k % 10:Nat):Int) by omega,HU1.out]
       have hown3:Own .i64 3 (wr.drewN nq) w.heap.size (.slice (some ⟨w.heap.size,0,none⟩) (dlen 10 m+dlen 10 n) (dlen 10 m+dlen 10 n)) (dlen 10 m+dlen 10 n) (fun t=>if t<i+k then dgt 10 (tX m n i k) t else dgt 10 (sX m n i) t):=hown2
       refine (hown3.store (i+k) _).congr ?_
       intro t ht
       show (if t=i+k then _ else if t<i+k then _ else _)=_
       by_cases e:t=i+k
       ·rw [if_pos e,if_pos (by omega),e]
       ·rw [if_neg e]
        by_cases e2:t<i+k
        ·rw [if_pos e2,if_pos (by omega),tX_low m n i k t e2]
        ·rw [if_neg e2,if_neg (by omega)]
     case measure=>simp [intOf]<;>omega
    ·by_cases hc0':0<cX m n i k
     ·have hin:=cX_in m n i k (by omega) hc0'
      have hoc:=hown2.cell (i+k) (by omega)
      rw [if_neg (by omega)] at hoc
      have hof:=hown2.free (i+k)
      have hdn:=dgt_lt 10 n k (by decide)
      have hds:=dgt_lt 10 (sX m n i) (i+k) (by decide)
      have hcx:=cX_lt m n i k
      have hpp:dgt 10 m i*dgt 10 n k≤9*9:=Nat.mul_le_mul (by omega) (by omega)
      have hpc:((dgt 10 m i:Nat):Int)*((dgt 10 n k:Nat):Int)=((dgt 10 m i*dgt 10 n k:Nat):Int):=by rw [Int.natCast_mul]
      have HU1:=hid (uX_mod m n i k)
      have HU2:=hid (uX_div m n i k)
      have HU:=hid (show uX m n i k=dgt 10 (sX m n i) (i+k)+dgt 10 m i*dgt 10 n k+cX m n i k from rfl)
      have hcd:=hid (fun (q:Nat)=>dig_fn (hu.below (hbr2.trans (below_drewN (Below.refl w.heap.size wr) q))) (by omega) k (by omega))
      have hwik:IntKind.i64.wrap ((i:Int)+(k:Int))=((i+k:Nat):Int):=by rw [← Int.natCast_add];exact wrap_i64_nat _ (by omega)
      have hw2:IntKind.i64.wrap (((dgt 10 m i:Nat):Int)*((dgt 10 n k:Nat):Int))=((dgt 10 m i*dgt 10 n k:Nat):Int):=by rw [hpc];exact wrap_i64_nat _ (by omega)
      have hw3:IntKind.i64.wrap (((dgt 10 (sX m n i) (i+k):Nat):Int)+((dgt 10 m i*dgt 10 n k:Nat):Int))=((dgt 10 (sX m n i) (i+k)+dgt 10 m i*dgt 10 n k:Nat):Int):=by rw [← Int.natCast_add];exact wrap_i64_nat _ (by omega)
      have hw4:IntKind.i64.wrap (((dgt 10 (sX m n i) (i+k)+dgt 10 m i*dgt 10 n k:Nat):Int)+((cX m n i k:Nat):Int))=((uX m n i k:Nat):Int):=by rw [← Int.natCast_add,HU.out];exact wrap_i64_nat _ (by omega)
      have hul:uX m n i k<1000:=by rw [HU.out];omega
      have hix1:0≤(i:Int)+(k:Int):=by omega
      have hix2:(i:Int)+(k:Int)<(dlen 10 m:Int)+(dlen 10 n:Int):=by omega
      have hix3:((i:Int)+(k:Int)).toNat=i+k:=by omega
      have hix4:(0≤(i:Int)+(k:Int)∧(i:Int)+(k:Int)<(dlen 10 m:Int)+(dlen 10 n:Int))=True:=by simp [hix1,hix2]
      have hik:i+k<dlen 10 m+dlen 10 n:=by omega
      clear hcell hc0 hcj hpc
      obtain ⟨a2,cap2,hv2,_,hcell2⟩:=hv.below hbr2
      simp only [Value.slice.injEq,true_and] at hv2
      obtain ⟨rfl,rfl⟩:=hv2
      obtain ⟨b2,off2,hbo,_,hc2⟩:=hcell2 (by omega)
      simp only [Option.some.injEq,Addr.mk.injEq,and_true] at hbo
      obtain ⟨rfl,rfl⟩:=hbo
      have hcj:=hc2 i hlt
      clear hc2 hcell2
      go_wp2_with fail
      go_quiet ((go_at_call 144;exact Calls.quiet_of_same (hcd.out _)))
      have hX:((uX m n i k:Nat):Int)=((dgt 10 (sX m n i) (i+k):Nat):Int)+((dgt 10 m i:Nat):Int)*((dgt 10 n k:Nat):Int)+((cX m n i k:Nat):Int):=by rw [HU.out];simp
      have HX:=hid hX
      clear hX
      go_wp2
      go_roundw
      case rel=>
       refine ⟨k+1,by go_num,by omega,?_,?_,(below_drewN hbr2 nq).setCell (Nat.le_refl _) _⟩
       ·rw [← HU2.out,← HX.out];rfl
       ·rw [← HX.out,show ((uX m n i k:Nat):Int) % 10=((uX m n i k % 10:Nat):Int) by omega,HU1.out]
        have hown3:Own .i64 3 (wr.drewN nq) w.heap.size (.slice (some ⟨w.heap.size,0,none⟩) (dlen 10 m+dlen 10 n) (dlen 10 m+dlen 10 n)) (dlen 10 m+dlen 10 n) (fun t=>if t<i+k then dgt 10 (tX m n i k) t else dgt 10 (sX m n i) t):=hown2
        refine (hown3.store (i+k) _).congr ?_
        intro t ht
        show (if t=i+k then _ else if t<i+k then _ else _)=_
        by_cases e:t=i+k
        ·rw [if_pos e,if_pos (by omega),e]
        ·rw [if_neg e]
         by_cases e2:t<i+k
         ·rw [if_pos e2,if_pos (by omega),tX_low m n i k t e2]
         ·rw [if_neg e2,if_neg (by omega)]
      case measure=>simp [intOf]<;>omega
     ·have hz:cX m n i k=0:=by omega
      have hE:=hown2.congr (g:=dgt 10 (sX m n (i+1))) (fun t ht=>by
       show (if t<i+k then _ else _)=_
       by_cases e:t<i+k
       ·rw [if_pos e,tX_end m n i k (by omega)]
       ·rw [if_neg e,tX_rest m n i k t (by omega) hz (by omega)])
      clear hown2
      go_wp2
      go_roundw
      case rel=>exact ⟨i+1,by go_num,by omega,hE,hbr2⟩
      case measure=>simp [intOf]<;>omega
  ·obtain rfl:i=dlen 10 m:=by omega
   rw [sX_all] at hown1
   have hN:=mulX_lt m n
   have hdl:=(dlen_le_iff 10 _ _ (by decide)).2 hN
   have hct:=hid (trimmedD_row hown1.row (by omega) hN)
   go_wp2_with fail
   (with_reducible refine hct.out.mono ?_);rintro e w' ⟨rfl,rfl⟩
   go_wp2
   go_ret
   exact ⟨_,rfl,hown1.cut hdl,hbr⟩
end Go.Proofs.YtihdndaibmgoiaaGreatDoor
namespace Go.Proofs.YtihdndaibmgoiaaGreatDoor
open Go.RowKit
def Near (n N:Nat):Prop:=n=N∨(big600≤n∧big600≤N)
theorem big_1200 (n:Nat) (h:1200<dlen 10 n):big600≤n:=by
 have h1:=digits_600 n
 rcases Nat.lt_or_ge n big600 with h2 | h2
 ·have:=h1.2 h2;omega
 ·exact h2
theorem dlen_mono (m n:Nat) (h:m≤n):dlen 10 m≤dlen 10 n:=(dlen_le_iff 10 m _ (by decide)).2 (Nat.lt_of_le_of_lt h (dlen_lt 10 n (by decide)))
theorem dlen_step (n b c:Nat) (hb:b≤36) (hc:c≤36):dlen 10 (n*b+c)≤dlen 10 n+2:=by
 rw [dlen_le_iff 10 _ _ (by decide)]
 have h1:=dlen_lt 10 n (by decide)
 have h2:=Nat.mul_le_mul_left n hb
 rw [Nat.pow_add]
 generalize 10 ^ dlen 10 n=X at h1 ⊢
 omega
def DigP (b:Nat) (l:List UInt8) (w:World) (e:Ending) (w':World):Prop:=
 ∃ v n,e=.returned (.tuple #[v,.bool (rOK b l)])∧Below w.heap.size w w'∧OwnDec w' w.heap.size v n∧dlen 10 n≤2000∧(rOK b l=true→Near n (numOf b l))
theorem near_step (n N b c:Nat) (hb:2≤b) (h:Near n N):Near (n*b+c) (N*b+c):=by
 rcases h with rfl | ⟨h1,h2⟩
 ·exact .inl rfl
 ·right
  have h3:=Nat.le_mul_of_pos_right n (show 0<b by omega)
  have h4:=Nat.le_mul_of_pos_right N (show 0<b by omega)
  omega
theorem near_keep (n N b c:Nat) (hb:2≤b) (h:Near n N) (hn:big600≤n):Near n (N*b+c):=by
 right
 have h4:=Nat.le_mul_of_pos_right N (show 0<b by omega)
 rcases h with rfl | ⟨h1,h2⟩<;>omega
set_option maxRecDepth 100000 in
set_option maxHeartbeats 4000000 in
theorem digits_fn (l:List UInt8) (hl:l.length≤1000000000) (b:Nat) (hb2:2≤b) (hb36:b≤36) (w:World) :
  Calls Tryz.prog 112 #[.string ⟨l.toArray⟩,.int .i64 b] w (DigP b l w):=by
 have hsz:(⟨l.toArray⟩:ByteArray).size=l.length:=Lib.size_mk _
 go_enter Tryz.func112,Tryz.ntmps112
 go_wp2
 go_loopw [6,7,12] (fun sv zv iv wr=>∃ (i n:Nat) (z:Bool),iv=.int .i64 i∧i≤l.length∧OwnDec wr w.heap.size sv n∧zv=.bool z∧(z=true→n=0∧numOf b (l.take i)=0)∧Near n (numOf b (l.take i))∧dlen 10 n≤1202∧(∀ j (h:j<l.length),j<i→valOf (l[j]'h)<b)∧Below w.heap.size w wr) (fun _ _ iv _=>l.length-(intOf iv).toNat)
 case atStart=>exact ⟨0,0,true,rfl,Nat.zero_le _,Own.nil,rfl,fun _=>⟨rfl,rfl⟩,.inl rfl,by decide,fun j _ h=>absurd h (Nat.not_lt_zero _),Below.refl _ _⟩
 case round=>
  obtain ⟨i,n,z,rfl,hi,hown,rfl,hz,hnear,hdl,hall,hbr⟩:=hrel
  obtain ⟨a,cap,hv⟩:=hown.dec.shape
  subst hv
  have HZ:=hid hz
  have HN:=hid hnear
  have HA:=hid hall
  have hszr:=hbr.size
  clear hz hnear hall
  by_cases hlt:i<l.length
  ·have hx:∀ h,(⟨l.toArray⟩:ByteArray)[i]'h=l[i]'hlt:=fun h=>rfl
   have hc:=hid (digitR_fn (l[i]'hlt) b hb36 hb2 wr)
   have HT:=hid (numOf_take_succ b l i hlt)
   have hv36:=valOf_le (l[i]'hlt)
   by_cases hv:valOf (l[i]'hlt)<b
   ·have hd:digR (l[i]'hlt) b=(valOf (l[i]'hlt):Int):=by unfold digR;rw [if_pos hv]
    rw [hd] at hc
    have hc:=hid hc.out
    have HA2:=hid (show ∀ j (h:j<l.length),j<i+1→valOf (l[j]'h)<b from fun j h hj=>by
     rcases Nat.lt_or_ge j i with h1 | h1
     ·exact HA.out j h h1
     ·obtain rfl:j=i:=by omega
      exact hv)
    clear hd
    generalize valOf (l[i]'hlt)=c at *
    by_cases hskip:z=true∧c=0
    ·obtain ⟨rfl,rfl⟩:=hskip
     go_wp2_with fail
     (with_reducible refine hc.out.mono ?_);rintro e w' ⟨rfl,rfl⟩
     go_wp2
     go_roundw
     case rel=>
      obtain ⟨h1,h2⟩:=HZ.out (by first | rfl | trivial)
      refine ⟨i+1,n,true,by go_num,by omega,hown,rfl,fun _=>⟨h1,by rw [HT.out,h2];simp⟩,?_,hdl,HA2.out,hbr⟩
      rw [HT.out,h2,h1]
      left;simp
     case measure=>simp [intOf]<;>omega
    ·cases z with
     | false=>
      have HB:=hid (big_1200 n)
      by_cases hlong:dlen 10 n≤1200
      ·have hn1:=hid (natOf_fn b (by omega) wr)
       have hdlb:=dlen_step n b c hb36 hv36
       have hdb:dlen 10 b≤19:=dlen_small b (by omega)
       have hdc:dlen 10 c≤19:=dlen_small c (by omega)
       have hdnb:dlen 10 (n*b)≤1300:=by have:=dlen_step n b 0 hb36 (by omega);simp at this;omega
       go_wp2_with fail
       (with_reducible refine hc.out.mono ?_);rintro e w' ⟨rfl,rfl⟩
       go_wp2_with fail
       (with_reducible refine hn1.out.mono ?_);rintro e w1 ⟨v1,rfl,ho1,hb1⟩
       have ht:=hid (timesD_fn (hown.dec.below hb1) ho1.dec (by omega) (by omega))
       obtain ⟨a1,p1,rfl⟩:=ho1.dec.shape
       go_wp2_with fail
       (with_reducible refine ht.out.mono ?_);rintro e w2 ⟨v2,rfl,ho2,hb2'⟩
       have hn2:=hid (natOf_fn c (by omega) w2)
       obtain ⟨a2,p2,rfl⟩:=ho2.dec.shape
       go_wp2_with fail
       (with_reducible refine hn2.out.mono ?_);rintro e w3 ⟨v3,rfl,ho3,hb3⟩
       have hp:=hid (plusD_fn (ho2.dec.below hb3) ho3.dec (by omega) (by omega))
       obtain ⟨a3,p3,rfl⟩:=ho3.dec.shape
       go_wp2_with fail
       (with_reducible refine hp.out.mono ?_);rintro e w4 ⟨v4,rfl,ho4,hb4⟩
       obtain ⟨a4,p4,rfl⟩:=ho4.dec.shape
       have e1:=hb1.size
       have e2:=hb2'.size
       have e3:=hb3.size
       go_wp2
       go_roundw
       case rel=>
        refine ⟨i+1,n*b+c,false,by go_num,by omega,Own.mono ho4 (by omega),rfl,fun h=>(by first | exact absurd h (by decide) | cases h),?_,by omega,HA2.out,hbr.trans ((hb1.mono hszr).trans ((hb2'.mono (by omega)).trans ((hb3.mono (by omega)).trans (hb4.mono (by omega)))))⟩
        rw [HT.out]
        exact near_step n _ b c hb2 HN.out
       case measure=>simp [intOf]<;>omega
      ·go_wp2_with fail
       (with_reducible refine hc.out.mono ?_);rintro e w' ⟨rfl,rfl⟩
       go_wp2
       go_roundw
       case rel=>
        refine ⟨i+1,n,false,by go_num,by omega,hown,rfl,fun h=>(by first | exact absurd h (by decide) | cases h),?_,hdl,HA2.out,hbr⟩
        rw [HT.out]
        exact near_keep n _ b c hb2 HN.out (HB.out (by omega))
       case measure=>simp [intOf]<;>omega
     | true=>
      have hc0:c≠0:=fun h=>hskip ⟨rfl,h⟩
      have hcb:((c:Int) == 0)=false:=by rw [beq_eq_false_iff_ne];omega
      clear hskip
      have HB:=hid (big_1200 n)
      by_cases hlong:dlen 10 n≤1200
      ·have hn1:=hid (natOf_fn b (by omega) wr)
       have hdlb:=dlen_step n b c hb36 hv36
       have hdb:dlen 10 b≤19:=dlen_small b (by omega)
       have hdc:dlen 10 c≤19:=dlen_small c (by omega)
       have hdnb:dlen 10 (n*b)≤1300:=by have:=dlen_step n b 0 hb36 (by omega);simp at this;omega
       go_wp2_with fail
       (with_reducible refine hc.out.mono ?_);rintro e w' ⟨rfl,rfl⟩
       go_wp2_with fail
       (with_reducible refine hn1.out.mono ?_);rintro e w1 ⟨v1,rfl,ho1,hb1⟩
       have ht:=hid (timesD_fn (hown.dec.below hb1) ho1.dec (by omega) (by omega))
       obtain ⟨a1,p1,rfl⟩:=ho1.dec.shape
       go_wp2_with fail
       (with_reducible refine ht.out.mono ?_);rintro e w2 ⟨v2,rfl,ho2,hb2'⟩
       have hn2:=hid (natOf_fn c (by omega) w2)
       obtain ⟨a2,p2,rfl⟩:=ho2.dec.shape
       go_wp2_with fail
       (with_reducible refine hn2.out.mono ?_);rintro e w3 ⟨v3,rfl,ho3,hb3⟩
       have hp:=hid (plusD_fn (ho2.dec.below hb3) ho3.dec (by omega) (by omega))
       obtain ⟨a3,p3,rfl⟩:=ho3.dec.shape
       go_wp2_with fail
       (with_reducible refine hp.out.mono ?_);rintro e w4 ⟨v4,rfl,ho4,hb4⟩
       obtain ⟨a4,p4,rfl⟩:=ho4.dec.shape
       have e1:=hb1.size
       have e2:=hb2'.size
       have e3:=hb3.size
       go_wp2
       go_roundw
       case rel=>
        refine ⟨i+1,n*b+c,false,by go_num,by omega,Own.mono ho4 (by omega),rfl,fun h=>(by first | exact absurd h (by decide) | cases h),?_,by omega,HA2.out,hbr.trans ((hb1.mono hszr).trans ((hb2'.mono (by omega)).trans ((hb3.mono (by omega)).trans (hb4.mono (by omega)))))⟩
        rw [HT.out]
        exact near_step n _ b c hb2 HN.out
       case measure=>simp [intOf]<;>omega
      ·go_wp2_with fail
       (with_reducible refine hc.out.mono ?_);rintro e w' ⟨rfl,rfl⟩
       go_wp2
       go_roundw
       case rel=>
        refine ⟨i+1,n,false,by go_num,by omega,hown,rfl,fun h=>(by first | exact absurd h (by decide) | cases h),?_,hdl,HA2.out,hbr⟩
        rw [HT.out]
        exact near_keep n _ b c hb2 HN.out (HB.out (by omega))
       case measure=>simp [intOf]<;>omega
   ·have hd:digR (l[i]'hlt) b = -1:=by unfold digR;rw [if_neg hv]
    rw [hd] at hc
    have hc:=hid hc.out
    have HB:=hid (rOK_bad b l i hlt hv)
    clear hd hv
    go_wp2_with fail
    (with_reducible refine hc.out.mono ?_);rintro e w' ⟨rfl,rfl⟩
    go_wp2
    refine bodyPost_ret (v:=.tuple #[.slice none 0 0,.bool false]) (by simp [results,Tryz.results112,go_sem]) rfl ⟨_,0,by rw [HB.out],hbr,Own.nil,by decide,fun h=>absurd h (by rw [HB.out];decide)⟩
  ·obtain rfl:i=l.length:=by omega
   have HR:=hid (show rOK b l=!l.isEmpty by
    unfold rOK
    rw [List.all_eq_true.2 (fun c hc=>by
     obtain ⟨j,hj,rfl⟩:=List.getElem_of_mem hc
     exact decide_eq_true (HA.out j hj hj)),Bool.and_true])
   have hnn:=HN.out
   rw [List.take_length] at hnn
   have HNN:=hid hnn
   clear hnn HN HZ
   go_wp2
   refine bodyPost_ret (v:=.tuple #[.slice a (dlen 10 n) cap,.bool (!l.isEmpty)]) (by simp [results,Tryz.results112,go_sem]) rfl ⟨_,n,by rw [HR.out],hbr,hown,by omega,fun _=>HNN.out⟩
end Go.Proofs.YtihdndaibmgoiaaGreatDoor
namespace Go.Proofs.YtihdndaibmgoiaaGreatDoor
open Go.RowKit
def PRef (w:World) (base:Nat) (v:Value) (z:Int):Prop:=∃ z',OwnDNum w base v z'∧dlen 10 z'.natAbs≤2002000∧(z'=z∨(big600≤z'.natAbs∧big600≤z.natAbs∧decide (z'<0)=decide (z<0)))
def NumP (l:List UInt8) (w:World) (e:Ending) (w':World):Prop:=
 ∃ v,e=.returned (.tuple #[v,.bool (pOK l)])∧Below w.heap.size w w'∧(pOK l=true→PRef w' w.heap.size v (pVal l))∧(∃ g s n c,v=.agg #[.bool g,.slice s n c])
def b0 (S:List UInt8):Nat:=(S.headD 0).toNat
set_option maxRecDepth 100000 in
set_option maxHeartbeats 4000000 in
theorem number_fn (l:List UInt8) (hl:l.length≤2000000) (w:World) :
    Calls Tryz.prog 65 #[.string ⟨l.toArray⟩] w (NumP l w):=by
  have k0:=Blk.new w #[.bool false,.slice none 0 0] 59
  have hb0:Below w.heap.size w (w.alloc (.cells #[.bool false,.slice none 0 0] 59)):=(Below.refl _ _).alloc (Nat.le_refl _) _
  have hsz0:(w.alloc (.cells #[.bool false,.slice none 0 0] 59)).heap.size=w.heap.size+1:=by simp
  have hc:=fun w=>hid (strip_fn l (by omega) w)
  have hS:(strip l).length≤2000000:=Nat.le_trans (strip_len l) hl
  go_enter Tryz.func65,Tryz.ntmps65
  go_upto_region 3 with (first | fail|(with_reducible refine (hc _).out.mono ?_);rintro e w' ⟨rfl,rfl⟩)
  generalize w.alloc (.cells #[.bool false,.slice none 0 0] 59)=W at *
  clear hc
  generalize hSS:strip l=S at *
  have hSS:=hid hSS
  go_cut [21] from 10 to 21 (fun v wx=>v=.bool (([45]:List UInt8).isPrefixOf S || ([43]:List UInt8).isPrefixOf S)∧W=wx)
  case first=>
    cases S with
    | nil=>
      go_wp2
      go_meet
      case rel=>exact ⟨rfl,rfl⟩
    | cons x T=>
      have h1:(⟨(x::T).toArray⟩:ByteArray).size=T.length+1:=by rw [Lib.size_mk];simp
      have hx:∀ h,(⟨(x::T).toArray⟩:ByteArray)[0]'h=x:=fun h=>rfl
      have hne:(x::T == ([]:List UInt8))=false:=rfl
      have hT:T.length≤1999999:=by simpa using hS
      have hpre:(([45]:List UInt8).isPrefixOf (x::T) || ([43]:List UInt8).isPrefixOf (x::T))=((45 == x) || (43 == x)):=by simp [List.isPrefixOf]
      have HP:=hid hpre
      clear hS hpre
      by_cases e1:x=45
      · subst e1
        go_wp2
        go_meet
        case rel=>exact ⟨by rw [HP.out];rfl,rfl⟩
      · have n1 : (((x.toNat : Nat) : Int) == 45) = false := by
          rw [beq_eq_false_iff_ne]
          intro h
          exact e1 (UInt8.toNat_inj.1 (show x.toNat=45 by omega))
        have m1:((45:UInt8) == x)=false:=by rw [beq_eq_false_iff_ne];exact fun h=>e1 h.symm
        by_cases e2:x=43
        · subst e2
          go_wp2
          go_meet
          case rel=>exact ⟨by rw [HP.out];rfl,rfl⟩
        · have n2 : (((x.toNat : Nat) : Int) == 43) = false := by
            rw [beq_eq_false_iff_ne]
            intro h
            exact e2 (UInt8.toNat_inj.1 (show x.toNat=43 by omega))
          have m2:((43:UInt8) == x)=false:=by rw [beq_eq_false_iff_ne];exact fun h=>e2 h.symm
          go_wp2
          go_meet
          case rel=>exact ⟨by rw [HP.out,m1,m2];rfl,rfl⟩
  case rest=>
    obtain ⟨rfl,rfl⟩:=hcut
    generalize hBB:(([45]:List UInt8).isPrefixOf S || ([43]:List UInt8).isPrefixOf S)=B
    have HB0:=hid hBB
    clear hBB
    go_upto_if 21 with fail
    go_cut [0,4] from 22 to 26 (fun s0 s4 wx=>s0=.string ⟨(pRest S).toArray⟩∧s4=.bool (pNeg S)∧W=wx)
    case first=>
      obtain ⟨T,hT,hcase⟩:=sign_cases S
      have HT:=hid hT
      clear hT
      rcases hcase with ⟨rfl,hn⟩ | ⟨rfl,hn,hm,hp⟩ | ⟨hST,hn,hm,hp⟩
      · have HN:=hid hn
        have h1:(⟨(45::T).toArray⟩:ByteArray).size=T.length+1:=by rw [Lib.size_mk];simp
        have h2:(⟨(45::T).toArray⟩:ByteArray).extract 1 (T.length+1)=⟨T.toArray⟩:=by rw [Lib.extract_mk];simp
        have hx:∀ h,(⟨(45::T).toArray⟩:ByteArray)[0]'h=45:=fun h=>rfl
        have hb:B=true:=by rw [← HB0.out];simp [List.isPrefixOf]
        have hT':T.length≤1999999:=by simpa using hS
        subst hb
        clear hn hS
        go_wp2
        go_meet
        case rel=>exact ⟨by rw [HT.out],by rw [HN.out],rfl⟩
      · have HN:=hid hn
        have h1:(⟨(43::T).toArray⟩:ByteArray).size=T.length+1:=by rw [Lib.size_mk];simp
        have h2:(⟨(43::T).toArray⟩:ByteArray).extract 1 (T.length+1)=⟨T.toArray⟩:=by rw [Lib.extract_mk];simp
        have hx:∀ h,(⟨(43::T).toArray⟩:ByteArray)[0]'h=43:=fun h=>rfl
        have hb:B=true:=by rw [← HB0.out];simp [List.isPrefixOf]
        have hT':T.length≤1999999:=by simpa using hS
        subst hb
        clear hn hm hp hS
        go_wp2
        go_meet
        case rel=>exact ⟨by rw [HT.out],by rw [HN.out],rfl⟩
      · have HN:=hid hn
        have hST':=hid hST
        have hb:B=false:=by rw [← HB0.out,hm,hp];rfl
        subst hb
        clear hn hm hp hST
        go_wp2
        go_meet
        case rel=>exact ⟨by rw [HT.out,← hST'.out],by rw [HN.out],rfl⟩
    case rest=>
      obtain ⟨rfl,rfl,rfl⟩:=hcut
      have hT:(pRest S).length≤2000000:=by
        refine Nat.le_trans ?_ hS
        unfold pRest
        split
        · rw [List.length_tail];omega
        · exact Nat.le_refl _
      have hok:pOK l=rOK (pBase (pRest (strip l))) (pBody (pRest (strip l))):=rfl
      have hval:pVal l=sgnInt (pNeg (strip l)) (numOf (pBase (pRest (strip l))) (pBody (pRest (strip l)))):=rfl
      rw [hSS.out] at hok hval
      have HOK:=hid hok
      have HVAL:=hid hval
      clear hok hval hS hSS
      generalize pRest S=T at *
      generalize pNeg S=ng at *
      go_upto_region 7 with fail
      go_cut [34] from 27 to 34 (fun v wx=>v=.bool (decide (1<T.length) && ((48:UInt8) == T.headD 0))∧W=wx)
      case first=>
        cases T with
        | nil=>
          have h1:(⟨([]:List UInt8).toArray⟩:ByteArray).size=0:=rfl
          go_wp2
          go_meet
          case rel=>exact ⟨rfl,rfl⟩
        | cons x R=>
          have h1:(⟨(x::R).toArray⟩:ByteArray).size=R.length+1:=by rw [Lib.size_mk];simp
          have hx:∀ h,(⟨(x::R).toArray⟩:ByteArray)[0]'h=x:=fun h=>rfl
          have hR:R.length≤1999999:=by simpa using hT
          have HL:=hid (show decide (1<(x::R).length)=decide (1<R.length+1) by simp)
          clear hT
          by_cases hr:0<R.length
          · by_cases e1:x=48
            · subst e1
              have hr2:1<R.length+1:=by omega
              go_wp2
              go_meet
              case rel=>exact ⟨by rw [HL.out,decide_eq_true (by omega)];rfl,rfl⟩
            · have n1 : (((x.toNat : Nat) : Int) == 48) = false := by
                rw [beq_eq_false_iff_ne]
                intro h
                exact e1 (UInt8.toNat_inj.1 (show x.toNat=48 by omega))
              have m1:((48:UInt8) == x)=false:=by rw [beq_eq_false_iff_ne];exact fun h=>e1 h.symm
              have hr2:1<R.length+1:=by omega
              go_wp2
              go_meet
              case rel=>exact ⟨by rw [List.headD_cons,m1,Bool.and_false],rfl⟩
          · have hr2:¬ 1<R.length+1:=by omega
            go_wp2
            go_meet
            case rel=>exact ⟨by rw [HL.out,decide_eq_false (by omega)];rfl,rfl⟩
      case rest=>
        obtain ⟨rfl,rfl⟩:=hcut
        generalize hBB:(decide (1<T.length) && ((48:UInt8) == T.headD 0))=B2
        have HB2:=hid hBB
        clear hBB
        go_upto_if 34 with fail
        go_cut [0,5] from 35 to 46 (fun s0 s5 wx=>s0=.string ⟨(pBody T).toArray⟩∧s5=.int .i64 (pBase T)∧W=wx)
        case first=>
          have three:∀ (x:UInt8) (R:List UInt8) (W:World),T=48::x::R→B2=true:=fun x R _ h=>by rw [← HB2.out,h];simp
          cases B2 with
          | false=>
            have hpre:∀ p:UInt8,([48,p]:List UInt8).isPrefixOf T=false:=by
              intro p
              cases T with
              | nil=>rfl
              | cons y T=>
                cases T with
                | nil=>simp [List.isPrefixOf]
                | cons z R=>
                  have h:=HB2.out
                  have h2:((48:UInt8) == y)=false:=by simpa using h
                  simp [List.isPrefixOf,h2]
            have HB:=hid (show pBase T=10 by unfold pBase;rw [hpre,hpre,hpre];rfl)
            have HD:=hid (show pBody T=T by unfold pBody;rw [hpre,hpre,hpre];rfl)
            clear three hpre
            go_wp2
            go_meet
            case rel=>exact ⟨by rw [HD.out],by rw [HB.out];rfl,rfl⟩
          | true=>
            obtain ⟨x,R,hTT⟩:∃ x R,T=48::x::R:=by
              have h:=HB2.out
              cases T with
              | nil=>simp at h
              | cons y T=>
                cases T with
                | nil=>simp at h
                | cons z R=>
                  have h2:y=48:=by
                    have:(48:UInt8) == y:=by simpa using h
                    exact (by simpa using this:(48:UInt8)=y).symm
                  subst h2
                  exact ⟨z,R,rfl⟩
            subst hTT
            clear three HB2
            have h1:(⟨(48::x::R).toArray⟩:ByteArray).size=R.length+2:=by rw [Lib.size_mk];simp
            have h2:(⟨(48::x::R).toArray⟩:ByteArray).extract 2 (R.length+2)=⟨R.toArray⟩:=by rw [Lib.extract_mk];simp
            have hx:∀ h,(⟨(48::x::R).toArray⟩:ByteArray)[1]'h=x:=fun h=>rfl
            have hR:R.length≤2000000:=by simp at hT;omega
            clear hT
            have key:∀ k:UInt8,x≠k→(((x.toNat:Nat):Int) == ((k.toNat:Nat):Int))=false∧((k == x)=false):=fun k hk=>⟨by
              rw [beq_eq_false_iff_ne]
              intro h
              exact hk (UInt8.toNat_inj.1 (by omega)),by rw [beq_eq_false_iff_ne];exact fun h=>hk h.symm⟩
            by_cases e1:x=120
            · subst e1
              have HB:=hid (show pBase (48::120::R)=16 by simp [pBase,List.isPrefixOf])
              have HD:=hid (show pBody (48::120::R)=R by simp [pBody,List.isPrefixOf])
              clear key
              go_wp2
              go_meet
              case rel=>exact ⟨by rw [HD.out],by rw [HB.out];rfl,rfl⟩
            · obtain ⟨n1,m1⟩:=key 120 e1
              have n1:(((x.toNat:Nat):Int) == 120)=false:=n1
              by_cases e2:x=111
              · subst e2
                have HB:=hid (show pBase (48::111::R)=8 by simp [pBase,List.isPrefixOf])
                have HD:=hid (show pBody (48::111::R)=R by simp [pBody,List.isPrefixOf])
                clear key
                go_wp2
                go_meet
                case rel=>exact ⟨by rw [HD.out],by rw [HB.out];rfl,rfl⟩
              · obtain ⟨n2,m2⟩:=key 111 e2
                have n2:(((x.toNat:Nat):Int) == 111)=false:=n2
                by_cases e3:x=98
                · subst e3
                  have HB:=hid (show pBase (48::98::R)=2 by simp [pBase,List.isPrefixOf])
                  have HD:=hid (show pBody (48::98::R)=R by simp [pBody,List.isPrefixOf])
                  clear key
                  go_wp2
                  go_meet
                  case rel=>exact ⟨by rw [HD.out],by rw [HB.out];rfl,rfl⟩
                · obtain ⟨n3,m3⟩:=key 98 e3
                  have n3:(((x.toNat:Nat):Int) == 98)=false:=n3
                  have HB:=hid (show pBase (48::x::R)=10 by simp [pBase,List.isPrefixOf,m1,m2,m3])
                  have HD:=hid (show pBody (48::x::R)=48::x::R by simp [pBody,List.isPrefixOf,m1,m2,m3])
                  clear key e1 e2 e3 m1 m2 m3
                  go_wp2
                  go_meet
                  case rel=>exact ⟨by rw [HD.out],by rw [HB.out];rfl,rfl⟩
        case rest=>
          obtain ⟨rfl,rfl,rfl⟩:=hcut
          have hU:(pBody T).length≤2000000:=by
            refine Nat.le_trans ?_ hT
            unfold pBody
            split
            · rw [List.length_drop];omega
            · exact Nat.le_refl _
          have hb16:2≤pBase T∧pBase T≤16:=by
            unfold pBase
            repeat' split
            all_goals decide
          obtain ⟨hb2,hb16⟩:=hb16
          generalize pBody T=U at *
          generalize pBase T=b at *
          clear HB2
          by_cases hten:b=10
          · subst hten
            have HC:=hid (dec_fn U (by omega) ng W)
            go_wp2_with fail
            (with_reducible refine HC.out.mono ?_);rintro e w1 ⟨v,rfl,hb1,hv,g,s,n,c,rfl⟩
            obtain ⟨⟨r1,r2⟩,s1,s2⟩:=(k0.later hb1).two
            have HV2:=hid hv
            clear hv
            have hsz1:=hb1.size
            have hbF:=((hb0.trans (hb1.mono (by omega))).setCell (p:=⟨w.heap.size,0,none⟩) (Nat.le_refl _) (.bool g)).setCell (p:=⟨w.heap.size,1,none⟩) (Nat.le_refl _) (.slice s n c)
            go_wp2
            refine bodyPost_ret (v:=.tuple #[.agg #[.bool g,.slice s n c],.bool (rOK 10 U)]) (by simp [results,Tryz.results65,go_sem,r1,r2]) rfl ⟨_,by rw [HOK.out],hbF,fun h=>?_,⟨_,_,_,_,rfl⟩⟩
            have hok:rOK 10 U=true:=by rw [← HOK.out];exact h
            obtain ⟨sv,he,hown⟩:=HV2.out hok
            rw [HVAL.out]
            refine ⟨sgnInt ng (numOf 10 U),⟨sv,he,?_⟩,?_,.inl rfl⟩
            · unfold OwnDec
              exact (own_set2 (show Own .i64 3 w1 W.heap.size sv _ _ from hown) _ _ (by omega)).mono (by omega)
            · rw [sgnInt_abs]
              have hall:∀ c∈U,valOf c<10:=by
                unfold rOK at hok
                intro c hc
                exact of_decide_eq_true (List.all_eq_true.1 (Bool.and_eq_true_iff.1 hok).2 c hc)
              have h1:=numOf_lt 10 (by decide) U hall
              have h2:=(dlen_le_iff 10 _ _ (by decide)).2 h1
              omega
          · have hne:((b:Int) == 10)=false:=by rw [beq_eq_false_iff_ne];omega
            have HC:=hid (digits_fn U (by omega) b hb2 (by omega) W)
            clear hten
            go_wp2_with fail
            (with_reducible refine HC.out.mono ?_);rintro e w1 ⟨v,n,rfl,hb1,hown,hdl,hnear⟩
            obtain ⟨a,cap,rfl⟩:=hown.dec.shape
            have HN:=hid hnear
            clear hnear
            have HC2:=hid (num_fn hown.dec (by omega) ng)
            go_wp2_with fail
            (with_reducible refine HC2.out.mono ?_);rintro e w2 ⟨rfl,hb2'⟩
            obtain ⟨⟨r1,r2⟩,s1,s2⟩:=((k0.later hb1).later hb2').two
            have hsz1:=hb1.size
            have hsz2:=hb2'.size
            have hbF:=((hb0.trans ((hb1.mono (by omega)).trans (hb2'.mono (by omega)))).setCell (p:=⟨w.heap.size,0,none⟩) (Nat.le_refl _) (.bool (ng && decide (0<n)))).setCell (p:=⟨w.heap.size,1,none⟩) (Nat.le_refl _) (.slice a (dlen 10 n) cap)
            go_wp2
            refine bodyPost_ret (v:=.tuple #[.agg #[.bool (ng && decide (0<n)),.slice a (dlen 10 n) cap],.bool (rOK b U)]) (by simp [results,Tryz.results65,go_sem,r1,r2]) rfl ⟨_,by rw [HOK.out],hbF,fun h=>?_,⟨_,_,_,_,rfl⟩⟩
            have hok:rOK b U=true:=by rw [← HOK.out];exact h
            have hnear:=HN.out hok
            rw [HVAL.out]
            refine ⟨sgnInt ng n,⟨_,by rw [sgnInt_neg],?_⟩,by rw [sgnInt_abs];omega,?_⟩
            · unfold OwnDec
              rw [sgnInt_abs]
              exact (own_set2 (Own.keep hown hb2' (Nat.le_refl _)) _ _ (by omega)).mono (by omega)
            · rcases hnear with rfl | ⟨h1,h2⟩
              · exact .inl rfl
              · right
                have h3:=big600_pos
                rw [sgnInt_abs,sgnInt_abs,sgnInt_neg,sgnInt_neg,decide_eq_true (by omega),decide_eq_true (by omega)]
                exact ⟨h1,h2,rfl⟩
end Go.Proofs.YtihdndaibmgoiaaGreatDoor
namespace Go.Proofs.YtihdndaibmgoiaaGreatDoor
open Go.RowKit
def digS (d:Nat):List UInt8:=[UInt8.ofNat (chN d)]
theorem lit_dig (d:Nat) (h:d<10):∀ s:ByteArray,s=⟨#[48,49,50,51,52,53,54,55,56,57,97,98,99,100,101,102,103,104,105,106,107,108,109,110,111,112,113,114,115,116,117,118,119,120,121,122]⟩→s.extract d (d+1)=⟨(digS d).toArray⟩:=by
 rintro s rfl
 have:d=0∨d=1∨d=2∨d=3∨d=4∨d=5∨d=6∨d=7∨d=8∨d=9:=by omega
 rcases this with rfl | rfl | rfl | rfl | rfl | rfl | rfl | rfl | rfl | rfl<;>decide
theorem smallI_fn (d:Nat) (hd:d<10) (w:World) :
  Calls Tryz.prog 174 #[.int .i64 d] w fun e w'=>e=.returned (.string ⟨(digS d).toArray⟩)∧w'=w:=by
 have HL:=hid (lit_dig d hd)
 go_enter Tryz.func174,Tryz.ntmps174
 go_wp2
 go_ret
 exact ⟨by rw [← HL.out _ rfl];rfl,rfl⟩
theorem fmtI_fn (d:Nat) (hd:d<10) (w:World) :
  Calls Tryz.prog 147 #[.int .i64 d,.int .i64 10] w fun e w'=>e=.returned (.string ⟨(digS d).toArray⟩)∧w'=w:=by
 have hc:=hid (smallI_fn d hd w)
 go_enter Tryz.func147,Tryz.ntmps147
 go_wp2_with fail
 (with_reducible refine hc.out.mono ?_);rintro e w' ⟨rfl,rfl⟩
 go_wp2
 go_ret
 exact ⟨rfl,rfl⟩
theorem itoaI_fn (d:Nat) (hd:d<10) (w:World) :
  Calls Tryz.prog 116 #[.int .i64 d] w fun e w'=>e=.returned (.string ⟨(digS d).toArray⟩)∧w'=w:=by
 have hc:=hid (fmtI_fn d hd w)
 go_enter Tryz.func116,Tryz.ntmps116
 go_wp2_with fail
 (with_reducible refine hc.out.mono ?_);rintro e w' ⟨rfl,rfl⟩
 go_wp2
 go_ret
 exact ⟨rfl,rfl⟩
theorem itoa_fn (d:Nat) (hd:d<10) (w:World) :
  Calls Tryz.prog 69 #[.int .i64 d] w fun e w'=>e=.returned (.string ⟨(digS d).toArray⟩)∧w'=w:=by
 have hc:=hid (itoaI_fn d hd w)
 go_enter Tryz.func69,Tryz.ntmps69
 go_wp2_with fail
 (with_reducible refine hc.out.mono ?_);rintro e w' ⟨rfl,rfl⟩
 go_wp2
 go_ret
 exact ⟨rfl,rfl⟩
def lowS (n k:Nat):List UInt8:=(List.range k).map fun t=>UInt8.ofNat (chN (dgt 10 n (k-1-t)))
theorem lowS_length (n k:Nat):(lowS n k).length=k:=by simp [lowS]
theorem lowS_succ (n k:Nat):lowS n (k+1)=digS (dgt 10 n k)++lowS n k:=by
 unfold lowS digS
 rw [List.range_succ_eq_map]
 simp only [List.map_cons,List.map_map,List.singleton_append,List.cons.injEq]
 refine ⟨by simp,?_⟩
 apply List.map_congr_left
 intro t ht
 have:=List.mem_range.1 ht
 show UInt8.ofNat (chN (dgt 10 n (k+1-1-(t+1))))=_
 rw [show k+1-1-(t+1)=k-1-t from by omega]
theorem lowS_all (n:Nat):lowS n (dlen 10 n)=strOf 10 n:=rfl
set_option maxRecDepth 100000 in
set_option maxHeartbeats 4000000 in
theorem textR_fn {v:Value} {z:Int} {w:World} (h:DNum w v z) (hl:dlen 10 z.natAbs≤1000000) :
  Calls Tryz.prog 64 #[v] w fun e w'=>e=.returned (.string ⟨(numText 10 z.natAbs (decide (z<0))).toArray⟩)∧Below w.heap.size w w':=by
 obtain ⟨s,rfl,h⟩:=h
 generalize hneg:decide (z<0)=neg
 clear hneg
 generalize z.natAbs=n at *
 obtain ⟨a,cap,rfl⟩:=h.shape
 have k0:=Blk.new w #[.bool neg,.slice a (dlen 10 n) cap] 59
 have hb0:Below w.heap.size w (w.alloc (.cells #[.bool neg,.slice a (dlen 10 n) cap] 59)):=(Below.refl _ _).alloc (Nat.le_refl _) _
 have hrep:=h.below hb0
 have hem:=strOf_isEmpty 10 n (by decide)
 go_enter Tryz.func64,Tryz.ntmps64
 go_wp2
 generalize w.alloc (.cells #[.bool neg,.slice a (dlen 10 n) cap] 59)=W at *
 obtain ⟨⟨p1,p2⟩,q1,q2⟩:=k0.two
 have hcell:=hrep
 obtain ⟨a',cap',hv,hcap,hcell⟩:=hcell
 simp only [Value.slice.injEq,true_and] at hv
 obtain ⟨rfl,rfl⟩:=hv
 go_loop [3,9] (fun sv iv=>∃ k:Nat,iv=.int .i64 k∧k≤dlen 10 n∧sv=.string ⟨(lowS n k).toArray⟩) (fun _ iv=>dlen 10 n-(intOf iv).toNat)
 case atStart=>exact ⟨0,rfl,Nat.zero_le _,rfl⟩
 case round=>
  obtain ⟨k,rfl,hk,rfl⟩:=hrel
  by_cases hlt:k<dlen 10 n
  ·obtain ⟨b,off,rfl,hbl,hc⟩:=hcell (by omega)
   have hck:=hc k hlt
   have HC:=hid (itoa_fn (dgt 10 n k) (dgt_lt 10 n k (by decide)) W)
   have HS:=hid (lowS_succ n k)
   have hlen:=lowS_length n k
   have h1:(⟨(lowS n k).toArray⟩:ByteArray).size=k:=by rw [Lib.size_mk];exact hlen
   have h2:(⟨(digS (dgt 10 n k)).toArray⟩:ByteArray).size=1:=rfl
   clear hlen
   go_wp2_with fail
   (with_reducible refine HC.out.mono ?_);rintro e w' ⟨rfl,rfl⟩
   go_wp2
   go_round
   case rel=>exact ⟨k+1,by go_num,by omega,by rw [HS.out];exact congrArg Value.string (by apply ByteArray.ext;simp [ByteArray.data_append])⟩
   case measure=>simp [intOf]<;>omega
  ·obtain rfl:k=dlen 10 n:=by omega
   rw [lowS_all]
   have HE:=hem
   by_cases h0:n=0
   ·rw [decide_eq_true h0] at hem
    have hn:numText 10 n neg=[48]:=by rw [numText,if_pos h0]
    have HN:=hid hn
    clear h0 hn HE
    go_wp2
    go_ret
    exact ⟨by rw [HN.out];rfl,hb0⟩
   ·rw [decide_eq_false h0] at hem
    have hlen:=strOf_length 10 n
    have hsz:(strOf 10 n).length≤32000000:=by omega
    clear hlen HE
    cases neg
    ·have hn:numText 10 n false=strOf 10 n:=by rw [numText,if_neg h0];rfl
     have HN:=hid hn
     clear h0 hn
     go_wp2
     go_ret
     exact ⟨by rw [HN.out];rfl,hb0⟩
    ·have hn:numText 10 n true=45::strOf 10 n:=by rw [numText,if_neg h0];rfl
     have HN:=hid hn
     clear h0 hn
     go_wp2
     go_ret
     exact ⟨by rw [HN.out];rfl,hb0⟩
end Go.Proofs.YtihdndaibmgoiaaGreatDoor
namespace Go.Proofs.YtihdndaibmgoiaaGreatDoor
open Go.RowKit
def Nums (w:World) (v:Value) (zs:List Int):Prop:=
 ∃ (a:Option Addr) (cap:Nat),v=.slice a zs.length cap∧zs.length≤cap∧(0<zs.length→∃ b,a=some ⟨b,0,none⟩∧b<w.heap.size∧∀ i,i<zs.length→∃ s c,w.cell? ⟨b,i*2,none⟩=some (.bool (decide (zs.getD i 0<0)))∧w.cell? ⟨b,i*2+1,none⟩=some (.slice s (dlen 10 (zs.getD i 0).natAbs) c)∧DecRep w (.slice s (dlen 10 (zs.getD i 0).natAbs) c) (zs.getD i 0).natAbs)
theorem Nums.nil (w:World):Nums w (.slice none 0 0) []:=⟨none,0,rfl,Nat.le_refl _,fun h=>absurd h (Nat.lt_irrefl 0)⟩
theorem Nums.below {w w':World} {v:Value} {zs:List Int} (h:Nums w v zs) (hb:Below w.heap.size w w'):Nums w' v zs:=by
 obtain ⟨a,cap,rfl,hc,h⟩:=h
 refine ⟨a,cap,rfl,hc,fun h0=>?_⟩
 obtain ⟨b,rfl,hlt,hcell⟩:=h h0
 refine ⟨b,rfl,Nat.lt_of_lt_of_le hlt hb.size,fun i hi=>?_⟩
 obtain ⟨s,c,h1,h2,h3⟩:=hcell i hi
 exact ⟨s,c,(hb.cell (p:=⟨b,i*2,none⟩) hlt).trans h1,(hb.cell (p:=⟨b,i*2+1,none⟩) hlt).trans h2,h3.below hb⟩
def anyBig (zs:List Int):Bool:=zs.any fun z=>decide (big600≤z.natAbs)
def toldRes (z:Int) (zs:List Int):List UInt8×Int:=if anyBig zs then ([],4) else resOf z
theorem DNum.shape {w:World} {v:Value} {z:Int} (h:DNum w v z):∃ a c,v=.agg #[.bool (decide (z<0)),.slice a (dlen 10 z.natAbs) c]∧DecRep w (.slice a (dlen 10 z.natAbs) c) z.natAbs:=by
 obtain ⟨s,rfl,h⟩:=h
 obtain ⟨a,c,rfl⟩:=h.shape
 exact ⟨a,c,rfl,h⟩
set_option maxRecDepth 100000 in
set_option maxHeartbeats 4000000 in
theorem told_fn {v u:Value} {z:Int} {zs:List Int} {w:World} (h:DNum w v z) (hl:dlen 10 z.natAbs≤10000000) (hs:Nums w u zs) (hz:∀ x∈zs,dlen 10 x.natAbs≤10000000) (hn:zs.length≤100) :
  Calls Tryz.prog 61 #[v,u] w fun e w'=>e=.returned (.tuple #[.string ⟨(toldRes z zs).1.toArray⟩,.int .i64 (toldRes z zs).2])∧Below w.heap.size w w':=by
 obtain ⟨a,cap,rfl,hd⟩:=h.shape
 have hs0:=hs
 obtain ⟨su,cu,rfl,hcu,hcell⟩:=hs0
 have k0:=Blk.new w #[.bool (decide (z<0)),.slice a (dlen 10 z.natAbs) cap] 59
 have hb0:Below w.heap.size w (w.alloc (.cells #[.bool (decide (z<0)),.slice a (dlen 10 z.natAbs) cap] 59)):=(Below.refl _ _).alloc (Nat.le_refl _) _
 have hsz0:(w.alloc (.cells #[.bool (decide (z<0)),.slice a (dlen 10 z.natAbs) cap] 59)).heap.size=w.heap.size+1:=by simp
 have HZ:=hid hz
 have HC:=hid hcell
 clear hz hcell
 go_enter Tryz.func61,Tryz.ntmps61
 go_wp2
 generalize w.alloc (.cells #[.bool (decide (z<0)),.slice a (dlen 10 z.natAbs) cap] 59)=W at *
 go_loopw [10] (fun iv wr=>∃ k:Nat,iv=.int .i64 k∧k≤zs.length∧anyBig (zs.take k)=false∧Below w.heap.size w wr∧Blk wr w.heap.size #[.bool (decide (z<0)),.slice a (dlen 10 z.natAbs) cap] 59) (fun iv _=>zs.length-(intOf iv).toNat)
 case atStart=>exact ⟨0,rfl,Nat.zero_le _,rfl,hb0,k0⟩
 case round=>
  obtain ⟨k,rfl,hk,hany,hbr,kr⟩:=hrel
  have HA:=hid hany
  clear hany
  by_cases hlt:k<zs.length
  ·obtain ⟨b,rfl,hbl,hc⟩:=HC.out (by omega)
   obtain ⟨s,c,c1,c2,c3⟩:=hc k hlt
   have c1:=(hbr.cell (p:=⟨b,k*2,none⟩) hbl).trans c1
   have c2:=(hbr.cell (p:=⟨b,k*2+1,none⟩) hbl).trans c2
   have e:zs.getD k 0=zs[k]:=by rw [List.getD_eq_getElem?_getD,List.getElem?_eq_getElem hlt];rfl
   have hdl:=HZ.out (zs[k]) (List.getElem_mem hlt)
   rw [e] at c1 c2 c3
   have HT:=hid (show anyBig (zs.take (k+1))=decide (big600≤(zs[k]).natAbs) by
    have h1:=HA.out
    unfold anyBig at h1 ⊢
    rw [List.take_add_one,List.getElem?_eq_getElem hlt,List.any_append,h1]
    simp)
   have hmono:anyBig (zs.take (k+1))=true→anyBig zs=true:=by
    unfold anyBig
    intro h
    rw [List.any_eq_true] at h ⊢
    obtain ⟨x,h1,h2⟩:=h
    exact ⟨x,List.mem_of_mem_take h1,h2⟩
   have HM:=hid hmono
   clear hmono e hc
   generalize zs[k]=y at *
   have k1:=Blk.new wr #[.bool (decide (y<0)),.slice s (dlen 10 y.natAbs) c] 59
   have hb1:Below wr.heap.size wr (wr.alloc (.cells #[.bool (decide (y<0)),.slice s (dlen 10 y.natAbs) c] 59)):=(Below.refl _ _).alloc (Nat.le_refl _) _
   have hD:DNum (wr.alloc (.cells #[.bool (decide (y<0)),.slice s (dlen 10 y.natAbs) c] 59)) (.agg #[.bool (decide (y<0)),.slice s (dlen 10 y.natAbs) c]) y:=⟨_,rfl,(c3.below hbr).below hb1⟩
   have HLC:=hid (long_fn hD (by omega))
   have hszr:=hbr.size
   go_wp2_with fail
   (with_reducible refine HLC.out.mono ?_);rintro e w2 ⟨rfl,hb2⟩
   have hb3:=hbr.trans ((hb1.mono hszr).trans (hb2.mono (Nat.le_trans hszr hb1.size)))
   by_cases hbig:big600≤y.natAbs
   ·have HR:=hid (show toldRes z zs=([],4) by unfold toldRes;rw [HM.out (by rw [HT.out];exact decide_eq_true hbig)];rfl)
    rw [decide_eq_true hbig]
    clear hbig
    go_wp2
    go_ret2
    exact ⟨by rw [HR.out];rfl,hb3⟩
   ·have HF:=hid (show anyBig (zs.take (k+1))=false by rw [HT.out];exact decide_eq_false hbig)
    rw [decide_eq_false hbig]
    clear hbig
    have kr2:=(kr.later hb1).later hb2
    go_wp2
    go_roundw
    case rel=>exact ⟨k+1,by go_num,by omega,HF.out,hb3,kr2⟩
    case measure=>simp [intOf]<;>omega
  ·obtain rfl:k=zs.length:=by omega
   have hany:=HA.out
   rw [List.take_length] at hany
   have HR:=hid (show toldRes z zs=resOf z by unfold toldRes;rw [hany];rfl)
   clear hany
   have hD:DNum wr (.agg #[.bool (decide (z<0)),.slice a (dlen 10 z.natAbs) cap]) z:=⟨_,rfl,hd.below hbr⟩
   have HLC:=hid (long_fn hD (by omega))
   have hszr:=hbr.size
   obtain ⟨⟨p1,p2⟩,q1,q2⟩:=kr.two
   go_wp2_with fail
   (with_reducible refine HLC.out.mono ?_);rintro e w2 ⟨rfl,hb2⟩
   have hb3:=hbr.trans (hb2.mono hszr)
   clear p1 p2 q1 q2
   obtain ⟨⟨p1,p2⟩,q1,q2⟩:=(kr.later hb2).two
   by_cases hbig:big600≤z.natAbs
   ·have HR2:=hid (show resOf z=([],4) by unfold resOf;rw [if_neg (by omega)])
    rw [decide_eq_true hbig]
    clear hbig
    go_wp2
    go_ret2
    exact ⟨by rw [HR.out,HR2.out];rfl,hb3⟩
   ·have HR2:=hid (show resOf z=(numText 10 z.natAbs (decide (z<0)),0) by unfold resOf;rw [if_pos (by omega)])
    have HTC:=hid (textR_fn (hD.below hb2) (by have:=(digits_600 z.natAbs).2 (by omega);omega))
    rw [decide_eq_false hbig]
    clear hbig
    go_wp2_with fail
    (with_reducible refine HTC.out.mono ?_);rintro e w3 ⟨rfl,hb4⟩
    go_wp2
    go_ret2
    exact ⟨by rw [HR.out,HR2.out];rfl,hb3.trans (hb4.mono (Nat.le_trans hszr hb2.size))⟩
theorem toldRes_nil (z:Int):toldRes z []=resOf z:=rfl
end Go.Proofs.YtihdndaibmgoiaaGreatDoor
namespace Go.Proofs.YtihdndaibmgoiaaGreatDoor
open Go.RowKit
theorem fmod_abs (a b:Int) (hb:b≠0):(a.fmod b).natAbs≤b.natAbs:=by
  obtain ⟨h1,h2⟩:=fdiv_sizes a b hb
  have hlt:a.natAbs % b.natAbs<b.natAbs:=Nat.mod_lt _ (by omega)
  by_cases hc:0<a.natAbs % b.natAbs∧(!(decide (a<0) == decide (b<0)))=true
  · rw [(h1 hc.1 hc.2).2]
    have h3:=hc.2
    generalize a.natAbs % b.natAbs=R at *
    by_cases ha:a<0
    · by_cases hb2:b<0
      · rw [decide_eq_true ha,decide_eq_true hb2] at h3;cases h3
      · rw [decide_eq_true ha];unfold sgnInt;rw [if_pos rfl];omega
    · by_cases hb2:b<0
      · rw [decide_eq_false ha];unfold sgnInt;rw [if_neg (by decide)];omega
      · rw [decide_eq_false ha,decide_eq_false hb2] at h3;cases h3
  · rw [(h2 (by
      by_cases h0:0<a.natAbs % b.natAbs
      · right
        cases hh:(!(decide (a<0) == decide (b<0)))
        · rfl
        · exact absurd ⟨h0,hh⟩ hc
      · left;omega)).2,sgnInt_abs]
    omega
def divPe (b:List UInt8):Int:=if pVal b=0 then 10 else 0
def quoRes (a b:List UInt8):List UInt8×Int:=twoRes a b (divPe b) ((pVal a).fdiv (pVal b))
def remRes (a b:List UInt8):List UInt8×Int:=twoRes a b (divPe b) ((pVal a).fmod (pVal b))
def divVal (a b:List UInt8):Value:=if (quoRes a b).2=0 then .tuple #[.string ⟨(quoRes a b).1.toArray⟩,.string ⟨(remRes a b).1.toArray⟩,.int .i64 (remRes a b).2] else .tuple #[.string ⟨#[]⟩,.string ⟨#[]⟩,.int .i64 (quoRes a b).2]
end Go.Proofs.YtihdndaibmgoiaaGreatDoor
namespace Go.Proofs.YtihdndaibmgoiaaGreatDoor
open Go.RowKit
theorem resOf_big (z:Int) (h:big600≤z.natAbs):resOf z=([],4):=by unfold resOf;rw [if_neg (by omega)]
def Cut (z' z:Int):Prop:=z'=z∨(big600≤z'.natAbs∧big600≤z.natAbs∧decide (z'<0)=decide (z<0))
theorem Cut.res {z' z:Int} (h:Cut z' z):resOf z'=resOf z:=by
 rcases h with rfl | ⟨h1,h2,_⟩
 ·rfl
 ·rw [resOf_big _ h1,resOf_big _ h2]
theorem Cut.big {z' z:Int} (h:Cut z' z):decide (big600≤z'.natAbs)=decide (big600≤z.natAbs):=by
 rcases h with rfl | ⟨h1,h2,_⟩
 ·rfl
 ·rw [decide_eq_true h1,decide_eq_true h2]
theorem Cut.small {z' z:Int} (h:Cut z' z) (hs:z.natAbs<big600):z'=z:=by
 rcases h with rfl | ⟨h1,h2,_⟩
 ·rfl
 ·omega
theorem canRes_eq (a:List UInt8):canRes a=if pOK a=true then resOf (pVal a) else ([],2):=by
 unfold canRes oneRes
 by_cases h:pOK a=true
 ·rw [if_pos h,if_pos h,if_neg (by simp)]
  by_cases hb:big600≤(pVal a).natAbs
  ·rw [if_pos hb,resOf_big _ hb]
  ·rw [if_neg hb]
 ·rw [if_neg h,if_neg h]
set_option maxRecDepth 100000 in
set_option maxHeartbeats 4000000 in
theorem canR_fn (a:List UInt8) (ha:a.length≤2000000) (w:World) :
  Calls Tryz.prog 15 #[.string ⟨a.toArray⟩] w fun e w'=>e=.returned (.tuple #[.string ⟨(canRes a).1.toArray⟩,.int .i64 (canRes a).2])∧Below w.heap.size w w':=by
 have hc:=hid (number_fn a ha w)
 unfold NumP at hc
 cases hok:pOK a with
 | false=>
  have HR:=hid (show canRes a=([],2) by rw [canRes_eq,hok];rfl)
  rw [hok] at hc
  clear hok
  go_enter Tryz.func15,Tryz.ntmps15
  go_wp2_with fail
  (with_reducible refine hc.out.mono ?_);rintro e w1 ⟨v,rfl,hb1,hv,g,s,n,c,rfl⟩
  go_wp2
  go_ret2
  exact ⟨by rw [HR.out];rfl,hb1.alloc hb1.size _⟩
 | true=>
  have HR:=hid (show canRes a=resOf (pVal a) by rw [canRes_eq,hok];rfl)
  rw [hok] at hc
  clear hok
  go_enter Tryz.func15,Tryz.ntmps15
  go_wp2_with fail
  (with_reducible refine hc.out.mono ?_);rintro e w1 ⟨v,rfl,hb1,hv,g,s,n,c,rfl⟩
  obtain ⟨z',hz,hdl,hcut⟩:=hv (by first | rfl | trivial)
  have HC:=hid (Cut.res hcut)
  have hbA:Below w.heap.size w (w1.alloc (.cells #[.bool g,.slice s n c] 59)):=hb1.alloc hb1.size _
  have kA:=Blk.new w1 #[.bool g,.slice s n c] 59
  have hD:=hz.num.below ((Below.refl _ w1).alloc (Nat.le_refl _) (.cells #[.bool g,.slice s n c] 59))
  have HT:=hid (told_fn hD (by omega) (Nums.nil _) (fun x h=>by cases h) (by decide))
  rw [toldRes_nil,HC.out] at HT
  clear hcut hv
  have hsz1:=hb1.size
  go_wp2_with fail
  (with_reducible refine HT.out.mono ?_);rintro e w2 ⟨rfl,hb2⟩
  go_wp2
  go_ret2
  exact ⟨by rw [HR.out];rfl,hbA.trans (hb2.mono hbA.size)⟩
end Go.Proofs.YtihdndaibmgoiaaGreatDoor
namespace Go.Proofs.YtihdndaibmgoiaaGreatDoor
open Go.RowKit
theorem div10_split (n i:Nat):n / 10 ^ i=dgt 10 n i+10*(n / 10 ^ (i+1)):=by
 unfold dgt
 rw [Nat.pow_succ,← Nat.div_div_eq_div_mul]
 have:=Nat.mod_add_div (n / 10 ^ i) 10
 omega
theorem cmp10_lt (m n i:Nat) (h:m / 10 ^ (i+1)=n / 10 ^ (i+1)) (hd:dgt 10 m i<dgt 10 n i):m<n:=by
 have h1:=div10_split m i
 have h2:=div10_split n i
 have h3:m / 10 ^ i<n / 10 ^ i:=by omega
 exact Nat.lt_of_not_le fun hle=>by
  have:=Nat.div_le_div_right (c:=10 ^ i) hle
  omega
theorem cmp10_eq (m n i:Nat) (h:m / 10 ^ (i+1)=n / 10 ^ (i+1)) (hd:dgt 10 m i=dgt 10 n i):m / 10 ^ i=n / 10 ^ i:=by
 rw [div10_split m i,div10_split n i,h,hd]
set_option maxRecDepth 100000 in
set_option maxHeartbeats 4000000 in
theorem order_fn {v u:Value} {m n:Nat} {w:World} (hv:DecRep w v m) (hu:DecRep w u n) (hl:dlen 10 m≤100000000) (hl':dlen 10 n≤100000000) :
  Calls Tryz.prog 114 #[v,u] w fun e w'=>e=.returned (.int .i64 (cmpN m n))∧w'=w:=by
 obtain ⟨a,cap,rfl⟩:=hv.shape
 obtain ⟨a',cap',rfl⟩:=hu.shape
 go_enter Tryz.func114,Tryz.ntmps114
 go_wp2
 go_loop [5] (fun i=>∃ j:Nat,i=.int .i64 ((j:Int)-1)∧j≤max (dlen 10 m) (dlen 10 n)∧m / 10 ^ j=n / 10 ^ j) (fun i=>(intOf i+1).toNat)
 case atStart=>
  refine ⟨max (dlen 10 m) (dlen 10 n),?_,Nat.le_refl _,?_⟩
  ·congr 1;omega
  ·rw [(dlen_div 10 m _ (by decide)).2 (Nat.le_max_left _ _),(dlen_div 10 n _ (by decide)).2 (Nat.le_max_right _ _)]
 case round=>
  obtain ⟨j,rfl,hj,he⟩:=hrel
  have HE:=hid he
  clear he
  by_cases h0:j=0
  ·subst h0
   have hmn:m=n:=by have:=HE.out;simpa using this
   have HC:=hid (show cmpN m n=0 by unfold cmpN;rw [if_neg (by omega),if_neg (by omega)])
   clear hmn HE
   go_wp2
   go_ret
   exact ⟨by rw [HC.out];rfl,rfl⟩
  ·obtain ⟨i,rfl⟩:∃ i,j=i+1:=⟨j-1,by omega⟩
   have hi:((i+1:Nat):Int)-1=(i:Int):=by omega
   rw [hi]
   have hc1:=hid (dig_fn hv (by omega) i (by omega))
   have hc2:=hid (dig_fn hu (by omega) i (by omega))
   clear hi
   have hlt1:=cmp10_lt m n i HE.out
   have hlt2:=cmp10_lt n m i HE.out.symm
   have heq:=cmp10_eq m n i HE.out
   have H1:=hid hlt1
   have H2:=hid hlt2
   have H3:=hid heq
   clear hlt1 hlt2 heq
   generalize dgt 10 m i=x at *
   generalize dgt 10 n i=y at *
   rcases Nat.lt_trichotomy x y with hxy | hxy | hxy
   ·have HC:=hid (show cmpN m n = -1 by unfold cmpN;rw [if_pos (H1.out hxy)])
    have hne:(((x:Nat):Int) != ((y:Nat):Int))=true:=by rw [bne_iff_ne];omega
    go_wp2_with fail
    (with_reducible refine hc1.out.mono ?_);rintro e w' ⟨rfl,rfl⟩
    go_wp2_with fail
    (with_reducible refine hc2.out.mono ?_);rintro e w' ⟨rfl,rfl⟩
    go_wp2
    go_ret
    exact ⟨by rw [HC.out];rfl,rfl⟩
   ·subst hxy
    have hq:=hid (H3.out rfl)
    have hne:(((x:Nat):Int) != ((x:Nat):Int))=false:=by simp
    go_wp2_with fail
    (with_reducible refine hc1.out.mono ?_);rintro e w' ⟨rfl,rfl⟩
    go_wp2_with fail
    (with_reducible refine hc2.out.mono ?_);rintro e w' ⟨rfl,rfl⟩
    go_wp2
    go_round
    case rel=>exact ⟨i,rfl,by omega,hq.out⟩
    case measure=>simp [intOf]<;>omega
   ·have HC:=hid (show cmpN m n=1 by unfold cmpN;have:=H2.out hxy;rw [if_neg (by omega),if_pos this])
    have hne:(((x:Nat):Int) != ((y:Nat):Int))=true:=by rw [bne_iff_ne];omega
    have hge:¬ ((x:Nat):Int)<((y:Nat):Int):=by omega
    go_wp2_with fail
    (with_reducible refine hc1.out.mono ?_);rintro e w' ⟨rfl,rfl⟩
    go_wp2_with fail
    (with_reducible refine hc2.out.mono ?_);rintro e w' ⟨rfl,rfl⟩
    go_wp2
    go_ret
    exact ⟨by rw [HC.out];rfl,rfl⟩
def bw10 (m n i:Nat):Nat:=if m % 10 ^ i<n % 10 ^ i then 1 else 0
theorem bw10_zero (m n:Nat):bw10 m n 0=0:=by unfold bw10;simp [Nat.mod_one]
theorem bw10_le (m n i:Nat):bw10 m n i≤1:=by unfold bw10;split<;>omega
theorem bw10_mod (m n i:Nat) (h:n≤m):(m-n) % 10 ^ i+n % 10 ^ i=m % 10 ^ i+10 ^ i*bw10 m n i:=by
 have hp:=pow10_pos i
 unfold bw10
 generalize 10 ^ i=X at *
 have h1:=Nat.div_add_mod m X
 have h2:=Nat.div_add_mod n X
 have h3:=Nat.mod_lt m hp
 have h4:=Nat.mod_lt n hp
 have hq:n / X≤m / X:=Nat.div_le_div_right h
 obtain ⟨k,hk⟩:=Nat.le.dest hq
 generalize m / X=q1 at *
 generalize n / X=q2 at *
 generalize m % X=M at *
 generalize n % X=N at *
 subst hk
 rw [Nat.mul_add] at h1
 split
 ·rename_i hlt
  cases k with
  | zero=>rw [Nat.mul_zero] at h1;omega
  | succ k=>
   have e:m-n=(M+X-N)+X*k:=by rw [Nat.mul_succ] at h1;omega
   rw [e,Nat.add_mul_mod_self_left,Nat.mod_eq_of_lt (by omega)]
   omega
 ·have e:m-n=(M-N)+X*k:=by omega
  rw [e,Nat.add_mul_mod_self_left,Nat.mod_eq_of_lt (by omega)]
  omega
theorem bw10_step (m n i:Nat) (h:n≤m):dgt 10 (m-n) i+dgt 10 n i+bw10 m n i=dgt 10 m i+10*bw10 m n (i+1):=by
 have h1:=bw10_mod m n i h
 have h2:=bw10_mod m n (i+1) h
 rw [mod10_succ,mod10_succ,mod10_succ,Nat.pow_succ] at h2
 have hp:=pow10_pos i
 generalize dgt 10 (m-n) i=A at *
 generalize dgt 10 n i=B at *
 generalize dgt 10 m i=C at *
 generalize bw10 m n i=b at *
 generalize bw10 m n (i+1)=b' at *
 generalize 10 ^ i=X at *
 generalize (m-n) % X=U at *
 generalize n % X=V at *
 generalize m % X=W at *
 have h3:(A+B+b)*X=(C+10*b')*X:=by
  rw [Nat.add_mul,Nat.add_mul,Nat.add_mul]
  have e1:X*10*b'=10*b'*X:=by rw [Nat.mul_comm X 10,Nat.mul_right_comm]
  have e2:X*b=b*X:=Nat.mul_comm _ _
  omega
 exact Nat.eq_of_mul_eq_mul_right hp h3
theorem OwnDec.of {w:World} {base:Nat} {v:Value} {n:Nat} (h:Own .i64 3 w base v (dlen 10 n) (dgt 10 n)):OwnDec w base v n:=h
theorem trimmedD_own {v:Value} {base n k:Nat} {w:World} (h:Own .i64 3 w base v k (dgt 10 n)) (hk:k≤1000000000) (hn:n<10 ^ k) :
  Calls Tryz.prog 145 #[v] w fun e w'=>(∃ v',e=.returned v'∧OwnDec w base v' n)∧w'=w:=by
 obtain ⟨a,cap,rfl⟩:=h.shape
 refine (trimmedD_row h.row hk hn).mono ?_
 rintro e w' ⟨rfl,rfl⟩
 exact ⟨⟨_,rfl,h.cut ((dlen_le_iff 10 n k (by decide)).2 hn)⟩,rfl⟩
set_option maxRecDepth 100000 in
set_option maxHeartbeats 4000000 in
theorem minusD_fn {v u:Value} {m n:Nat} {w:World} (hv:DecRep w v m) (hu:DecRep w u n) (hm:dlen 10 m≤100000000) (hn:dlen 10 n≤100000000) (hle:n≤m) :
  Calls Tryz.prog 115 #[v,u] w (FreshDec (m-n) w):=by
 obtain ⟨a1,c1,hv1,hcap,hcell⟩:=hv
 subst hv1
 obtain ⟨a2,c2,rfl⟩:=hu.shape
 have HL:=hid hle
 have HC:=hid hcell
 clear hle hcell
 go_enter Tryz.func115,Tryz.ntmps115
 go_wp2
 go_loopw [5,6,11] (fun sv cv iv wr=>∃ i:Nat,iv=.int .i64 i∧i≤dlen 10 m∧Own .i64 3 wr w.heap.size sv i (dgt 10 (m-n))∧cv=.int .i64 (bw10 m n i)∧Below w.heap.size w wr) (fun _ _ iv _=>dlen 10 m-(intOf iv).toNat)
 case atStart=>exact ⟨0,rfl,Nat.zero_le _,Own.nil,by rw [bw10_zero];rfl,Below.refl _ _⟩
 case round=>
  obtain ⟨i,rfl,hi,hown,rfl,hbr⟩:=hrel
  obtain ⟨a3,c3,rfl⟩:=hown.shape
  have hszr:=hbr.size
  by_cases hlt:i<dlen 10 m
  ·obtain ⟨b,off,rfl,hbl,hc⟩:=HC.out (by omega)
   have hci:=(hbr.cell (p:=⟨b,off+i,none⟩) hbl).trans (hc i hlt)
   have hcd:=hid (fun (q:Nat)=>dig_fn (hu.below (hbr.trans (below_drewN (Below.refl w.heap.size wr) q))) (by omega) i (by omega))
   have hst:=bw10_step m n i HL.out
   have q1:=dgt_lt 10 m i (by decide)
   have q2:=dgt_lt 10 n i (by decide)
   have q3:=dgt_lt 10 (m-n) i (by decide)
   have q4:=bw10_le m n i
   have q5:=bw10_le m n (i+1)
   have HA:=hid (show dgt 10 (m-n) i=dgt 10 (m-n) i from rfl)
   generalize hAA:dgt 10 (m-n) i=A at *
   generalize hbb:bw10 m n (i+1)=b' at *
   have HAA:=hid hAA
   have HBB:=hid hbb
   clear hc hAA hbb HA
   generalize dgt 10 m i=x at *
   generalize dgt 10 n i=y at *
   generalize bw10 m n i=b at *
   have hidx:(0:Int)≤(i:Int):=by omega
   have hidx2:(i:Int)<(dlen 10 m:Nat):=by omega
   have hlim:i≤100000000:=by omega
   have hcase:b'=0∨b'=1:=by omega
   rcases hcase with hb0 | hb1
   ·have hA:=hid (show (A:Int)=(x:Int)-y-b by omega)
    have hnn:¬ (x:Int)-y-b<0:=by omega
    have HB0:=hid hb0
    clear hst hb0 q5
    go_wp2
    go_quiet ((go_at_call 144;exact Calls.quiet_of_same (hcd.out _)))
    have hown1:Own .i64 3 (wr.drewN nq) w.heap.size (.slice a3 i c3) i (dgt 10 (m-n)):=hown
    have hbr1:=below_drewN hbr nq
    have hsz1:w.heap.size≤(wr.drewN nq).heap.size:=hbr1.size
    generalize wr.drewN nq=wq at *
    go_wp2_with (at_builtin;refine app_i64 rfl _ _ rfl w.heap.size _ i _ rfl hown1 _ rfl ?_ (by omega) (by omega) ?_;rotate_left;intro v' w2 hown2 hb2)
    ·go_roundw
     case rel=>exact ⟨i+1,by go_num,by omega,hown2,by rw [HBB.out,HB0.out];rfl,hbr1.trans (hb2.mono (Nat.le_refl _))⟩
     case measure=>simp [intOf]<;>omega
    ·rw [HAA.out,hA.out]
   ·have hA:=hid (show (A:Int)=(x:Int)-y-b+10 by omega)
    have hnn:(x:Int)-y-b<0:=by omega
    have HB1:=hid hb1
    clear hst hb1 q5
    go_wp2
    go_quiet ((go_at_call 144;exact Calls.quiet_of_same (hcd.out _)))
    have hown1:Own .i64 3 (wr.drewN nq) w.heap.size (.slice a3 i c3) i (dgt 10 (m-n)):=hown
    have hbr1:=below_drewN hbr nq
    have hsz1:w.heap.size≤(wr.drewN nq).heap.size:=hbr1.size
    generalize wr.drewN nq=wq at *
    go_wp2_with (at_builtin;refine app_i64 rfl _ _ rfl w.heap.size _ i _ rfl hown1 _ rfl ?_ (by omega) (by omega) ?_;rotate_left;intro v' w2 hown2 hb2)
    ·go_roundw
     case rel=>exact ⟨i+1,by go_num,by omega,hown2,by rw [HBB.out,HB1.out];rfl,hbr1.trans (hb2.mono (Nat.le_refl _))⟩
     case measure=>simp [intOf]<;>omega
    ·rw [HAA.out,hA.out]
  ·obtain rfl:i=dlen 10 m:=by omega
   have hlt':m-n<10 ^ dlen 10 m:=Nat.lt_of_le_of_lt (Nat.sub_le m n) (dlen_lt 10 m (by decide))
   have HT:=hid (trimmedD_own hown (by omega) hlt')
   clear hlt'
   go_wp2_with fail
   (with_reducible refine HT.out.mono ?_);rintro e w2 ⟨⟨v',rfl,hv'⟩,rfl⟩
   go_wp2
   go_ret
   exact ⟨_,rfl,hv',hbr⟩
end Go.Proofs.YtihdndaibmgoiaaGreatDoor
namespace Go.Proofs.YtihdndaibmgoiaaGreatDoor
open Go.RowKit
theorem dlen_add_le (m n:Nat):dlen 10 (m+n)≤max (dlen 10 m) (dlen 10 n)+1:=by
 rw [dlen_le_iff 10 _ _ (by decide),Nat.pow_succ]
 have h1:=Nat.lt_of_lt_of_le (dlen_lt 10 m (by decide)) (Nat.pow_le_pow_right (show 0<10 by decide) (Nat.le_max_left (dlen 10 m) (dlen 10 n)))
 have h2:=Nat.lt_of_lt_of_le (dlen_lt 10 n (by decide)) (Nat.pow_le_pow_right (show 0<10 by decide) (Nat.le_max_right (dlen 10 m) (dlen 10 n)))
 generalize 10 ^ max (dlen 10 m) (dlen 10 n)=X at *
 omega
def FreshN (n:Nat) (neg:Bool) (w:World) (e:Ending) (w':World):Prop:=∃ s,e=.returned (.agg #[.bool (neg && decide (0<n)),s])∧OwnDec w' w.heap.size s n∧Below w.heap.size w w'
set_option maxRecDepth 100000 in
set_option maxHeartbeats 4000000 in
theorem plusR_same {a1 a2:Option Addr} {c1 c2 m n:Nat} {w:World} (hs:DecRep w (.slice a1 (dlen 10 m) c1) m) (ht:DecRep w (.slice a2 (dlen 10 n) c2) n) (hm:dlen 10 m≤10000000) (hn:dlen 10 n≤10000000) (g1 g2:Bool) (hg:(g1 == g2)=true) :
  Calls Tryz.prog 67 #[.agg #[.bool g1,.slice a1 (dlen 10 m) c1],.agg #[.bool g2,.slice a2 (dlen 10 n) c2]] w (FreshN (m+n) g1 w):=by
 have k1:=Blk.new w #[.bool g1,.slice a1 (dlen 10 m) c1] 59
 have k2:=Blk.new (w.alloc (.cells #[.bool g1,.slice a1 (dlen 10 m) c1] 59)) #[.bool g2,.slice a2 (dlen 10 n) c2] 59
 have k3:=Blk.new ((w.alloc (.cells #[.bool g1,.slice a1 (dlen 10 m) c1] 59)).alloc (.cells #[.bool g2,.slice a2 (dlen 10 n) c2] 59)) #[.bool false,.slice none 0 0] 59
 simp only [World.size_alloc] at k2 k3
 have k1':=(k1.alloc (.cells #[.bool g2,.slice a2 (dlen 10 n) c2] 59)).alloc (.cells #[.bool false,.slice none 0 0] 59)
 have k2':=k2.alloc (.cells #[.bool false,.slice none 0 0] 59)
 have hb0:Below w.heap.size w (((w.alloc (.cells #[.bool g1,.slice a1 (dlen 10 m) c1] 59)).alloc (.cells #[.bool g2,.slice a2 (dlen 10 n) c2] 59)).alloc (.cells #[.bool false,.slice none 0 0] 59)):=(((Below.refl _ _).alloc (Nat.le_refl _) _).alloc (by simp) _).alloc (by simp;omega) _
 have hdr:dlen 10 (m+n)≤20000001:=by have:=dlen_add_le m n;omega
 go_enter Tryz.func67,Tryz.ntmps67
 go_wp2_with fail
 generalize ((w.alloc (.cells #[.bool g1,.slice a1 (dlen 10 m) c1] 59)).alloc (.cells #[.bool g2,.slice a2 (dlen 10 n) c2] 59)).alloc (.cells #[.bool false,.slice none 0 0] 59)=w0 at *
 clear k1 k2
 have hc1:=hid (plusD_fn (hs.below hb0.drew) (ht.below hb0.drew) (by omega) (by omega))
 have hsz0:=hb0.size
 have hsz3:=k3.lt
 refine U_begin (late:=fun i=>decide (8≤i)) (S:=fun u=>Blk u w.heap.size #[.bool g1,.slice a1 (dlen 10 m) c1] 59∧Blk u (w.heap.size+1) #[.bool g2,.slice a2 (dlen 10 n) c2] 59) (by kernel_rfl) ?_
 refine U_take (i:=0) (v:=.pointer (some ⟨w.heap.size,0,none⟩)) rfl (by kernel_rfl) (by kernel_rfl) (by kernel_rfl) (by kernel_rfl) (by kernel_rfl) (fun _ _ _ h=>h) (.inl ⟨rfl,fun u hu=>(by go_simp)⟩) ⟨k1'.drew,k2'.drew⟩ ?_
 refine U_take (i:=1) (v:=.bool g1) rfl (by kernel_rfl) (by kernel_rfl) (by kernel_rfl) (by kernel_rfl) (by kernel_rfl) (fun _ _ _ h=>h) (.inl ⟨rfl,fun u hu=>(by obtain ⟨⟨h1,h2⟩,_⟩:=hu.1.two;go_simp)⟩) ⟨k1'.drew,k2'.drew⟩ ?_
 refine U_take (i:=2) (v:=.pointer (some ⟨w.heap.size,1,none⟩)) rfl (by kernel_rfl) (by kernel_rfl) (by kernel_rfl) (by kernel_rfl) (by kernel_rfl) (fun _ _ _ h=>h) (.inl ⟨rfl,fun u hu=>(by go_simp)⟩) ⟨k1'.drew,k2'.drew⟩ ?_
 refine U_take (i:=3) (v:=.slice a1 (dlen 10 m) c1) rfl (by kernel_rfl) (by kernel_rfl) (by kernel_rfl) (by kernel_rfl) (by kernel_rfl) (fun _ _ _ h=>h) (.inl ⟨rfl,fun u hu=>(by obtain ⟨⟨h1,h2⟩,_⟩:=hu.1.two;go_simp)⟩) ⟨k1'.drew,k2'.drew⟩ ?_
 refine U_take (i:=4) (v:=.pointer (some ⟨w.heap.size+1,1,none⟩)) rfl (by kernel_rfl) (by kernel_rfl) (by kernel_rfl) (by kernel_rfl) (by kernel_rfl) (fun _ _ _ h=>h) (.inl ⟨rfl,fun u hu=>(by go_simp)⟩) ⟨k1'.drew,k2'.drew⟩ ?_
 refine U_take (i:=5) (v:=.slice a2 (dlen 10 n) c2) rfl (by kernel_rfl) (by kernel_rfl) (by kernel_rfl) (by kernel_rfl) (by kernel_rfl) (fun _ _ _ h=>h) (.inl ⟨rfl,fun u hu=>(by obtain ⟨⟨h1,h2⟩,_⟩:=hu.2.two;go_simp)⟩) ⟨k1'.drew,k2'.drew⟩ ?_
 refine U_step (j:=6) (by kernel_rfl) rfl (fun K hK=>?_)
 go_simp
 (with_reducible refine hc1.out.mono ?_);rintro e w1 ⟨r,rfl,hr,hb1⟩
 obtain ⟨ra,rc,rfl⟩:=hr.dec.shape
 have hc2:=hid (num_fn hr.dec (by have:=hdr;omega) g1)
 have k31:=k3.drew.later hb1
 refine hK.out _ _ (.inr ⟨k1'.drew.later hb1,k2'.drew.later hb1⟩) ?_
 clear hK K
 refine U_step (j:=7) (by kernel_rfl) rfl (fun K hK=>?_)
 go_simp
 (with_reducible refine hc2.out.mono ?_);rintro e w2 ⟨rfl,hb2⟩
 refine hK.out _ _ (.inr ⟨(k1'.drew.later hb1).later hb2,(k2'.drew.later hb1).later hb2⟩) ?_
 clear hK K
 obtain ⟨⟨r1,r2⟩,⟨s1,s2⟩⟩:=(k31.later hb2).two
 refine U_step (j:=8) (by kernel_rfl) rfl (fun K hK=>?_)
 go_simp
 refine hK.out _ _ (.inl rfl) ?_
 clear hK K
 refine U_done (by kernel_rfl) ?_ _
 go_wp2
 have hbE:Below w.heap.size w w2:=hb0.drew.trans ((hb1.mono hsz0).trans (hb2.mono (Nat.le_trans hsz0 hb1.size)))
 have hF:=own_set2 (Own.keep hr hb2 (Nat.le_refl _)) (b:=w.heap.size+1+1) (.bool (g1 && decide (0<m+n))) (.slice ra (dlen 10 (m+n)) rc) hsz3
 have hbF:=(hbE.setCell (p:=⟨w.heap.size+1+1,0,none⟩) (by simp;omega) (.bool (g1 && decide (0<m+n)))).setCell (p:=⟨w.heap.size+1+1,1,none⟩) (by simp;omega) (.slice ra (dlen 10 (m+n)) rc)
 exact bodyPost_ret (v:=.agg #[.bool (g1 && decide (0<m+n)),.slice ra (dlen 10 (m+n)) rc]) (by simp [results,Tryz.results67,go_sem,r1,r2]) rfl ⟨_,rfl,hF.mono hsz0,hbF⟩
set_option maxRecDepth 100000 in
set_option maxHeartbeats 4000000 in
theorem plusR_big {a1 a2:Option Addr} {c1 c2 m n:Nat} {w:World} (hs:DecRep w (.slice a1 (dlen 10 m) c1) m) (ht:DecRep w (.slice a2 (dlen 10 n) c2) n) (hm:dlen 10 m≤10000000) (hn:dlen 10 n≤10000000) (g1 g2:Bool) (hg:(g1 == g2)=false) (hle:n≤m) :
  Calls Tryz.prog 67 #[.agg #[.bool g1,.slice a1 (dlen 10 m) c1],.agg #[.bool g2,.slice a2 (dlen 10 n) c2]] w (FreshN (m-n) g1 w):=by
 have k1:=Blk.new w #[.bool g1,.slice a1 (dlen 10 m) c1] 59
 have k2:=Blk.new (w.alloc (.cells #[.bool g1,.slice a1 (dlen 10 m) c1] 59)) #[.bool g2,.slice a2 (dlen 10 n) c2] 59
 have k3:=Blk.new ((w.alloc (.cells #[.bool g1,.slice a1 (dlen 10 m) c1] 59)).alloc (.cells #[.bool g2,.slice a2 (dlen 10 n) c2] 59)) #[.bool false,.slice none 0 0] 59
 simp only [World.size_alloc] at k2 k3
 have k1':=(k1.alloc (.cells #[.bool g2,.slice a2 (dlen 10 n) c2] 59)).alloc (.cells #[.bool false,.slice none 0 0] 59)
 have k2':=k2.alloc (.cells #[.bool false,.slice none 0 0] 59)
 have hb0:Below w.heap.size w (((w.alloc (.cells #[.bool g1,.slice a1 (dlen 10 m) c1] 59)).alloc (.cells #[.bool g2,.slice a2 (dlen 10 n) c2] 59)).alloc (.cells #[.bool false,.slice none 0 0] 59)):=(((Below.refl _ _).alloc (Nat.le_refl _) _).alloc (by simp) _).alloc (by simp;omega) _
 have hdr:dlen 10 (m-n)≤20000001:=by have:=dlen_mono _ _ (Nat.sub_le m n);omega
 go_enter Tryz.func67,Tryz.ntmps67
 go_wp2_with fail
 generalize ((w.alloc (.cells #[.bool g1,.slice a1 (dlen 10 m) c1] 59)).alloc (.cells #[.bool g2,.slice a2 (dlen 10 n) c2] 59)).alloc (.cells #[.bool false,.slice none 0 0] 59)=w0 at *
 clear k1 k2
 have hord:=hid (order_fn (hs.below hb0) (ht.below hb0) (by omega) (by omega))
 have hord0:∃ C:Int,0≤C∧cmpN m n=C:=by
  unfold cmpN
  rw [if_neg (by omega)]
  split
  ·exact ⟨1,by decide,rfl⟩
  ·exact ⟨0,by decide,rfl⟩
 obtain ⟨C,hC0,hC⟩:=hord0
 rw [hC] at hord
 have hord:=hid hord.out
 have hle':=hid hle
 clear hC hle
 obtain ⟨⟨p1,p2⟩,_⟩:=k1'.two
 obtain ⟨⟨p3,p4⟩,_⟩:=k2'.two
 go_wp2_with fail
 (with_reducible refine hord.out.mono ?_);rintro e w' ⟨rfl,rfl⟩
 go_wp2_with fail
 clear p1 p2 p3 p4
 have hc1:=hid (minusD_fn (hs.below hb0.drew) (ht.below hb0.drew) (by omega) (by omega) hle'.out)
 have hsz0:=hb0.size
 have hsz3:=k3.lt
 refine U_begin (late:=fun i=>decide (8≤i)) (S:=fun u=>Blk u w.heap.size #[.bool g1,.slice a1 (dlen 10 m) c1] 59∧Blk u (w.heap.size+1) #[.bool g2,.slice a2 (dlen 10 n) c2] 59) (by kernel_rfl) ?_
 refine U_take (i:=0) (v:=.pointer (some ⟨w.heap.size,0,none⟩)) rfl (by kernel_rfl) (by kernel_rfl) (by kernel_rfl) (by kernel_rfl) (by kernel_rfl) (fun _ _ _ h=>h) (.inl ⟨rfl,fun u hu=>(by go_simp)⟩) ⟨k1'.drew,k2'.drew⟩ ?_
 refine U_take (i:=1) (v:=.bool g1) rfl (by kernel_rfl) (by kernel_rfl) (by kernel_rfl) (by kernel_rfl) (by kernel_rfl) (fun _ _ _ h=>h) (.inl ⟨rfl,fun u hu=>(by obtain ⟨⟨h1,h2⟩,_⟩:=hu.1.two;go_simp)⟩) ⟨k1'.drew,k2'.drew⟩ ?_
 refine U_take (i:=2) (v:=.pointer (some ⟨w.heap.size,1,none⟩)) rfl (by kernel_rfl) (by kernel_rfl) (by kernel_rfl) (by kernel_rfl) (by kernel_rfl) (fun _ _ _ h=>h) (.inl ⟨rfl,fun u hu=>(by go_simp)⟩) ⟨k1'.drew,k2'.drew⟩ ?_
 refine U_take (i:=3) (v:=.slice a1 (dlen 10 m) c1) rfl (by kernel_rfl) (by kernel_rfl) (by kernel_rfl) (by kernel_rfl) (by kernel_rfl) (fun _ _ _ h=>h) (.inl ⟨rfl,fun u hu=>(by obtain ⟨⟨h1,h2⟩,_⟩:=hu.1.two;go_simp)⟩) ⟨k1'.drew,k2'.drew⟩ ?_
 refine U_take (i:=4) (v:=.pointer (some ⟨w.heap.size+1,1,none⟩)) rfl (by kernel_rfl) (by kernel_rfl) (by kernel_rfl) (by kernel_rfl) (by kernel_rfl) (fun _ _ _ h=>h) (.inl ⟨rfl,fun u hu=>(by go_simp)⟩) ⟨k1'.drew,k2'.drew⟩ ?_
 refine U_take (i:=5) (v:=.slice a2 (dlen 10 n) c2) rfl (by kernel_rfl) (by kernel_rfl) (by kernel_rfl) (by kernel_rfl) (by kernel_rfl) (fun _ _ _ h=>h) (.inl ⟨rfl,fun u hu=>(by obtain ⟨⟨h1,h2⟩,_⟩:=hu.2.two;go_simp)⟩) ⟨k1'.drew,k2'.drew⟩ ?_
 refine U_step (j:=6) (by kernel_rfl) rfl (fun K hK=>?_)
 go_simp
 (with_reducible refine hc1.out.mono ?_);rintro e w1 ⟨r,rfl,hr,hb1⟩
 obtain ⟨ra,rc,rfl⟩:=hr.dec.shape
 have hc2:=hid (num_fn hr.dec (by have:=hdr;omega) g1)
 have k31:=k3.drew.later hb1
 refine hK.out _ _ (.inr ⟨k1'.drew.later hb1,k2'.drew.later hb1⟩) ?_
 clear hK K
 refine U_step (j:=7) (by kernel_rfl) rfl (fun K hK=>?_)
 go_simp
 (with_reducible refine hc2.out.mono ?_);rintro e w2 ⟨rfl,hb2⟩
 refine hK.out _ _ (.inr ⟨(k1'.drew.later hb1).later hb2,(k2'.drew.later hb1).later hb2⟩) ?_
 clear hK K
 obtain ⟨⟨r1,r2⟩,⟨s1,s2⟩⟩:=(k31.later hb2).two
 refine U_step (j:=8) (by kernel_rfl) rfl (fun K hK=>?_)
 go_simp
 refine hK.out _ _ (.inl rfl) ?_
 clear hK K
 refine U_done (by kernel_rfl) ?_ _
 go_wp2
 have hbE:Below w.heap.size w w2:=hb0.drew.trans ((hb1.mono hsz0).trans (hb2.mono (Nat.le_trans hsz0 hb1.size)))
 have hF:=own_set2 (Own.keep hr hb2 (Nat.le_refl _)) (b:=w.heap.size+1+1) (.bool (g1 && decide (0<m-n))) (.slice ra (dlen 10 (m-n)) rc) hsz3
 have hbF:=(hbE.setCell (p:=⟨w.heap.size+1+1,0,none⟩) (by simp;omega) (.bool (g1 && decide (0<m-n)))).setCell (p:=⟨w.heap.size+1+1,1,none⟩) (by simp;omega) (.slice ra (dlen 10 (m-n)) rc)
 exact bodyPost_ret (v:=.agg #[.bool (g1 && decide (0<m-n)),.slice ra (dlen 10 (m-n)) rc]) (by simp [results,Tryz.results67,go_sem,r1,r2]) rfl ⟨_,rfl,hF.mono hsz0,hbF⟩
set_option maxRecDepth 100000 in
set_option maxHeartbeats 4000000 in
theorem plusR_less {a1 a2:Option Addr} {c1 c2 m n:Nat} {w:World} (hs:DecRep w (.slice a1 (dlen 10 m) c1) m) (ht:DecRep w (.slice a2 (dlen 10 n) c2) n) (hm:dlen 10 m≤10000000) (hn:dlen 10 n≤10000000) (g1 g2:Bool) (hg:(g1 == g2)=false) (hlt:m<n) :
  Calls Tryz.prog 67 #[.agg #[.bool g1,.slice a1 (dlen 10 m) c1],.agg #[.bool g2,.slice a2 (dlen 10 n) c2]] w (FreshN (n-m) g2 w):=by
 have k1:=Blk.new w #[.bool g1,.slice a1 (dlen 10 m) c1] 59
 have k2:=Blk.new (w.alloc (.cells #[.bool g1,.slice a1 (dlen 10 m) c1] 59)) #[.bool g2,.slice a2 (dlen 10 n) c2] 59
 have k3:=Blk.new ((w.alloc (.cells #[.bool g1,.slice a1 (dlen 10 m) c1] 59)).alloc (.cells #[.bool g2,.slice a2 (dlen 10 n) c2] 59)) #[.bool false,.slice none 0 0] 59
 simp only [World.size_alloc] at k2 k3
 have k1':=(k1.alloc (.cells #[.bool g2,.slice a2 (dlen 10 n) c2] 59)).alloc (.cells #[.bool false,.slice none 0 0] 59)
 have k2':=k2.alloc (.cells #[.bool false,.slice none 0 0] 59)
 have hb0:Below w.heap.size w (((w.alloc (.cells #[.bool g1,.slice a1 (dlen 10 m) c1] 59)).alloc (.cells #[.bool g2,.slice a2 (dlen 10 n) c2] 59)).alloc (.cells #[.bool false,.slice none 0 0] 59)):=(((Below.refl _ _).alloc (Nat.le_refl _) _).alloc (by simp) _).alloc (by simp;omega) _
 have hdr:dlen 10 (n-m)≤20000001:=by have:=dlen_mono _ _ (Nat.sub_le n m);omega
 go_enter Tryz.func67,Tryz.ntmps67
 go_wp2_with fail
 generalize ((w.alloc (.cells #[.bool g1,.slice a1 (dlen 10 m) c1] 59)).alloc (.cells #[.bool g2,.slice a2 (dlen 10 n) c2] 59)).alloc (.cells #[.bool false,.slice none 0 0] 59)=w0 at *
 clear k1 k2
 have hord:=hid (order_fn (hs.below hb0) (ht.below hb0) (by omega) (by omega))
 have hC:cmpN m n = -1:=by unfold cmpN;rw [if_pos hlt]
 rw [hC] at hord
 have hord:=hid hord.out
 have hle':=hid hlt
 clear hC hlt
 obtain ⟨⟨p1,p2⟩,_⟩:=k1'.two
 obtain ⟨⟨p3,p4⟩,_⟩:=k2'.two
 go_wp2_with fail
 (with_reducible refine hord.out.mono ?_);rintro e w' ⟨rfl,rfl⟩
 go_wp2_with fail
 clear p1 p2 p3 p4
 have hc1:=hid (minusD_fn (ht.below hb0.drew) (hs.below hb0.drew) (by omega) (by omega) (Nat.le_of_lt hle'.out))
 have hsz0:=hb0.size
 have hsz3:=k3.lt
 refine U_begin (late:=fun i=>decide (8≤i)) (S:=fun u=>Blk u w.heap.size #[.bool g1,.slice a1 (dlen 10 m) c1] 59∧Blk u (w.heap.size+1) #[.bool g2,.slice a2 (dlen 10 n) c2] 59) (by kernel_rfl) ?_
 refine U_take (i:=0) (v:=.pointer (some ⟨w.heap.size+1,0,none⟩)) rfl (by kernel_rfl) (by kernel_rfl) (by kernel_rfl) (by kernel_rfl) (by kernel_rfl) (fun _ _ _ h=>h) (.inl ⟨rfl,fun u hu=>(by go_simp)⟩) ⟨k1'.drew,k2'.drew⟩ ?_
 refine U_take (i:=1) (v:=.bool g2) rfl (by kernel_rfl) (by kernel_rfl) (by kernel_rfl) (by kernel_rfl) (by kernel_rfl) (fun _ _ _ h=>h) (.inl ⟨rfl,fun u hu=>(by obtain ⟨⟨h1,h2⟩,_⟩:=hu.2.two;go_simp)⟩) ⟨k1'.drew,k2'.drew⟩ ?_
 refine U_take (i:=2) (v:=.pointer (some ⟨w.heap.size+1,1,none⟩)) rfl (by kernel_rfl) (by kernel_rfl) (by kernel_rfl) (by kernel_rfl) (by kernel_rfl) (fun _ _ _ h=>h) (.inl ⟨rfl,fun u hu=>(by go_simp)⟩) ⟨k1'.drew,k2'.drew⟩ ?_
 refine U_take (i:=3) (v:=.slice a2 (dlen 10 n) c2) rfl (by kernel_rfl) (by kernel_rfl) (by kernel_rfl) (by kernel_rfl) (by kernel_rfl) (fun _ _ _ h=>h) (.inl ⟨rfl,fun u hu=>(by obtain ⟨⟨h1,h2⟩,_⟩:=hu.2.two;go_simp)⟩) ⟨k1'.drew,k2'.drew⟩ ?_
 refine U_take (i:=4) (v:=.pointer (some ⟨w.heap.size,1,none⟩)) rfl (by kernel_rfl) (by kernel_rfl) (by kernel_rfl) (by kernel_rfl) (by kernel_rfl) (fun _ _ _ h=>h) (.inl ⟨rfl,fun u hu=>(by go_simp)⟩) ⟨k1'.drew,k2'.drew⟩ ?_
 refine U_take (i:=5) (v:=.slice a1 (dlen 10 m) c1) rfl (by kernel_rfl) (by kernel_rfl) (by kernel_rfl) (by kernel_rfl) (by kernel_rfl) (fun _ _ _ h=>h) (.inl ⟨rfl,fun u hu=>(by obtain ⟨⟨h1,h2⟩,_⟩:=hu.1.two;go_simp)⟩) ⟨k1'.drew,k2'.drew⟩ ?_
 refine U_step (j:=6) (by kernel_rfl) rfl (fun K hK=>?_)
 go_simp
 (with_reducible refine hc1.out.mono ?_);rintro e w1 ⟨r,rfl,hr,hb1⟩
 obtain ⟨ra,rc,rfl⟩:=hr.dec.shape
 have hc2:=hid (num_fn hr.dec (by have:=hdr;omega) g2)
 have k31:=k3.drew.later hb1
 refine hK.out _ _ (.inr ⟨k1'.drew.later hb1,k2'.drew.later hb1⟩) ?_
 clear hK K
 refine U_step (j:=7) (by kernel_rfl) rfl (fun K hK=>?_)
 go_simp
 (with_reducible refine hc2.out.mono ?_);rintro e w2 ⟨rfl,hb2⟩
 refine hK.out _ _ (.inr ⟨(k1'.drew.later hb1).later hb2,(k2'.drew.later hb1).later hb2⟩) ?_
 clear hK K
 obtain ⟨⟨r1,r2⟩,⟨s1,s2⟩⟩:=(k31.later hb2).two
 refine U_step (j:=8) (by kernel_rfl) rfl (fun K hK=>?_)
 go_simp
 refine hK.out _ _ (.inl rfl) ?_
 clear hK K
 refine U_done (by kernel_rfl) ?_ _
 go_wp2
 have hbE:Below w.heap.size w w2:=hb0.drew.trans ((hb1.mono hsz0).trans (hb2.mono (Nat.le_trans hsz0 hb1.size)))
 have hF:=own_set2 (Own.keep hr hb2 (Nat.le_refl _)) (b:=w.heap.size+1+1) (.bool (g2 && decide (0<n-m))) (.slice ra (dlen 10 (n-m)) rc) hsz3
 have hbF:=(hbE.setCell (p:=⟨w.heap.size+1+1,0,none⟩) (by simp;omega) (.bool (g2 && decide (0<n-m)))).setCell (p:=⟨w.heap.size+1+1,1,none⟩) (by simp;omega) (.slice ra (dlen 10 (n-m)) rc)
 exact bodyPost_ret (v:=.agg #[.bool (g2 && decide (0<n-m)),.slice ra (dlen 10 (n-m)) rc]) (by simp [results,Tryz.results67,go_sem,r1,r2]) rfl ⟨_,rfl,hF.mono hsz0,hbF⟩
theorem FreshN.dnum {n:Nat} {neg:Bool} {z:Int} {w:World} {e:Ending} {w':World} (h:FreshN n neg w e w') (hn:n=z.natAbs) (hb:(neg && decide (0<n))=decide (z<0)):∃ v,e=.returned v∧OwnDNum w' w.heap.size v z∧Below w.heap.size w w':=by
 obtain ⟨s,rfl,hr,hbl⟩:=h
 subst hn
 exact ⟨_,rfl,⟨s,by rw [hb],hr⟩,hbl⟩
def FreshD (z:Int) (w:World) (e:Ending) (w':World):Prop:=∃ v,e=.returned v∧OwnDNum w' w.heap.size v z∧Below w.heap.size w w'
theorem plusR_fn {v u:Value} {a b:Int} {w:World} (hv:DNum w v a) (hu:DNum w u b) (hla:dlen 10 a.natAbs≤10000000) (hlb:dlen 10 b.natAbs≤10000000):Calls Tryz.prog 67 #[v,u] w (FreshD (a+b) w):=by
 obtain ⟨a1,c1,rfl,hs⟩:=hv.shape
 obtain ⟨a2,c2,rfl,ht⟩:=hu.shape
 by_cases hsg:(decide (a<0) == decide (b<0))=true
 ·refine (plusR_same hs ht hla hlb _ _ hsg).mono fun e w' h=>h.dnum ?_ ?_
  ·have:(a<0)↔(b<0):=by simpa using hsg
   omega
  ·have:(a<0)↔(b<0):=by simpa using hsg
   by_cases ha:a<0
   ·have hb:=this.1 ha
    rw [decide_eq_true ha,decide_eq_true (show a+b<0 by omega)]
    simp;omega
   ·have hb:¬ b<0:=fun hh=>ha (this.2 hh)
    rw [decide_eq_false ha,decide_eq_false (show ¬ a+b<0 by omega)]
    rfl
 ·have hsg':(decide (a<0) == decide (b<0))=false:=by simpa using hsg
  have hne:¬ ((a<0)↔(b<0)):=by simpa using hsg
  by_cases hc:b.natAbs≤a.natAbs
  ·refine (plusR_big hs ht hla hlb _ _ hsg' hc).mono fun e w' h=>h.dnum (by omega) ?_
   by_cases ha:a<0
   ·rw [decide_eq_true ha]
    by_cases h0:a+b<0
    ·rw [decide_eq_true h0,decide_eq_true (by omega)];rfl
    ·rw [decide_eq_false h0,decide_eq_false (by omega)];rfl
   ·rw [decide_eq_false ha,decide_eq_false (show ¬ a+b<0 by omega)]
    rfl
  ·refine (plusR_less hs ht hla hlb _ _ hsg' (by omega)).mono fun e w' h=>h.dnum (by omega) ?_
   by_cases hb:b<0
   ·rw [decide_eq_true hb]
    by_cases h0:a+b<0
    ·rw [decide_eq_true h0,decide_eq_true (by omega)];rfl
    ·rw [decide_eq_false h0,decide_eq_false (by omega)];rfl
   ·rw [decide_eq_false hb,decide_eq_false (show ¬ a+b<0 by omega)]
    rfl
end Go.Proofs.YtihdndaibmgoiaaGreatDoor
namespace Go.Proofs.YtihdndaibmgoiaaGreatDoor
open Go.RowKit
theorem opp_sign (z:Int):(!decide (z<0) && decide (0<z.natAbs))=decide (-z<0):=by
 by_cases h1:z<0
 ·rw [decide_eq_true h1,decide_eq_false (show ¬ -z<0 by omega)];rfl
 ·by_cases h2:z=0
  ·subst h2;rfl
  ·rw [decide_eq_false h1,decide_eq_true (show 0<z.natAbs by omega),decide_eq_true (show -z<0 by omega)];rfl
theorem DNum.shape4 {w:World} {v:Value} {z:Int} (h:DNum w v z):∃ g a n c,v=.agg #[.bool g,.slice a n c]:=by
 obtain ⟨a,c,rfl,_⟩:=h.shape
 exact ⟨_,_,_,_,rfl⟩
theorem DNum.parts {w:World} {g:Bool} {a:Option Addr} {n c:Nat} {z:Int} (h:DNum w (.agg #[.bool g,.slice a n c]) z):g=decide (z<0)∧n=dlen 10 z.natAbs:=by
 obtain ⟨a',c',he,_⟩:=h.shape
 simp only [Value.agg.injEq,Array.mk.injEq,List.cons.injEq,Value.bool.injEq,Value.slice.injEq,and_true] at he
 exact ⟨he.1,he.2.2.1⟩
def RetD (z:Int) (w:World) (e:Ending) (w':World):Prop:=∃ v,e=.returned v∧DNum w' v z∧Below w.heap.size w w'
set_option maxRecDepth 100000 in
set_option maxHeartbeats 4000000 in
theorem oppR_fn {v:Value} {z:Int} {w:World} (h:DNum w v z) (hl:dlen 10 z.natAbs≤100000000):Calls Tryz.prog 68 #[v] w (RetD (-z) w):=by
 obtain ⟨a,cap,rfl,hd⟩:=h.shape
 have HS:=hid (opp_sign z)
 generalize hneg:decide (z<0)=neg at *
 clear hneg
 have k1:=Blk.new w #[.bool neg,.slice a (dlen 10 z.natAbs) cap] 59
 have k2:=Blk.new (w.alloc (.cells #[.bool neg,.slice a (dlen 10 z.natAbs) cap] 59)) #[.bool false,.slice none 0 0] 59
 simp only [World.size_alloc] at k2
 have k1':=k1.alloc (.cells #[.bool false,.slice none 0 0] 59)
 have hb0:Below w.heap.size w ((w.alloc (.cells #[.bool neg,.slice a (dlen 10 z.natAbs) cap] 59)).alloc (.cells #[.bool false,.slice none 0 0] 59)):=((Below.refl _ _).alloc (Nat.le_refl _) _).alloc (by simp) _
 have hc:=hid (num_fn (hd.below hb0) (by omega) (!neg))
 generalize hG:(!neg && decide (0<z.natAbs))=G at *
 have hdn:=hid (show z.natAbs=(-z).natAbs from (Int.natAbs_neg z).symm)
 clear hG
 go_enter Tryz.func68,Tryz.ntmps68
 go_wp2_with fail
 generalize (w.alloc (.cells #[.bool neg,.slice a (dlen 10 z.natAbs) cap] 59)).alloc (.cells #[.bool false,.slice none 0 0] 59)=w0 at *
 obtain ⟨⟨p1,p2⟩,_⟩:=k1'.two
 go_wp2_with fail
 (with_reducible refine hc.out.mono ?_);rintro e w1 ⟨rfl,hb1⟩
 obtain ⟨⟨r1,r2⟩,⟨s1,s2⟩⟩:=(k2.later hb1).two
 have hsz0:=hb0.size
 have hsz1:=hb1.size
 have hbE:=hb0.trans (hb1.mono hsz0)
 have hbF:=(hbE.setCell (p:=⟨w.heap.size+1,0,none⟩) (by simp) (.bool G)).setCell (p:=⟨w.heap.size+1,1,none⟩) (by simp) (.slice a (dlen 10 z.natAbs) cap)
 go_wp2
 refine bodyPost_ret (v:=.agg #[.bool G,.slice a (dlen 10 z.natAbs) cap]) (by simp [results,Tryz.results68,go_sem,r1,r2]) rfl ⟨_,rfl,⟨_,by rw [HS.out],?_⟩,hbF⟩
 rw [Int.natAbs_neg]
 exact hd.below hbF
def cmpI (a b:Int):Int:=if a<b then -1 else if b<a then 1 else 0
theorem Blk.set2 {w:World} {b:Nat} {x y:Value} {t:TypeId} (h:Blk w b #[x,y] t) (x' y':Value):Blk ((w.setCell ⟨b,0,none⟩ x').setCell ⟨b,1,none⟩ y') b #[x',y'] t:=by
 have h0:w.heap[b]? = _:=h
 have h1:=heap_setCell_same w b 0 _ t x' h0
 have h2:=heap_setCell_same _ b 1 _ t y' h1
 exact h2
set_option maxRecDepth 100000 in
set_option maxHeartbeats 4000000 in
theorem orderR_fn {v u:Value} {a b:Int} {w:World} (hv:DNum w v a) (hu:DNum w u b) (hla:dlen 10 a.natAbs≤10000000) (hlb:dlen 10 b.natAbs≤10000000) :
  Calls Tryz.prog 66 #[v,u] w fun e w'=>e=.returned (.int .i64 (cmpI a b))∧Below w.heap.size w w':=by
 obtain ⟨a1,c1,rfl,hs⟩:=hv.shape
 obtain ⟨a2,c2,rfl,ht⟩:=hu.shape
 generalize hx1:decide (a<0)=g1 at *
 generalize hx2:decide (b<0)=g2 at *
 clear hx1 hx2
 have k1:=Blk.new w #[.bool g1,.slice a1 (dlen 10 a.natAbs) c1] 59
 have k2:=Blk.new (w.alloc (.cells #[.bool g1,.slice a1 (dlen 10 a.natAbs) c1] 59)) #[.bool g2,.slice a2 (dlen 10 b.natAbs) c2] 59
 simp only [World.size_alloc] at k2
 have k1':=k1.alloc (.cells #[.bool g2,.slice a2 (dlen 10 b.natAbs) c2] 59)
 have hb0:Below w.heap.size w ((w.alloc (.cells #[.bool g1,.slice a1 (dlen 10 a.natAbs) c1] 59)).alloc (.cells #[.bool g2,.slice a2 (dlen 10 b.natAbs) c2] 59)):=((Below.refl _ _).alloc (Nat.le_refl _) _).alloc (by simp) _
 go_enter Tryz.func66,Tryz.ntmps66
 go_wp2_with fail
 generalize (w.alloc (.cells #[.bool g1,.slice a1 (dlen 10 a.natAbs) c1] 59)).alloc (.cells #[.bool g2,.slice a2 (dlen 10 b.natAbs) c2] 59)=w0 at *
 clear k1
 have hv:=hv.below hb0.drew
 have hu:=hu.below hb0.drew
 have kA:=k1'.drew
 have kB:=k2.drew
 have hb:=hb0.drew
 refine U_begin (late:=fun i=>decide (5≤i)) (S:=fun u=>Blk u w.heap.size #[.bool g1,.slice a1 (dlen 10 a.natAbs) c1] 59∧Blk u (w.heap.size+1) #[.bool g2,.slice a2 (dlen 10 b.natAbs) c2] 59) (by kernel_rfl) ?_
 generalize w0.drew=wd at *
 clear k1' k2 hb0
 refine U_take (i:=0) (v:=.agg #[.bool g1,.slice a1 (dlen 10 a.natAbs) c1]) rfl (by kernel_rfl) (by kernel_rfl) (by kernel_rfl) (by kernel_rfl) (by kernel_rfl) (fun _ _ _ h=>h) (.inl ⟨rfl,fun u hu=>(by obtain ⟨⟨h1,h2⟩,_⟩:=hu.1.two;go_simp)⟩) ⟨kA,kB⟩ ?_
 refine U_take (i:=1) (v:=.agg #[.bool g2,.slice a2 (dlen 10 b.natAbs) c2]) rfl (by kernel_rfl) (by kernel_rfl) (by kernel_rfl) (by kernel_rfl) (by kernel_rfl) (fun _ _ _ h=>h) (.inl ⟨rfl,fun u hu=>(by obtain ⟨⟨h1,h2⟩,_⟩:=hu.2.two;go_simp)⟩) ⟨kA,kB⟩ ?_
 refine U_two (j1:=2) (j2:=4) (by kernel_rfl) rfl rfl (fun K hK=>?_) (fun K hK=>?_)
 ·go_simp
  have hc:=hid (oppR_fn hu (by omega))
  (with_reducible refine hc.out.mono ?_);rintro e w1 ⟨r,rfl,hr,gg⟩
  clear hc
  have hb:=hb.trans (gg.mono hb.size)
  have kA:=kA.later gg
  have kB:=kB.later gg
  have hv:=hv.below gg
  have hu:=hu.below gg
  clear gg
  obtain ⟨rg,ra,rn,rc,rfl⟩:=hr.shape4
  refine hK.out _ _ (.inr ⟨kA,kB⟩) ?_
  clear hK K
  refine U_two (j1:=3) (j2:=4) (by kernel_rfl) rfl rfl (fun K hK=>?_) (fun K hK=>?_)
  ·go_simp
   have hc:=hid (plusR_fn hv hr (by omega) (by rw [Int.natAbs_neg];omega))
   (with_reducible refine hc.out.mono ?_);rintro e w2 ⟨q,rfl,hq,gg⟩
   clear hc
   have hq:=hq.num
   have hb:=hb.trans (gg.mono hb.size)
   have kA:=kA.later gg
   have kB:=kB.later gg
   have hv:=hv.below gg
   have hu:=hu.below gg
   have hr:=hr.below gg
   clear gg
   obtain ⟨qg,qa,qn,qc,rfl⟩:=hq.shape4
   have HQ:=hid hq.parts
   refine hK.out _ _ (.inr ⟨kA,kB⟩) ?_
   clear hK K
   refine U_step (j:=4) (by kernel_rfl) rfl (fun K hK=>?_)
   go_simp
   have hbase:=hb.size
   have gg:Below w2.heap.size w2 (w2.alloc (.cells #[.bool false,.slice none 0 0] 59)):=(Below.refl _ _).alloc (Nat.le_refl _) _
   have k5:=Blk.new w2 #[.bool false,.slice none 0 0] 59
   have hb:=hb.trans (gg.mono hb.size)
   have kA:=kA.later gg
   have kB:=kB.later gg
   have hv:=hv.below gg
   have hu:=hu.below gg
   have hr:=hr.below gg
   have hq:=hq.below gg
   clear gg
   refine hK.out _ _ (.inr ⟨kA,kB⟩) ?_
   clear hK K
   have hA:w.heap.size≤w2.heap.size:=hbase
   generalize hB5:w2.heap.size=B5 at *
   clear hB5
   generalize w2.alloc (.cells #[.bool false,.slice none 0 0] 59)=w3 at *
   refine U_step (j:=5) (by kernel_rfl) rfl (fun K hK=>?_)
   go_simp
   obtain ⟨⟨r1,r2⟩,⟨s1,s2⟩⟩:=k5.two
   go_simp
   refine hK.out _ _ (.inl rfl) ?_
   clear hK K
   refine U_done (by kernel_rfl) ?_ _
   have k5:=k5.set2 (.bool qg) (.slice qa qn qc)
   have hb:=(hb.setCell (p:=⟨B5,0,none⟩) hA (.bool qg)).setCell (p:=⟨B5,1,none⟩) hA (.slice qa qn qc)
   generalize ((w3.setCell ⟨B5,0,none⟩ (.bool qg)).setCell ⟨B5,1,none⟩ (.slice qa qn qc))=wz at *
   clear r1 r2 s1 s2 kA kB hv hu hr hq
   obtain ⟨⟨r1,r2⟩,⟨s1,s2⟩⟩:=k5.two
   rcases Int.lt_trichotomy a b with hab | hab | hab
   ·have HC:=hid (show cmpI a b = -1 by unfold cmpI;rw [if_pos hab])
    have hd:qg=true:=HQ.out.1.trans (decide_eq_true (by omega))
    clear HQ
    subst hd
    go_wp2
    go_ret
    exact ⟨by rw [HC.out];rfl,hb⟩
   ·have HC:=hid (show cmpI a b=0 by unfold cmpI;rw [if_neg (by omega),if_neg (by omega)])
    have hd:qg=false:=HQ.out.1.trans (decide_eq_false (by omega))
    have hz:qn=0:=HQ.out.2.trans ((dlen_zero_iff 10 _ (by decide)).2 (by omega))
    clear HQ
    subst hd
    subst hz
    go_wp2
    go_ret
    exact ⟨by rw [HC.out];rfl,hb⟩
   ·have HC:=hid (show cmpI a b=1 by unfold cmpI;rw [if_neg (by omega),if_pos hab])
    have hd:qg=false:=HQ.out.1.trans (decide_eq_false (by omega))
    have hz:0<qn:=by rw [HQ.out.2];exact (dlen_pos_iff _).2 (by omega)
    clear HQ
    subst hd
    go_wp2
    go_ret
    exact ⟨by rw [HC.out];rfl,hb⟩
  ·go_simp
   have hbase:=hb.size
   have gg:Below w1.heap.size w1 (w1.alloc (.cells #[.bool false,.slice none 0 0] 59)):=(Below.refl _ _).alloc (Nat.le_refl _) _
   have k5:=Blk.new w1 #[.bool false,.slice none 0 0] 59
   have hb:=hb.trans (gg.mono hb.size)
   have kA:=kA.later gg
   have kB:=kB.later gg
   have hv:=hv.below gg
   have hu:=hu.below gg
   have hr:=hr.below gg
   clear gg
   refine hK.out _ _ (.inr ⟨kA,kB⟩) ?_
   clear hK K
   have hA:w.heap.size≤w1.heap.size:=hbase
   generalize hB5:w1.heap.size=B5 at *
   clear hB5
   generalize w1.alloc (.cells #[.bool false,.slice none 0 0] 59)=w2 at *
   refine U_step (j:=3) (by kernel_rfl) rfl (fun K hK=>?_)
   go_simp
   have hc:=hid (plusR_fn hv hr (by omega) (by rw [Int.natAbs_neg];omega))
   (with_reducible refine hc.out.mono ?_);rintro e w3 ⟨q,rfl,hq,gg⟩
   clear hc
   have hq:=hq.num
   have hb:=hb.trans (gg.mono hb.size)
   have kA:=kA.later gg
   have kB:=kB.later gg
   have hv:=hv.below gg
   have hu:=hu.below gg
   have k5:=k5.later gg
   have hr:=hr.below gg
   clear gg
   obtain ⟨qg,qa,qn,qc,rfl⟩:=hq.shape4
   have HQ:=hid hq.parts
   refine hK.out _ _ (.inr ⟨kA,kB⟩) ?_
   clear hK K
   refine U_step (j:=5) (by kernel_rfl) rfl (fun K hK=>?_)
   go_simp
   obtain ⟨⟨r1,r2⟩,⟨s1,s2⟩⟩:=k5.two
   go_simp
   refine hK.out _ _ (.inl rfl) ?_
   clear hK K
   refine U_done (by kernel_rfl) ?_ _
   have k5:=k5.set2 (.bool qg) (.slice qa qn qc)
   have hb:=(hb.setCell (p:=⟨B5,0,none⟩) hA (.bool qg)).setCell (p:=⟨B5,1,none⟩) hA (.slice qa qn qc)
   generalize ((w3.setCell ⟨B5,0,none⟩ (.bool qg)).setCell ⟨B5,1,none⟩ (.slice qa qn qc))=wz at *
   clear r1 r2 s1 s2 kA kB hv hu hr hq
   obtain ⟨⟨r1,r2⟩,⟨s1,s2⟩⟩:=k5.two
   rcases Int.lt_trichotomy a b with hab | hab | hab
   ·have HC:=hid (show cmpI a b = -1 by unfold cmpI;rw [if_pos hab])
    have hd:qg=true:=HQ.out.1.trans (decide_eq_true (by omega))
    clear HQ
    subst hd
    go_wp2
    go_ret
    exact ⟨by rw [HC.out];rfl,hb⟩
   ·have HC:=hid (show cmpI a b=0 by unfold cmpI;rw [if_neg (by omega),if_neg (by omega)])
    have hd:qg=false:=HQ.out.1.trans (decide_eq_false (by omega))
    have hz:qn=0:=HQ.out.2.trans ((dlen_zero_iff 10 _ (by decide)).2 (by omega))
    clear HQ
    subst hd
    subst hz
    go_wp2
    go_ret
    exact ⟨by rw [HC.out];rfl,hb⟩
   ·have HC:=hid (show cmpI a b=1 by unfold cmpI;rw [if_neg (by omega),if_pos hab])
    have hd:qg=false:=HQ.out.1.trans (decide_eq_false (by omega))
    have hz:0<qn:=by rw [HQ.out.2];exact (dlen_pos_iff _).2 (by omega)
    clear HQ
    subst hd
    go_wp2
    go_ret
    exact ⟨by rw [HC.out];rfl,hb⟩
 ·go_simp
  have hbase:=hb.size
  have gg:Below wd.heap.size wd (wd.alloc (.cells #[.bool false,.slice none 0 0] 59)):=(Below.refl _ _).alloc (Nat.le_refl _) _
  have k5:=Blk.new wd #[.bool false,.slice none 0 0] 59
  have hb:=hb.trans (gg.mono hb.size)
  have kA:=kA.later gg
  have kB:=kB.later gg
  have hv:=hv.below gg
  have hu:=hu.below gg
  clear gg
  refine hK.out _ _ (.inr ⟨kA,kB⟩) ?_
  clear hK K
  have hA:w.heap.size≤wd.heap.size:=hbase
  generalize hB5:wd.heap.size=B5 at *
  clear hB5
  generalize wd.alloc (.cells #[.bool false,.slice none 0 0] 59)=w1 at *
  refine U_step (j:=2) (by kernel_rfl) rfl (fun K hK=>?_)
  go_simp
  have hc:=hid (oppR_fn hu (by omega))
  (with_reducible refine hc.out.mono ?_);rintro e w2 ⟨r,rfl,hr,gg⟩
  clear hc
  have hb:=hb.trans (gg.mono hb.size)
  have kA:=kA.later gg
  have kB:=kB.later gg
  have hv:=hv.below gg
  have hu:=hu.below gg
  have k5:=k5.later gg
  clear gg
  obtain ⟨rg,ra,rn,rc,rfl⟩:=hr.shape4
  refine hK.out _ _ (.inr ⟨kA,kB⟩) ?_
  clear hK K
  refine U_step (j:=3) (by kernel_rfl) rfl (fun K hK=>?_)
  go_simp
  have hc:=hid (plusR_fn hv hr (by omega) (by rw [Int.natAbs_neg];omega))
  (with_reducible refine hc.out.mono ?_);rintro e w3 ⟨q,rfl,hq,gg⟩
  clear hc
  have hq:=hq.num
  have hb:=hb.trans (gg.mono hb.size)
  have kA:=kA.later gg
  have kB:=kB.later gg
  have hv:=hv.below gg
  have hu:=hu.below gg
  have k5:=k5.later gg
  have hr:=hr.below gg
  clear gg
  obtain ⟨qg,qa,qn,qc,rfl⟩:=hq.shape4
  have HQ:=hid hq.parts
  refine hK.out _ _ (.inr ⟨kA,kB⟩) ?_
  clear hK K
  refine U_step (j:=5) (by kernel_rfl) rfl (fun K hK=>?_)
  go_simp
  obtain ⟨⟨r1,r2⟩,⟨s1,s2⟩⟩:=k5.two
  go_simp
  refine hK.out _ _ (.inl rfl) ?_
  clear hK K
  refine U_done (by kernel_rfl) ?_ _
  have k5:=k5.set2 (.bool qg) (.slice qa qn qc)
  have hb:=(hb.setCell (p:=⟨B5,0,none⟩) hA (.bool qg)).setCell (p:=⟨B5,1,none⟩) hA (.slice qa qn qc)
  generalize ((w3.setCell ⟨B5,0,none⟩ (.bool qg)).setCell ⟨B5,1,none⟩ (.slice qa qn qc))=wz at *
  clear r1 r2 s1 s2 kA kB hv hu hr hq
  obtain ⟨⟨r1,r2⟩,⟨s1,s2⟩⟩:=k5.two
  rcases Int.lt_trichotomy a b with hab | hab | hab
  ·have HC:=hid (show cmpI a b = -1 by unfold cmpI;rw [if_pos hab])
   have hd:qg=true:=HQ.out.1.trans (decide_eq_true (by omega))
   clear HQ
   subst hd
   go_wp2
   go_ret
   exact ⟨by rw [HC.out];rfl,hb⟩
  ·have HC:=hid (show cmpI a b=0 by unfold cmpI;rw [if_neg (by omega),if_neg (by omega)])
   have hd:qg=false:=HQ.out.1.trans (decide_eq_false (by omega))
   have hz:qn=0:=HQ.out.2.trans ((dlen_zero_iff 10 _ (by decide)).2 (by omega))
   clear HQ
   subst hd
   subst hz
   go_wp2
   go_ret
   exact ⟨by rw [HC.out];rfl,hb⟩
  ·have HC:=hid (show cmpI a b=1 by unfold cmpI;rw [if_neg (by omega),if_pos hab])
   have hd:qg=false:=HQ.out.1.trans (decide_eq_false (by omega))
   have hz:0<qn:=by rw [HQ.out.2];exact (dlen_pos_iff _).2 (by omega)
   clear HQ
   subst hd
   go_wp2
   go_ret
   exact ⟨by rw [HC.out];rfl,hb⟩
end Go.Proofs.YtihdndaibmgoiaaGreatDoor
namespace Go.Proofs.YtihdndaibmgoiaaGreatDoor
open Go.RowKit
def CNum (w:World) (v:Value) (z:Int):Prop:=∃ z',DNum w v z'∧dlen 10 z'.natAbs≤2002000∧Cut z' z
theorem CNum.below {w w':World} {v:Value} {z:Int} (h:CNum w v z) (hb:Below w.heap.size w w'):CNum w' v z:=by
 obtain ⟨z',h1,h2,h3⟩:=h
 exact ⟨z',h1.below hb,h2,h3⟩
theorem CNum.shape4 {w:World} {v:Value} {z:Int} (h:CNum w v z):∃ g a n c,v=.agg #[.bool g,.slice a n c]:=by
 obtain ⟨z',h1,h2,h3⟩:=h
 exact h1.shape4
theorem PRef.cnum {w:World} {base:Nat} {v:Value} {z:Int} (h:PRef w base v z):CNum w v z:=by
 obtain ⟨z',h1,h2,h3⟩:=h
 exact ⟨z',h1.num,h2,h3⟩
theorem Blk.set2_ne {w:World} {b c:Nat} {cs:Array Value} {t:TypeId} (h:Blk w c cs t) (hne:c≠b) (x y:Value):Blk ((w.setCell ⟨b,0,none⟩ x).setCell ⟨b,1,none⟩ y) c cs t:=
 ((Below.heap_setCell _ _ _ _ hne).trans (Below.heap_setCell _ _ _ _ hne)).trans h
theorem PRef.keep {w w':World} {base:Nat} {v:Value} {z:Int} (h:PRef w base v z) (hb:Below w.heap.size w w'):PRef w' base v z:=by
 obtain ⟨z',⟨s,h0,h1⟩,h2,h3⟩:=h
 exact ⟨z',⟨s,h0,Own.keep h1 hb (Nat.le_refl _)⟩,h2,h3⟩
theorem PRef.set2 {w:World} {base b:Nat} {v:Value} {z:Int} (h:PRef w base v z) (hb:b<base) (x y:Value):PRef ((w.setCell ⟨b,0,none⟩ x).setCell ⟨b,1,none⟩ y) base v z:=by
 obtain ⟨z',⟨s,h0,h1⟩,h2,h3⟩:=h
 exact ⟨z',⟨s,h0,own_set2 h1 x y hb⟩,h2,h3⟩
theorem PRef.drew {w:World} {base:Nat} {v:Value} {z:Int} (h:PRef w base v z):PRef w.drew base v z:=h
def BothQ (o1 o2:Bool) (x y:Int) (w:World) (e:Ending) (w':World):Prop:=
 ∃ g1 s1 n1 c1 g2 s2 n2 c2,e=.returned (.tuple #[.agg #[.bool g1,.slice s1 n1 c1],.agg #[.bool g2,.slice s2 n2 c2],.int .i64 (if (o1 && o2)=true then 0 else 2)])∧Below w.heap.size w w'∧((o1 && o2)=true→CNum w' (.agg #[.bool g1,.slice s1 n1 c1]) x∧CNum w' (.agg #[.bool g2,.slice s2 n2 c2]) y)
set_option maxRecDepth 100000 in
set_option maxHeartbeats 4000000 in
theorem both_fn (a b:List UInt8) (ha:a.length≤2000000) (hb:b.length≤2000000) (w:World) :
  Calls Tryz.prog 59 #[.string ⟨a.toArray⟩,.string ⟨b.toArray⟩] w (BothQ (pOK a) (pOK b) (pVal a) (pVal b) w):=by
 have k1:=Blk.new w #[.bool false,.slice none 0 0] 59
 have k2:=Blk.new (w.alloc (.cells #[.bool false,.slice none 0 0] 59)) #[.bool false,.slice none 0 0] 59
 simp only [World.size_alloc] at k2
 have k1':=k1.alloc (.cells #[.bool false,.slice none 0 0] 59)
 have hb0:Below w.heap.size w ((w.alloc (.cells #[.bool false,.slice none 0 0] 59)).alloc (.cells #[.bool false,.slice none 0 0] 59)):=((Below.refl _ _).alloc (Nat.le_refl _) _).alloc (by simp) _
 have hw0:w.heap.size+2≤((w.alloc (.cells #[.bool false,.slice none 0 0] 59)).alloc (.cells #[.bool false,.slice none 0 0] 59)).heap.size:=by simp
 have hA:=fun w=>hid (number_fn a ha w)
 have hB:=fun w=>hid (number_fn b hb w)
 unfold NumP at hA hB
 generalize hp1:pOK a=o1 at *
 generalize hp2:pOK b=o2 at *
 clear hp1 hp2 ha hb
 go_enter Tryz.func59,Tryz.ntmps59
 go_wp2_with fail
 generalize ((w.alloc (.cells #[.bool false,.slice none 0 0] 59)).alloc (.cells #[.bool false,.slice none 0 0] 59))=w0 at *
 clear k1
 (with_reducible refine (hA _).out.mono ?_);rintro e w1 ⟨v,rfl,gg,hv,g1,s1,n1,c1,rfl⟩
 have HV:=hid hv
 clear hv
 have k1':=k1'.later gg
 have k2:=k2.later gg
 have hb:=hb0.trans (gg.mono hb0.size)
 have hg1:=gg.size
 clear hb0 gg
 have gg:Below w1.heap.size w1 (w1.alloc (.cells #[.bool g1,.slice s1 n1 c1] 59)):=(Below.refl _ _).alloc (Nat.le_refl _) _
 have k3:=Blk.new w1 #[.bool g1,.slice s1 n1 c1] 59
 have HV:=hid (fun h=>(HV.out h).keep gg)
 have k1':=k1'.later gg
 have k2:=k2.later gg
 have hb:=hb.trans (gg.mono hb.size)
 have hsz1:w1.heap.size<(w1.alloc (.cells #[.bool g1,.slice s1 n1 c1] 59)).heap.size:=k3.lt
 have hle1:=k1'.lt
 have hbb1:w0.heap.size≤w1.heap.size:=hg1
 generalize hw1:w1.heap.size=B1 at *
 clear gg
 go_wp2_with fail
 generalize w1.alloc (.cells #[.bool g1,.slice s1 n1 c1] 59)=wa at *
 (with_reducible refine (hB _).out.mono ?_);rintro e w2 ⟨v,rfl,gg,hv,g2,s2,n2,c2,rfl⟩
 have HV2:=hid hv
 clear hv
 have k1':=k1'.later gg
 have k2:=k2.later gg
 have k3:=k3.later gg
 have HV:=hid (fun h=>(HV.out h).keep gg)
 have hb:=hb.trans (gg.mono hb.size)
 have hsz2:=gg.size
 clear gg
 have gg:Below w2.heap.size w2 (w2.alloc (.cells #[.bool g2,.slice s2 n2 c2] 59)):=(Below.refl _ _).alloc (Nat.le_refl _) _
 have k4:=Blk.new w2 #[.bool g2,.slice s2 n2 c2] 59
 have HV:=hid (fun h=>(HV.out h).keep gg)
 have HV2:=hid (fun h=>(HV2.out h).keep gg)
 have k1':=k1'.later gg
 have k2:=k2.later gg
 have k3:=k3.later gg
 have hb:=hb.trans (gg.mono hb.size)
 clear gg
 obtain ⟨⟨p1,p2⟩,q1,q2⟩:=k1'.two
 obtain ⟨⟨p3,p4⟩,q3,q4⟩:=k2.two
 obtain ⟨⟨p5,p6⟩,q5,q6⟩:=k3.two
 cases o1
 ·go_wp2
  have k1F:=(k1'.set2 (.bool false) (.slice none 0 0)).set2_ne (b:=w.heap.size+1) (by omega) (.bool false) (.slice none 0 0)
  have k2F:=(k2.set2_ne (b:=w.heap.size) (by omega) (.bool false) (.slice none 0 0)).set2 (.bool false) (.slice none 0 0)
  obtain ⟨⟨r1,r2⟩,_⟩:=k1F.two
  obtain ⟨⟨r3,r4⟩,_⟩:=k2F.two
  have hbF:=(((hb.setCell (p:=⟨w.heap.size,0,none⟩) (Nat.le_refl _) (.bool false)).setCell (p:=⟨w.heap.size,1,none⟩) (Nat.le_refl _) (.slice none 0 0)).setCell (p:=⟨w.heap.size+1,0,none⟩) (Nat.le_succ _) (.bool false)).setCell (p:=⟨w.heap.size+1,1,none⟩) (Nat.le_succ _) (.slice none 0 0)
  exact bodyPost_ret (v:=.tuple #[.agg #[.bool false,.slice none 0 0],.agg #[.bool false,.slice none 0 0],.int .i64 2]) (by simp [results,Tryz.results59,go_sem,r1,r2,r3,r4]) rfl ⟨_,_,_,_,_,_,_,_,rfl,hbF,fun h=>by simp at h⟩
 ·cases o2
  ·go_wp2
   have k1F:=(k1'.set2 (.bool false) (.slice none 0 0)).set2_ne (b:=w.heap.size+1) (by omega) (.bool false) (.slice none 0 0)
   have k2F:=(k2.set2_ne (b:=w.heap.size) (by omega) (.bool false) (.slice none 0 0)).set2 (.bool false) (.slice none 0 0)
   obtain ⟨⟨r1,r2⟩,_⟩:=k1F.two
   obtain ⟨⟨r3,r4⟩,_⟩:=k2F.two
   have hbF:=(((hb.setCell (p:=⟨w.heap.size,0,none⟩) (Nat.le_refl _) (.bool false)).setCell (p:=⟨w.heap.size,1,none⟩) (Nat.le_refl _) (.slice none 0 0)).setCell (p:=⟨w.heap.size+1,0,none⟩) (Nat.le_succ _) (.bool false)).setCell (p:=⟨w.heap.size+1,1,none⟩) (Nat.le_succ _) (.slice none 0 0)
   exact bodyPost_ret (v:=.tuple #[.agg #[.bool false,.slice none 0 0],.agg #[.bool false,.slice none 0 0],.int .i64 2]) (by simp [results,Tryz.results59,go_sem,r1,r2,r3,r4]) rfl ⟨_,_,_,_,_,_,_,_,rfl,hbF,fun h=>by simp at h⟩
  ·obtain ⟨⟨p7,p8⟩,q7,q8⟩:=k4.two
   have hne:B1≠w2.heap.size:=by omega
   go_wp2_with fail
   go_region
   have k1F:=(k1'.set2 (.bool g1) (.slice s1 n1 c1)).set2_ne (b:=w.heap.size+1) (by omega) (.bool g2) (.slice s2 n2 c2)
   have k2F:=(k2.set2_ne (b:=w.heap.size) (by omega) (.bool g1) (.slice s1 n1 c1)).set2 (.bool g2) (.slice s2 n2 c2)
   obtain ⟨⟨r1,r2⟩,_⟩:=k1F.two
   obtain ⟨⟨r3,r4⟩,_⟩:=k2F.two
   have hbF:=(((hb.setCell (p:=⟨w.heap.size,0,none⟩) (Nat.le_refl _) (.bool g1)).setCell (p:=⟨w.heap.size,1,none⟩) (Nat.le_refl _) (.slice s1 n1 c1)).setCell (p:=⟨w.heap.size+1,0,none⟩) (Nat.le_succ _) (.bool g2)).setCell (p:=⟨w.heap.size+1,1,none⟩) (Nat.le_succ _) (.slice s2 n2 c2)
   have n1':=(((HV.out (by first | rfl | trivial)).set2 (b:=w.heap.size) (by omega) (.bool g1) (.slice s1 n1 c1)).set2 (b:=w.heap.size+1) (by omega) (.bool g2) (.slice s2 n2 c2)).drew.cnum
   have n2':=(((HV2.out (by first | rfl | trivial)).set2 (b:=w.heap.size) (by omega) (.bool g1) (.slice s1 n1 c1)).set2 (b:=w.heap.size+1) (by omega) (.bool g2) (.slice s2 n2 c2)).drew.cnum
   go_wp2
   exact bodyPost_ret (v:=.tuple #[.agg #[.bool g1,.slice s1 n1 c1],.agg #[.bool g2,.slice s2 n2 c2],.int .i64 0]) (by simp [results,Tryz.results59,go_sem,r1,r2,r3,r4]) rfl ⟨_,_,_,_,_,_,_,_,rfl,hbF.drew,fun _=>⟨n1',n2'⟩⟩
end Go.Proofs.YtihdndaibmgoiaaGreatDoor
