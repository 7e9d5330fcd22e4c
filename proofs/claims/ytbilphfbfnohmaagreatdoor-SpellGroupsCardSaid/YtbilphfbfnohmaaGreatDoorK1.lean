/-
  Part K1 of the proofs of this seat, merged by a program out of 15 texts; remarks are struck.
-/
import Derived.WalkKit
import Derived.Test.YtbilphfbfnohmaaGreatDoorProg
import Derived.WalkSpells
import Derived.WalkLawsBesides
import Derived.Lib.MinMax
import Derived.BigRegion
import Derived.Lib.BufferRead
import Derived.RangeFuncNested
import Derived.RangeFuncBound
import Derived.RangeFuncCalls
import Derived.RangeFuncLeaves
import Derived.Shelf.Abstract
import Derived.Shelf.RegionOpen
import Derived.OwnWalkIn
import Derived.TacticsInMore
import Derived.LoopNIn
import Derived.LoopIn
import Derived.RangeFuncBox
import Derived.Deep.RegionHeld3
import Derived.OrdersHeld
namespace Go.Proofs.YtbilphfbfnohmaaGreatDoor
open Go.RowKit
def D (n i:Nat):Nat:=n / 2 ^ (32*i) % 4294967296
def nlen (n:Nat):Nat:=if n=0 then 0 else Nat.log2 n / 32+1
theorem D_lt (n i:Nat):D n i<4294967296:=Nat.mod_lt _ (by decide)
theorem pow32_pos (k:Nat):0<2 ^ (32*k):=Nat.pow_pos (by decide)
theorem lt_nlen (n:Nat):n<2 ^ (32*nlen n):=by
 unfold nlen
 by_cases h:n=0
 ·simp [h]
 ·rw [if_neg h]
  exact (Nat.log2_lt h).1 (by omega)
theorem nlen_le_iff (n k:Nat):nlen n≤k↔n<2 ^ (32*k):=by
 constructor
 ·intro h
  exact Nat.lt_of_lt_of_le (lt_nlen n) (Nat.pow_le_pow_right (by decide) (by omega))
 ·intro h
  unfold nlen
  by_cases h0:n=0
  ·simp [h0]
  ·rw [if_neg h0]
   have:=(Nat.log2_lt h0).2 h
   omega
theorem nlen_eq_zero (n:Nat):nlen n=0↔n=0:=by
 have:=nlen_le_iff n 0
 simp at this;omega
theorem nlen_mono {m n:Nat} (h:m≤n):nlen m≤nlen n:=(nlen_le_iff m _).2 (Nat.lt_of_le_of_lt h (lt_nlen n))
theorem D_out (n i:Nat) (h:nlen n≤i):D n i=0:=by
 have:=(nlen_le_iff n i).1 h
 unfold D
 rw [Nat.div_eq_of_lt this]
theorem pow32_succ (k:Nat):2 ^ (32*(k+1))=2 ^ (32*k)*4294967296:=by
 rw [Nat.mul_add,Nat.pow_add]
theorem div_split (n i:Nat):n / 2 ^ (32*i)=D n i+4294967296*(n / 2 ^ (32*(i+1))):=by
 unfold D
 rw [pow32_succ,← Nat.div_div_eq_div_mul]
 have:=Nat.mod_add_div (n / 2 ^ (32*i)) 4294967296
 omega
theorem mod_split (n i:Nat):n % 2 ^ (32*(i+1))=n % 2 ^ (32*i)+2 ^ (32*i)*D n i:=by
 unfold D
 rw [pow32_succ,Nat.mod_mul]
theorem nlen_of_cut (n k:Nat) (h:n<2 ^ (32*k)) (ht:k=0∨D n (k-1)≠0):nlen n=k:=by
 have h1:=(nlen_le_iff n k).2 h
 rcases ht with ht | ht
 ·omega
 ·have:¬ nlen n≤k-1:=fun hle=>ht (D_out n _ hle)
  omega
theorem lt_cut (n k:Nat) (h:n<2 ^ (32*(k+1))) (ht:D n k=0):n<2 ^ (32*k):=by
 have h3:=div_split n k
 rw [Nat.div_eq_of_lt h,ht] at h3
 exact (Nat.div_eq_zero_iff_lt (pow32_pos k)).1 (by omega)
theorem testBit_D (n i:Nat):n.testBit i=(D n (i / 32)).testBit (i % 32):=by
 unfold D
 rw [show (4294967296:Nat)=2 ^ 32 from rfl,Nat.testBit_mod_two_pow,Nat.testBit_div_two_pow]
 have:i % 32<32:=Nat.mod_lt _ (by decide)
 simp [this]
 congr 1
 omega
theorem div_top (m k:Nat) (h:nlen m≤k):m / 2 ^ (32*k)=0:=Nat.div_eq_of_lt ((nlen_le_iff m k).1 h)
def nbits (n:Nat):Nat:=if n=0 then 0 else Nat.log2 n+1
theorem nbits_le_iff (n k:Nat):nbits n≤k↔n<2 ^ k:=by
 unfold nbits
 by_cases h0:n=0
 ·have:=Nat.pow_pos (n:=k) (show 0<2 by decide)
  simp [h0];exact this
 ·rw [if_neg h0]
  have:=Nat.log2_lt (k:=k) h0
  omega
theorem nbits_of (n k:Nat) (h:n<2 ^ k) (ht:k=0∨n.testBit (k-1)=true):nbits n=k:=by
  have h1:=(nbits_le_iff n k).2 h
  rcases ht with ht | ht
  · omega
  · have : ¬ nbits n ≤ k - 1 := fun hle => by
      have h2:=(nbits_le_iff n _).1 hle
      rw [Nat.testBit_lt_two_pow h2] at ht
      cases ht
    omega
theorem lt_of_bit (n k:Nat) (h:n<2 ^ (k+1)) (ht:n.testBit k=false):n<2 ^ k:=by
 rw [Nat.testBit_eq_decide_div_mod_eq] at ht
 have h1:n / 2 ^ k<2:=by
  rw [Nat.div_lt_iff_lt_mul (Nat.pow_pos (by decide))]
  rw [Nat.pow_succ] at h;omega
 have h3:n / 2 ^ k % 2≠1:=of_decide_eq_false ht
 have h2:n / 2 ^ k=0:=by generalize n / 2 ^ k=q at *;omega
 exact (Nat.div_eq_zero_iff_lt (Nat.pow_pos (by decide))).1 h2
theorem nbits_le_nlen (n:Nat):nbits n≤32*nlen n:=(nbits_le_iff n _).2 (lt_nlen n)
def cySmall (n k c j:Nat):Nat:=(n % 2 ^ (32*j)*k+c) / 2 ^ (32*j)
theorem cySmall_zero (n k c:Nat):cySmall n k c 0=c:=by simp [cySmall,Nat.mod_one]
theorem cySmall_lt (n k c j:Nat) (hk:k<4294967296) (hc:c<4294967296):cySmall n k c j<4294967296:=by
 unfold cySmall
 rw [Nat.div_lt_iff_lt_mul (pow32_pos j)]
 have h1:n % 2 ^ (32*j)+1≤2 ^ (32*j):=Nat.mod_lt _ (pow32_pos j)
 have h2:(n % 2 ^ (32*j))*k≤(n % 2 ^ (32*j))*4294967295:=Nat.mul_le_mul_left _ (by omega)
 omega
theorem cySmall_split (n k c j:Nat):cySmall n k c j+D n j*k=(n % 2 ^ (32*(j+1))*k+c) / 2 ^ (32*j):=by
 unfold cySmall
 rw [mod_split n j,Nat.add_mul,Nat.add_right_comm,Nat.mul_assoc,Nat.add_mul_div_left _ _ (pow32_pos j)]
theorem cySmall_succ (n k c j:Nat):(cySmall n k c j+D n j*k) / 4294967296=cySmall n k c (j+1):=by
 rw [cySmall_split,Nat.div_div_eq_div_mul]
 unfold cySmall
 rw [pow32_succ]
theorem D_congr (m n j:Nat) (h:m % 2 ^ (32*(j+1))=n % 2 ^ (32*(j+1))):D m j=D n j:=by
 have e (x:Nat):D x j=x % 2 ^ (32*(j+1)) / 2 ^ (32*j):=by
  unfold D
  rw [pow32_succ,Nat.mod_mul_right_div_self]
 rw [e,e,h]
theorem D_eq (x j:Nat) (h:x<2 ^ (32*(j+1))):D x j=x / 2 ^ (32*j):=by
 unfold D
 rw [Nat.mod_eq_of_lt]
 rw [Nat.div_lt_iff_lt_mul (pow32_pos j)]
 rw [pow32_succ] at h
 omega
theorem cySmall_digit (n k c j:Nat):(cySmall n k c j+D n j*k) % 4294967296=D (n*k+c) j:=by
 rw [cySmall_split]
 show D (n % 2 ^ (32*(j+1))*k+c) j=D (n*k+c) j
 apply D_congr
 rw [Nat.add_mod,Nat.mod_mul_mod,← Nat.add_mod]
theorem mul_lt_u64 (x k:Nat) (hx:x<4294967296) (hk:k<4294967296):x*k≤18446744065119617025:=by
 calc x*k≤4294967295*k:=Nat.mul_le_mul_right _ (by omega)
  _≤4294967295*4294967295:=Nat.mul_le_mul_left _ (by omega)
theorem cySmall_top (n k c j:Nat) (h:nlen n≤j):cySmall n k c j=(n*k+c) / 2 ^ (32*j):=by
 unfold cySmall
 rw [Nat.mod_eq_of_lt ((nlen_le_iff n j).1 h)]
theorem small_lt (n k c:Nat) (hk:k<4294967296) (hc:c<4294967296):n*k+c<2 ^ (32*(nlen n+1)):=by
 rw [pow32_succ]
 have h1:=lt_nlen n
 have h2:n*k≤n*4294967295:=Nat.mul_le_mul_left _ (by omega)
 omega
def tSmall (n k c j:Nat):Nat:=cySmall n k c j+D n j*k
theorem wrap_u64_nat (x:Nat) (h:x<18446744073709551616):IntKind.u64.wrap (x:Int)=x:=by
 simp [IntKind.wrap,IntKind.bits,IntKind.signed]
 omega
theorem tSmall_mul (n k j:Nat) (hk:k<4294967296):IntKind.u64.wrap ((D n j:Int)*(k:Int))=(D n j:Int)*(k:Int):=by
 have:=mul_lt_u64 _ _ (D_lt n j) hk
 rw [← Int.natCast_mul]
 exact wrap_u64_nat _ (by omega)
theorem tSmall_wrap (n k c j:Nat) (hk:k<4294967296) (hc:c<4294967296):IntKind.u64.wrap ((cySmall n k c j:Int)+(D n j:Int)*(k:Int))=(tSmall n k c j:Int):=by
 have h1:=mul_lt_u64 _ _ (D_lt n j) hk
 have h2:=cySmall_lt n k c j hk hc
 rw [← Int.natCast_mul,← Int.natCast_add]
 exact wrap_u64_nat _ (by omega)
theorem tSmall_mod (n k c j:Nat):(tSmall n k c j:Int) % 4294967296=(D (n*k+c) j:Int):=by
 rw [← cySmall_digit]
 unfold tSmall
 omega
theorem tSmall_div (n k c j:Nat):(tSmall n k c j:Int) / 4294967296=(cySmall n k c (j+1):Int):=by
 rw [← cySmall_succ]
 unfold tSmall
 omega
theorem cySmall_last (n k c:Nat) (hk:k<4294967296) (hc:c<4294967296):(cySmall n k c (nlen n):Int)=(D (n*k+c) (nlen n):Int):=by
 rw [D_eq _ _ (small_lt n k c hk hc),← cySmall_top n k c (nlen n) (Nat.le_refl _)]
theorem wrap_u32_nat (x:Nat):IntKind.u32.wrap (x:Int)=((x % 4294967296:Nat):Int):=by
 simp [IntKind.wrap,IntKind.bits,IntKind.signed]
end Go.Proofs.YtbilphfbfnohmaaGreatDoor
namespace Go.Proofs.YtbilphfbfnohmaaGreatDoor
open Go.RowKit
theorem hid {p:Prop} (h:p):Hid p:=h
def Row (ik:IntKind) (w:World) (v:Value) (n:Nat) (f:Nat→Nat):Prop:=
 ∃ (a:Option Addr) (cap:Nat),v=.slice a n cap∧n≤cap∧(0<n→∃ b off,a=some ⟨b,off,none⟩∧b<w.heap.size∧∀ i,i<n→w.cell? ⟨b,off+i,none⟩=some (.int ik ((f i:Nat):Int)))
theorem Row.below {ik:IntKind} {w w':World} {v:Value} {n:Nat} {f:Nat→Nat} (h:Row ik w v n f) (hb:Below w.heap.size w w'):Row ik w' v n f:=by
 obtain ⟨a,cap,rfl,hc,h⟩:=h
 refine ⟨a,cap,rfl,hc,fun h0=>?_⟩
 obtain ⟨b,off,rfl,hlt,hcell⟩:=h h0
 exact ⟨b,off,rfl,Nat.lt_of_lt_of_le hlt hb.size,fun i hi=>(hb.cell (p:=⟨b,off+i,none⟩) hlt).trans (hcell i hi)⟩
def NatRep (w:World) (v:Value) (n:Nat):Prop:=Row .u32 w v (nlen n) (D n)
theorem NatRep.below {w w':World} {v:Value} {n:Nat} (h:NatRep w v n) (hb:Below w.heap.size w w'):NatRep w' v n:=Row.below h hb
set_option maxHeartbeats 400000 in
theorem at_in (b off len cap:Nat) (i:Nat) (x:Int) (w:World) (hi:i<len) (_hl:len≤1000000000000)
  (hc:w.cell? ⟨b,off+i,none⟩=some (.int .u32 x)) :
  Calls Tryz.prog 185 #[.slice (some ⟨b,off,none⟩) len cap,.int .i64 i] w fun e w'=>e=.returned (.int .u32 x)∧w=w':=by
 go_enter Tryz.func185,Tryz.ntmps185
 go_wp2
 go_ret
 exact ⟨rfl,rfl⟩
theorem at_out (a:Option Addr) (len cap:Nat) (i:Nat) (w:World) (hi:len≤i) (_hl:i≤1000000000000) :
  Calls Tryz.prog 185 #[.slice a len cap,.int .i64 i] w fun e w'=>e=.returned (.int .u32 0)∧w=w':=by
 go_enter Tryz.func185,Tryz.ntmps185
 go_wp2
 go_ret
 exact ⟨rfl,rfl⟩
theorem at_nat {v:Value} {n:Nat} {w:World} (h:NatRep w v n) (hl:nlen n≤1000000000) (i:Int) (h0:0≤i) (hi:i≤1000000000) :
  Calls Tryz.prog 185 #[v,.int .i64 i] w fun e w'=>e=.returned (.int .u32 (D n i.toNat))∧w=w':=by
 obtain ⟨j,rfl⟩:=Int.eq_ofNat_of_zero_le h0
 obtain ⟨a,cap,rfl,hc,h⟩:=h
 by_cases hlt:j<nlen n
 ·obtain ⟨b,off,rfl,_,hcell⟩:=h (by omega)
  exact at_in b off _ cap j _ w hlt (by omega) (hcell j hlt)
 ·have:=at_out a (nlen n) cap j w (by omega) (by omega)
  rw [Int.toNat_natCast,D_out n j (by omega)]
  exact this
theorem bit_calc (x k:Nat) (hx:x<4294967296):(bits BinOp.and IntKind.u32 ((x:Int) / 2 ^ k) 1 == 1)=x.testBit k:=by
 have h1:((x:Int) / 2 ^ k)=((x / 2 ^ k:Nat):Int):=by simp
 have h2:x / 2 ^ k<4294967296:=Nat.lt_of_le_of_lt (Nat.div_le_self _ _) hx
 rw [h1]
 have:=u32_and_nat (x / 2 ^ k) 1 h2 (by decide)
 rw [show ((1:Nat):Int)=1 from rfl] at this
 rw [this,Nat.testBit_eq_decide_div_mod_eq,Nat.and_one_is_mod]
 rw [Bool.eq_iff_iff]
 simp
 omega
set_option maxHeartbeats 400000 in
theorem bit_nat {v:Value} {n:Nat} {w:World} (h:NatRep w v n) (hl:nlen n≤1000000000) (i:Int) (h0:0≤i) (hi:i≤32000000000) :
  Calls Tryz.prog 215 #[v,.int .i64 i] w fun e w'=>e=.returned (.bool (n.testBit i.toNat))∧w=w':=by
 go_enter Tryz.func215,Tryz.ntmps215
 go_wp2_with fail
 refine (at_nat h hl _ (by omega) (by omega)).mono ?_
 rintro e w' ⟨rfl,rfl⟩
 go_wp2
 go_ret
 refine ⟨?_,rfl⟩
 show Ending.returned (.bool _)=_
 rw [bit_calc _ _ (D_lt _ _),testBit_D n i.toNat,show (i / 32).toNat=i.toNat / 32 by omega,show (i % 32).toNat=i.toNat % 32 by omega]
set_option maxHeartbeats 400000 in
theorem trimmed_row {a:Option Addr} {cap n k:Nat} {w:World} (h:Row .u32 w (.slice a k cap) k (D n)) (hk:k≤1000000000) (hn:n<2 ^ (32*k)) :
  Calls Tryz.prog 224 #[.slice a k cap] w fun e w'=>e=.returned (.slice a (nlen n) cap)∧w=w':=by
 obtain ⟨a',cap',hv,hcap,hcell⟩:=h
 simp only [Value.slice.injEq,true_and] at hv
 obtain ⟨rfl,rfl⟩:=hv
 have hl:=(nlen_le_iff n k).2 hn
 go_enter Tryz.func224,Tryz.ntmps224
 go_wp2
 go_loop [3] (fun i=>∃ j:Nat,i=.int .i64 j∧nlen n≤j∧j≤k) (fun i=>(intOf i).toNat)
 case atStart=>exact ⟨k,rfl,hl,Nat.le_refl _⟩
 case round=>
  obtain ⟨j,rfl,h1,h2⟩:=hrel
  by_cases hj:j=0
  ·subst hj
   go_wp2
   go_ret
   have hz:nlen n=0:=by omega
   exact ⟨by rw [hz];rfl,rfl⟩
  ·obtain ⟨b,off,rfl,hlt,hc⟩:=hcell (by omega)
   have hcj:=hc (j-1) (by omega)
   by_cases hd:D n (j-1)=0
   ·go_wp2
    go_round
    case rel=>
     refine ⟨j-1,by go_num,?_,by omega⟩
     exact (nlen_le_iff _ _).2 (lt_cut n (j-1) (by rw [Nat.sub_add_cancel (by omega)];exact (nlen_le_iff _ _).1 h1) hd)
    case measure=>simp [intOf]<;>omega
   ·go_wp2
    go_ret
    have hz:nlen n=j:=nlen_of_cut n j ((nlen_le_iff _ _).1 h1) (.inr hd)
    exact ⟨by rw [hz];rfl,rfl⟩
theorem NatRep.shape {w:World} {v:Value} {n:Nat} (h:NatRep w v n):∃ a cap,v=.slice a (nlen n) cap:=by
 obtain ⟨a,cap,rfl,_⟩:=h
 exact ⟨a,cap,rfl⟩
set_option maxHeartbeats 1000000 in
theorem bits_nat {v:Value} {n:Nat} {w:World} (h:NatRep w v n) (hl:nlen n≤1000000000) :
  Calls Tryz.prog 197 #[v] w fun e w'=>e=.returned (.int .i64 (nbits n))∧w=w':=by
 obtain ⟨a,cap,rfl⟩:=h.shape
 go_enter Tryz.func197,Tryz.ntmps197
 go_wp2
 go_loop [3] (fun i=>∃ j:Nat,i=.int .i64 j∧j≤32*nlen n∧n<2 ^ j) (fun i=>(intOf i).toNat)
 case atStart=>exact ⟨32*nlen n,by go_num,Nat.le_refl _,lt_nlen n⟩
 case round=>
  obtain ⟨j,rfl,h1,h2⟩:=hrel
  have H2:=hid h2
  clear h2
  by_cases hj:j=0
  ·subst hj
   go_wp2
   go_ret
   exact ⟨by rw [nbits_of n 0 H2.out (.inl rfl)];rfl,rfl⟩
  ·obtain ⟨i,rfl⟩:∃ i,j=i+1:=⟨j-1,by omega⟩
   go_wp2_with fail
   refine (bit_nat h hl _ (by omega) (by omega)).mono ?_
   rintro e w' ⟨rfl,rfl⟩
   rw [Int.toNat_natCast]
   by_cases hb:n.testBit i=true
   ·go_wp2
    go_ret
    exact ⟨by rw [nbits_of n (i+1) H2.out (.inr hb)];rfl,rfl⟩
   ·rw [Bool.not_eq_true] at hb
    go_wp2
    go_round
    case rel=>exact ⟨i,by go_num,by omega,lt_of_bit n i H2.out hb⟩
    case measure=>simp [intOf]<;>omega
end Go.Proofs.YtbilphfbfnohmaaGreatDoor
namespace Go.Proofs.YtbilphfbfnohmaaGreatDoor
open Go.RowKit
def cellsK (ik:IntKind) (f:Nat→Nat) (n:Nat):List Value:=(List.range n).map fun i=>.int ik ((f i:Nat):Int)
theorem cellsK_length (ik:IntKind) (f:Nat→Nat) (n:Nat):(cellsK ik f n).length=n:=by simp [cellsK]
theorem cellsK_succ (ik:IntKind) (f:Nat→Nat) (n:Nat):cellsK ik f (n+1)=cellsK ik f n++[.int ik ((f n:Nat):Int)]:=by
 simp [cellsK,List.range_succ]
theorem cellsK_get (ik:IntKind) (f:Nat→Nat) (n i:Nat) (h:i<n):(cellsK ik f n)[i]? = some (.int ik ((f i:Nat):Int)):=by
 simp [cellsK,h]
theorem cellsK_take (ik:IntKind) (f:Nat→Nat) (n k:Nat) (h:k≤n):(cellsK ik f n).take k=cellsK ik f k:=by
 apply List.ext_getElem?
 intro i
 rw [List.getElem?_take]
 by_cases hi:i<k
 ·rw [if_pos hi,cellsK_get _ _ _ _ (by omega),cellsK_get _ _ _ _ hi]
 ·rw [if_neg hi,List.getElem?_eq_none (by rw [cellsK_length];omega)]
theorem cellsK_congr (ik:IntKind) (f g:Nat→Nat) (n:Nat) (h:∀ i,i<n→f i=g i):cellsK ik f n=cellsK ik g n:=by
 simp only [cellsK]
 apply List.map_congr_left
 intro i hi
 rw [h i (List.mem_range.1 hi)]
def Own (ik:IntKind) (e:TypeId) (w:World) (base:Nat) (v:Value) (n:Nat) (f:Nat→Nat):Prop:=w.ownsRow base e 1 v n (cellsK ik f n)
theorem Own.row {ik:IntKind} {e:TypeId} {w:World} {base:Nat} {v:Value} {n:Nat} {f:Nat→Nat} (h:Own ik e w base v n f):Row ik w v n f:=by
 have h0:w.ownsRow base e 1 v n (cellsK ik f n):=h
 obtain ⟨hl,⟨rfl,rfl⟩ | ⟨g,cap,cur,rfl,hb,hh,hc,hm,hs,ht⟩⟩:=h
 ·exact ⟨none,0,rfl,Nat.le_refl _,fun h=>absurd h (by omega)⟩
 ·refine ⟨some ⟨g,0,none⟩,cap,rfl,hc,fun h=>⟨g,0,rfl,(Array.getElem?_eq_some_iff.1 hh).1,fun i hi=>?_⟩⟩
  have:=World.ownsRow.cellAt h0 i (by omega)
  rw [cellsK_get ik f n i hi] at this
  rw [Nat.zero_add]
  exact this
theorem Own.cut {ik:IntKind} {e:TypeId} {w:World} {base:Nat} {a:Option Addr} {n k cap:Nat} {f:Nat→Nat} (h:Own ik e w base (.slice a n cap) n f) (hk:k≤n):Own ik e w base (.slice a k cap) k f:=by
 obtain ⟨hl,⟨hv,rfl⟩ | ⟨g,cap,cur,hv,hb,hh,hc,hm,hs,ht⟩⟩:=h
 ·obtain rfl:k=0:=by omega
  simp only [Value.slice.injEq] at hv
  obtain ⟨rfl,_,rfl⟩:=hv
  exact World.ownsRow_nil _ _ _ _
 ·simp only [Value.slice.injEq] at hv
  obtain ⟨rfl,_,rfl⟩:=hv
  refine ⟨by rw [cellsK_length];omega,.inr ⟨g,cap,cur,rfl,hb,hh,by omega,hm,hs,?_⟩⟩
  rw [← cellsK_take ik f n k hk,← ht,List.take_take]
  congr 1
  omega
theorem Own.mono {ik:IntKind} {e:TypeId} {w:World} {base base':Nat} {v:Value} {n:Nat} {f:Nat→Nat} (h:Own ik e w base v n f) (hb:base'≤base):Own ik e w base' v n f:=by
 obtain ⟨hl,⟨hv,h0⟩ | ⟨g,cap,cur,hv,hg,hr⟩⟩:=h
 ·exact ⟨hl,.inl ⟨hv,h0⟩⟩
 ·exact ⟨hl,.inr ⟨g,cap,cur,hv,Nat.le_trans hb hg,hr⟩⟩
theorem Own.congr {ik:IntKind} {e:TypeId} {w:World} {base:Nat} {v:Value} {n:Nat} {f g:Nat→Nat} (h:Own ik e w base v n f) (hf:∀ i,i<n→f i=g i):Own ik e w base v n g:=by
 unfold Own;rw [← cellsK_congr ik f g n hf];exact h
theorem Own.nil {ik:IntKind} {e:TypeId} {w:World} {base:Nat} {f:Nat→Nat}:Own ik e w base (.slice none 0 0) 0 f:=World.ownsRow_nil _ _ _ _
theorem Own.shape {ik:IntKind} {e:TypeId} {w:World} {base:Nat} {v:Value} {n:Nat} {f:Nat→Nat} (h:Own ik e w base v n f):∃ a cap,v=.slice a n cap:=by
 obtain ⟨a,cap,rfl,_⟩:=h.row
 exact ⟨a,cap,rfl⟩
theorem Own.alloc {ik:IntKind} {e:TypeId} {w:World} {base:Nat} {v:Value} {n:Nat} {f:Nat→Nat} (h:Own ik e w base v n f) (o:Obj):Own ik e (w.alloc o) base v n f:=World.ownsRow.alloc h o
theorem Row.keep {ik:IntKind} {w w':World} {v:Value} {n:Nat} {f:Nat→Nat} (h:Row ik w v n f) (hb:Below w.heap.size w w'):Row ik w' v n f:=h.below hb
theorem Tryz.info75:(Tryz.prog.info? 173).map (fun i=>(i.zero,i.size,i.bytes))=some (some (.int .u32 0),1,4):=by kernel_rfl
section
variable {w:World} {ops:Array Oper} {rest:List Oper} {o:Oper} {a:Act} {Q:Exit→Act→World→Prop}
theorem app_u32 (hgd:o.guard=none) (s x:Operand)
  (ho:o.op=.call { callee:=.builtin .append,args:=#[s,x],argTypes:=#[154,154] })
  (base:Nat) (v:Value) (n:Nat) (f:Nat→Nat) (hs:a.eval s=v) (hown:Own .u32 173 w base v n f)
  (X:Int) (hx:a.eval x=.slice (some ⟨w.heap.size,0,none⟩) 1 1) (hX:X=((f n:Nat):Int)) (hn:n≤1000000000000) (hbase:base≤w.heap.size)
  (h:∀ v' w',Own .u32 173 w' base v' (n+1) f→Below base w w'→wpList Tryz.prog ops Q rest (a.put o.dst v') w') :
  wpList Tryz.prog ops Q (o::rest) a (w.alloc (.cells #[.int .u32 X] 173)):=by
 subst hX
 obtain ⟨i0,hi,hz0,hz1,hz2⟩:=info_parts Tryz.info75
 refine wpList_append_own _ hgd s x 154 ho base 173 i0 (.int .u32 0) 1 4 Tryz.underlying154 hi hz0 hz1 hz2 rfl (by decide) v n _ hs (World.ownsRow.alloc hown _)
  ⟨w.heap.size,0,none⟩ 1 1 [.int .u32 ((f n:Nat):Int)] hx rfl (cell_one_new _ _ _) (by intro u hu;simp at hu;subst hu;rfl) (by unfold maxLen;omega) (by omega) (by simp;omega) ?_
 intro v' w' hown' hgrow _
 refine h v' w' (by unfold Own;rw [cellsK_succ];exact hown') ?_
 refine (((Below.refl base w).alloc hbase _).grown hgrow (by simp;omega) ?_)
 intro k hk
 obtain ⟨hl,⟨hv,h0⟩ | ⟨g,cap,cur,hv,hg,hr⟩⟩:=hown
 ·subst hv;cases hk
 ·subst hv
  simp [Value.ownBlock] at hk
  omega
end
def Fresh (n:Nat) (w:World) (e:Ending) (w':World):Prop:=∃ v,e=.returned v∧Own .u32 173 w' w.heap.size v (nlen n) (D n)∧Below w.heap.size w w'
theorem trimmed_own {v:Value} {base n k:Nat} {w:World} (h:Own .u32 173 w base v k (D n)) (hk:k≤1000000000) (hn:n<2 ^ (32*k)) :
  Calls Tryz.prog 224 #[v] w fun e w'=>(∃ v',e=.returned v'∧Own .u32 173 w base v' (nlen n) (D n))∧w=w':=by
 obtain ⟨a,cap,rfl⟩:=h.shape
 refine (trimmed_row h.row hk hn).mono ?_
 rintro e w' ⟨rfl,rfl⟩
 exact ⟨⟨_,rfl,h.cut ((nlen_le_iff n k).2 hn)⟩,rfl⟩
theorem Own.nat {w:World} {base:Nat} {v:Value} {n:Nat} (h:Own .u32 173 w base v (nlen n) (D n)):NatRep w v n:=h.row
end Go.Proofs.YtbilphfbfnohmaaGreatDoor
namespace Go.Proofs.YtbilphfbfnohmaaGreatDoor
open Go.RowKit
theorem Own.cell {ik:IntKind} {e:TypeId} {w:World} {base g n cap:Nat} {f:Nat→Nat} (h:Own ik e w base (.slice (some ⟨g,0,none⟩) n cap) n f) (i:Nat) (hi:i<n):w.cell? ⟨g,i,none⟩=some (.int ik ((f i:Nat):Int)):=by
 have:=World.ownsRow.cellAt h i (by omega)
 rw [cellsK_get ik f n i hi] at this
 exact this
theorem Own.free {ik:IntKind} {e:TypeId} {w:World} {base g n cap:Nat} {f:Nat→Nat} (h:Own ik e w base (.slice (some ⟨g,0,none⟩) n cap) n f) (i:Nat):w.frozen? ⟨g,i,none⟩=false:=World.ownsRow.frozenAt h i
theorem Own.base_le {ik:IntKind} {e:TypeId} {w:World} {base g n cap:Nat} {f:Nat→Nat} (h:Own ik e w base (.slice (some ⟨g,0,none⟩) n cap) n f):base≤g:=by
 obtain ⟨hl,⟨hv,_⟩ | ⟨g',cap',cur,hv,hb,_⟩⟩:=h
 ·simp at hv
 ·simp only [Value.slice.injEq,Option.some.injEq,Addr.mk.injEq,and_true,true_and] at hv
  omega
theorem Own.lt {ik:IntKind} {e:TypeId} {w:World} {base g n cap:Nat} {f:Nat→Nat} (h:Own ik e w base (.slice (some ⟨g,0,none⟩) n cap) n f):g<w.heap.size:=by
 obtain ⟨hl,⟨hv,_⟩ | ⟨g',cap',cur,hv,hb,hh,_⟩⟩:=h
 ·simp at hv
 ·simp only [Value.slice.injEq,Option.some.injEq,Addr.mk.injEq,and_true,true_and] at hv
  rw [← hv.1] at hh
  exact (Array.getElem?_eq_some_iff.1 hh).1
theorem cellsK_set (ik:IntKind) (f:Nat→Nat) (n i x:Nat):(cellsK ik f n).set i (.int ik ((x:Nat):Int))=cellsK ik (fun j=>if j=i then x else f j) n:=by
 apply List.ext_getElem?
 intro j
 by_cases hj:j<n
 ·rw [cellsK_get _ _ _ _ hj,List.getElem?_set,cellsK_length]
  by_cases he:i=j
  ·subst he;simp [hj]
  ·have he':¬ j=i:=fun h=>he h.symm
   simp [he,he',cellsK_get ik f n j hj]
 ·rw [List.getElem?_eq_none (by rw [List.length_set,cellsK_length];omega),List.getElem?_eq_none (by rw [cellsK_length];omega)]
theorem Own.store {ik:IntKind} {e:TypeId} {w:World} {base g n cap:Nat} {f:Nat→Nat} (h:Own ik e w base (.slice (some ⟨g,0,none⟩) n cap) n f) (i x:Nat):Own ik e (w.setCell ⟨g,i,none⟩ (.int ik ((x:Nat):Int))) base (.slice (some ⟨g,0,none⟩) n cap) n (fun j=>if j=i then x else f j):=by
 have:=(World.ownsRow.stored h i (.int ik ((x:Nat):Int))).1
 rw [cellsK_set] at this
 exact this
theorem Own.other {ik:IntKind} {e:TypeId} {w:World} {base g n cap:Nat} {f:Nat→Nat} (h:Own ik e w base (.slice (some ⟨g,0,none⟩) n cap) n f) (a:Addr) (u:Value) (ha:a.block≠g):Own ik e (w.setCell a u) base (.slice (some ⟨g,0,none⟩) n cap) n f:=by
 obtain ⟨hl,⟨hv,h0⟩ | ⟨g',cap',cur,hv,hb,hh,hr⟩⟩:=h
 ·exact ⟨hl,.inl ⟨hv,h0⟩⟩
 ·have hv':=hv
  simp only [Value.slice.injEq,Option.some.injEq,Addr.mk.injEq,and_true,true_and] at hv'
  exact ⟨hl,.inr ⟨g',cap',cur,hv,hb,by rw [Below.heap_setCell _ _ _ _ (by omega)];exact hh,hr⟩⟩
theorem Own.keep {ik:IntKind} {e:TypeId} {w w':World} {base B:Nat} {v:Value} {n:Nat} {f:Nat→Nat} (h:Own ik e w base v n f) (hb:Below B w w') (hB:w.heap.size≤B):Own ik e w' base v n f:=by
 obtain ⟨hl,⟨hv,h0⟩ | ⟨g',cap',cur,hv,hg,hh,hr⟩⟩:=h
 ·exact ⟨hl,.inl ⟨hv,h0⟩⟩
 ·exact ⟨hl,.inr ⟨g',cap',cur,hv,hg,by rw [hb.block g' (by have:=(Array.getElem?_eq_some_iff.1 hh).1;omega)];exact hh,hr⟩⟩
theorem Own.addr {ik:IntKind} {e:TypeId} {w:World} {base n cap:Nat} {a:Option Addr} {f:Nat→Nat} (h:Own ik e w base (.slice a n cap) n f) (hn:0<n):∃ g,a=some ⟨g,0,none⟩:=by
 obtain ⟨hl,⟨hv,h0⟩ | ⟨g',cap',cur,hv,hg,hh,hr⟩⟩:=h
 ·omega
 ·simp only [Value.slice.injEq,true_and] at hv
  exact ⟨g',hv.1⟩
theorem cellsK_make (ik:IntKind) (n:Nat):(madeCells (Value.int ik 0).cells (n*1)).toList=cellsK ik (fun _=>0) n:=by
 have e:(Value.int ik 0).cells=#[.int ik 0]:=rfl
 rw [e,toList_madeCells_one]
 apply List.ext_getElem?
 intro j
 by_cases hj:j<n
 ·rw [cellsK_get _ _ _ _ hj];simp [hj]
 ·rw [List.getElem?_eq_none (by simp;omega),List.getElem?_eq_none (by rw [cellsK_length];omega)]
section
variable {ops:Array Oper} {rest:List Oper} {o:Oper} {a:Act} {Q:Exit→Act→World→Prop}
theorem mk_u32 (w:World) (hgd:o.guard=none) (l c:Operand) (ho:o.op=Op.makeSlice 154 l c) (base n:Nat) (L C:Int) (hl:a.eval l=.int .i64 L) (hc:a.eval c=.int .i64 C) (hL:L=(n:Int)) (hC:C=(n:Int)) (hn:n≤1000000000000) (hbase:base≤w.heap.size)
  (h:∀ w',Own .u32 173 w' base (.slice (some ⟨w.heap.size,0,none⟩) n n) n (fun _=>0)→Below base w w'→w'.heap.size=w.heap.size+1→Below w.heap.size w w'→wpList Tryz.prog ops Q rest (a.put o.dst (.slice (some ⟨w.heap.size,0,none⟩) n n)) w') :
  wpList Tryz.prog ops Q (o::rest) a w:=by
 obtain ⟨i0,hi,hz0,hz1,hz2⟩:=info_parts Tryz.info75
 subst hL
 subst hC
 have hm:=run_make (P:=Tryz.prog) w 154 173 i0 (.int .u32 0) Tryz.underlying154 hi hz0 .i64 .i64 n n (by omega) (by omega) (by rw [hz2];omega) (by omega)
 refine wpList_plain hgd fun K hK'=>?_
 unfold Oper.wp
 simp only [Int.toNat_natCast] at hm
 simp [execOp,ho,hl,hc,hm,Result.andThen]
 refine hK' _ _ (h _ ?_ ?_ ?_ ?_)
 ·have:=World.ownsRow_lit (e:=173) (size:=1) w (madeCells (Value.int IntKind.u32 0).cells (n*1)) n hbase (by unfold maxLen;omega) (size_madeCells _ _)
  unfold Own
  rw [← cellsK_make]
  rw [hz1]
  exact this
 ·exact (Below.refl base w).alloc hbase _
 ·simp
 ·exact (Below.refl _ w).alloc (Nat.le_refl _) _
end
end Go.Proofs.YtbilphfbfnohmaaGreatDoor
namespace Go.Proofs.YtbilphfbfnohmaaGreatDoor
open Go.RowKit
def remD (n k j:Nat):Nat:=n / 2 ^ (32*j) % k
def tBy (n k i:Nat):Nat:=remD n k (i+1)*4294967296+D n i
theorem remD_lt (n k j:Nat) (hk:0<k):remD n k j<k:=Nat.mod_lt _ hk
theorem tBy_or (n k i:Nat) (hk0:0<k) (hk:k<4294967296):bits BinOp.or IntKind.u64 ((remD n k (i+1):Int)*4294967296) (D n i:Int)=(tBy n k i:Int):=by
 have h1:=remD_lt n k (i+1) hk0
 have h2:=D_lt n i
 have e:(remD n k (i+1):Int)*4294967296=((remD n k (i+1)*4294967296:Nat):Int):=by simp
 rw [e,u64_or_nat _ _ (by omega) (by omega),nat_join 32 _ _ (by omega) (by omega)]
 rfl
theorem tBy_eq (n k i:Nat):tBy n k i=n / 2 ^ (32*(i+1)) % k*4294967296+D n i:=rfl
theorem tBy_div (n k i:Nat) (hk0:0<k):tBy n k i / k=D (n / k) i:=by
 have h0:=div_split n i
 have h1:n / k / 2 ^ (32*i)=n / 2 ^ (32*i) / k:=by rw [Nat.div_div_eq_div_mul,Nat.div_div_eq_div_mul,Nat.mul_comm]
 unfold D
 rw [h1,h0,tBy_eq]
 generalize n / 2 ^ (32*(i+1))=q
 have h2:=Nat.mod_add_div q k
 have hd:=D_lt n i
 generalize D n i=d at *
 have h3:d+4294967296*q=(q % k*4294967296+d)+k*(4294967296*(q / k)):=by
  have:4294967296*q=4294967296*(q % k)+4294967296*(k*(q / k)):=by rw [← Nat.mul_add,h2]
  rw [this,Nat.mul_left_comm k 4294967296 (q / k)]
  omega
 rw [h3,Nat.add_mul_div_left _ _ hk0,Nat.add_mul_mod_self_left]
 symm
 apply Nat.mod_eq_of_lt
 rw [Nat.div_lt_iff_lt_mul hk0]
 have:=Nat.mod_lt q hk0
 have h5:q % k*4294967296+4294967296≤k*4294967296:=by
  have:(q % k+1)*4294967296≤k*4294967296:=Nat.mul_le_mul_right _ (by omega)
  omega
 rw [Nat.mul_comm 4294967296 k]
 omega
theorem tBy_mod (n k i:Nat) (_hk0:0<k):tBy n k i % k=remD n k i:=by
 have h0:=div_split n i
 unfold remD
 rw [h0,tBy_eq,Nat.add_comm,Nat.add_mod,Nat.mod_mul_mod,← Nat.add_mod,Nat.mul_comm]
set_option maxRecDepth 100000 in
set_option maxHeartbeats 1000000 in
theorem by_nat {v:Value} {n:Nat} {w:World} (h:NatRep w v n) (hl:nlen n≤100000000) (k:Nat) (hk0:0<k) (hk:k<4294967296) :
  Calls Tryz.prog 212 #[v,.int .u32 k] w fun e w'=>(∃ u,e=.returned (.tuple #[u,.int .u32 ((n % k:Nat):Int)])∧Own .u32 173 w' w.heap.size u (nlen (n / k)) (D (n / k)))∧Below w.heap.size w w':=by
 obtain ⟨a,cap,rfl⟩:=h.shape
 go_enter Tryz.func212,Tryz.ntmps212
 go_wp2_with (at_make;refine mk_u32 _ rfl _ _ rfl w.heap.size (nlen n) _ _ rfl rfl rfl rfl (by omega) (Nat.le_refl _) ?_;intro w1 hown hb hz hb1)
 go_loopw [7,8] (fun rest i wr=>∃ j:Nat,i=.int .i64 ((j:Int)-1)∧j≤nlen n∧rest=.int .u64 (remD n k j)∧Own .u32 173 wr w.heap.size (.slice (some ⟨w.heap.size,0,none⟩) (nlen n) (nlen n)) (nlen n) (fun t=>if t<j then 0 else D (n / k) t)∧Below w.heap.size w wr)
  (fun _ i _=>(intOf i+1).toNat)
 case atStart=>
  refine ⟨nlen n,rfl,Nat.le_refl _,by unfold remD;rw [div_top n _ (Nat.le_refl _)];simp,hown.congr (fun t ht=>by rw [if_pos ht]),hb⟩
 case round=>
  obtain ⟨j,rfl,hj,rfl,hown1,hbr⟩:=hrel
  by_cases h0:j=0
  ·subst h0
   go_wp2_with fail
   have hq:n / k<2 ^ (32*nlen n):=Nat.lt_of_le_of_lt (Nat.div_le_self _ _) (lt_nlen n)
   have hown2:=hown1.congr (g:=D (n / k)) (fun t _=>by rw [if_neg (by omega)])
   have hrm:remD n k 0=n % k:=by simp [remD]
   have hR:=hid hrm
   have hr:=Nat.lt_trans (remD_lt n k 0 hk0) hk
   clear hrm
   refine (trimmed_own hown2 (by omega) hq).mono ?_
   rintro e w' ⟨⟨u,rfl,hu⟩,rfl⟩
   go_wp2
   go_ret2
   refine ⟨⟨u,?_,hu⟩,hbr⟩
   rw [← hR.out]
   rfl
  ·obtain ⟨i,rfl⟩:∃ i,j=i+1:=⟨j-1,by omega⟩
   have he:((i+1:Nat):Int)-1=i:=by omega
   rw [he]
   clear he
   obtain ⟨a',cap',hv,_,hcell⟩:=h.below hbr
   simp only [Value.slice.injEq,true_and] at hv
   obtain ⟨rfl,rfl⟩:=hv
   obtain ⟨b,off,rfl,_,hc0⟩:=hcell (by omega)
   have hcj:=hc0 i (by omega)
   have hoc:=hown1.cell i (by omega)
   have hof:=hown1.free i
   have hr:=Nat.lt_trans (remD_lt n k (i+1) hk0) hk
   have hd:=D_lt n i
   have hw1:=tBy_or n k i hk0 hk
   have hw2:(tBy n k i:Int) / (k:Int)=(D (n / k) i:Int):=by rw [← tBy_div n k i hk0];simp
   have hw3:(tBy n k i:Int) % (k:Int)=(remD n k i:Int):=by rw [← tBy_mod n k i hk0];simp
   have hd2:=D_lt (n / k) i
   go_wp2
   go_roundw
   case rel=>
    refine ⟨i,rfl,by omega,by rw [hw3],(hown1.store i _).congr ?_,hbr.setCell (Nat.le_refl _) _⟩
    intro t ht
    show (if t=i then _ else if t<i+1 then 0 else _)=_
    by_cases e:t=i
    ·rw [if_pos e,if_neg (by omega),e]
    ·rw [if_neg e]
     by_cases e2:t<i
     ·rw [if_pos e2,if_pos (by omega)]
     ·rw [if_neg e2,if_neg (by omega)]
   case measure=>simp [intOf]<;>omega
end Go.Proofs.YtbilphfbfnohmaaGreatDoor
namespace Go.Proofs.YtbilphfbfnohmaaGreatDoor
open Go.RowKit
theorem Tryz.info5:(Tryz.prog.info? 5).map (fun i=>(i.zero,i.size,i.bytes))=some (some (.int .u8 0),1,1):=by kernel_rfl
def KeepBut (w w':World) (v:Value):Prop:=w.heap.size≤w'.heap.size∧∀ k,k<w.heap.size→some k≠v.ownBlock→w'.heap[k]? = w.heap[k]?
theorem Own.block_lt {ik:IntKind} {e:TypeId} {w:World} {base:Nat} {v:Value} {n:Nat} {f:Nat→Nat} (h:Own ik e w base v n f) (g:Nat) (hg:v.ownBlock=some g):g<w.heap.size:=by
 obtain ⟨hl,⟨hv,_⟩ | ⟨g',cap,cur,hv,_,hh,_⟩⟩:=h
 ·subst hv;simp [Value.ownBlock] at hg
 ·subst hv
  simp [Value.ownBlock] at hg
  subst hg
  exact (Array.getElem?_eq_some_iff.1 hh).1
theorem Own.keepBut {ik:IntKind} {e:TypeId} {w w':World} {base:Nat} {u v:Value} {n:Nat} {f:Nat→Nat} (h:Own ik e w base u n f) (hk:KeepBut w w' v) (hne:∀ g,v.ownBlock=some g→g<base):Own ik e w' base u n f:=by
 obtain ⟨hl,⟨hv,h0⟩ | ⟨g',cap,cur,hv,hb,hh,hr⟩⟩:=h
 ·exact ⟨hl,.inl ⟨hv,h0⟩⟩
 ·refine ⟨hl,.inr ⟨g',cap,cur,hv,hb,?_,hr⟩⟩
  rw [hk.2 g' (Array.getElem?_eq_some_iff.1 hh).1 (fun e=>by have:=hne g' e.symm;omega)]
  exact hh
def lenOf:Value→Nat
 | .slice _ l _=>l
 | _=>0
theorem Own.lenOf {ik:IntKind} {e:TypeId} {w:World} {base:Nat} {v:Value} {n:Nat} {f:Nat→Nat} (h:Own ik e w base v n f):lenOf v=n:=by
 obtain ⟨a,c,rfl⟩:=h.shape
 rfl
section
variable {w:World} {ops:Array Oper} {rest:List Oper} {o:Oper} {a:Act} {Q:Exit→Act→World→Prop}
theorem app_u8 (hgd:o.guard=none) (s x:Operand)
  (ho:o.op=.call { callee:=.builtin .append,args:=#[s,x],argTypes:=#[71,71] })
  (base:Nat) (v:Value) (n:Nat) (f:Nat→Nat) (hs:a.eval s=v) (hown:Own .u8 5 w base v n f)
  (X:Int) (hx:a.eval x=.slice (some ⟨w.heap.size,0,none⟩) 1 1) (hX:X=((f n:Nat):Int)) (hn:n≤1000000000000) (hbase:base≤w.heap.size)
  (h:∀ v' w',Own .u8 5 w' base v' (n+1) f→Below base w w'→KeepBut w w' v→wpList Tryz.prog ops Q rest (a.put o.dst v') w') :
  wpList Tryz.prog ops Q (o::rest) a (w.alloc (.cells #[.int .u8 X] 5)):=by
 subst hX
 obtain ⟨i0,hi,hz0,hz1,hz2⟩:=info_parts Tryz.info5
 refine wpList_append_own _ hgd s x 71 ho base 5 i0 (.int .u8 0) 1 1 Tryz.underlying71 hi hz0 hz1 hz2 rfl (by decide) v n _ hs (World.ownsRow.alloc hown _)
  ⟨w.heap.size,0,none⟩ 1 1 [.int .u8 ((f n:Nat):Int)] hx rfl (cell_one_new _ _ _) (by intro u hu;simp at hu;subst hu;rfl) (by unfold maxLen;omega) (by omega) (by simp;omega) ?_
 intro v' w' hown' hgrow _
 refine h v' w' (by unfold Own;rw [cellsK_succ];exact hown') ?_ ⟨by have:=hgrow.size;simp at this;omega,fun k hk hne=>(hgrow.block k (by simp;omega) hne).trans (Below.heap_alloc _ _ _ hk)⟩
 refine (((Below.refl base w).alloc hbase _).grown hgrow (by simp;omega) ?_)
 intro k hk
 obtain ⟨hl,⟨hv,h0⟩ | ⟨g,cap,cur,hv,hg,hr⟩⟩:=hown
 ·subst hv;cases hk
 ·subst hv
  simp [Value.ownBlock] at hk
  omega
end
def chN (d:Nat):Nat:=if d<10 then 48+d else 87+d
def dgt (b n i:Nat):Nat:=n / b ^ i % b
def dlenF (b:Nat):Nat→Nat→Nat
 | 0,_=>0
 | f+1,n=>if n=0 then 0 else dlenF b f (n / b)+1
def dlen (b n:Nat):Nat:=dlenF b n n
theorem dlenF_eq (b:Nat) (hb:2≤b):∀ f n,n≤f→∀ k,dlenF b f n≤k↔n<b ^ k:=by
 intro f
 induction f with
 | zero=>intro n hn k;have:=Nat.pow_pos (n:=k) (show 0<b by omega);simp [dlenF];omega
 | succ f ih=>
  intro n hn k
  unfold dlenF
  by_cases h0:n=0
  ·have:=Nat.pow_pos (n:=k) (show 0<b by omega)
   rw [if_pos h0];omega
  ·rw [if_neg h0]
   have hlt:n / b<n:=Nat.div_lt_self (by omega) (by omega)
   cases k with
   | zero=>simp;omega
   | succ k=>
    have:=ih (n / b) (by omega) k
    rw [Nat.div_lt_iff_lt_mul (by omega)] at this
    rw [Nat.pow_succ]
    omega
theorem dlen_le_iff (b n k:Nat) (hb:2≤b):dlen b n≤k↔n<b ^ k:=dlenF_eq b hb n n (Nat.le_refl _) k
theorem dlen_lt (b n:Nat) (hb:2≤b):n<b ^ dlen b n:=(dlen_le_iff b n _ hb).1 (Nat.le_refl _)
theorem lt_dlen_iff (b n k:Nat) (hb:2≤b):k<dlen b n↔b ^ k≤n:=by
 have:=dlen_le_iff b n k hb
 omega
theorem dlen_div (b n k:Nat) (hb:2≤b):n / b ^ k=0↔dlen b n≤k:=by
 rw [dlen_le_iff b n k hb,Nat.div_eq_zero_iff_lt (Nat.pow_pos (by omega))]
theorem dgt_lt (b n i:Nat) (hb:2≤b):dgt b n i<b:=Nat.mod_lt _ (by omega)
theorem chN_lt (d:Nat) (h:d<36):chN d<256:=by unfold chN;split<;>omega
theorem dlen_bound (b n:Nat) (hb:2≤b):dlen b n≤32*nlen n:=(dlen_le_iff b n _ hb).2 (Nat.lt_of_lt_of_le (lt_nlen n) (Nat.pow_le_pow_left hb _))
def strOf (b n:Nat):List UInt8:=(List.range (dlen b n)).map fun t=>UInt8.ofNat (chN (dgt b n (dlen b n-1-t)))
theorem strOf_length (b n:Nat):(strOf b n).length=dlen b n:=by simp [strOf]
theorem dgt_step (b n k:Nat):n / b ^ k / b=n / b ^ (k+1):=by rw [Nat.pow_succ,Nat.div_div_eq_div_mul]
def alphaA:ByteArray:=⟨#[48,49,50,51,52,53,54,55,56,57,97,98,99,100,101,102,103,104,105,106,107,108,109,110,111,112,113,114,115,116,117,118,119,120,121,122]⟩
theorem alph:∀ r,(h:r<36)→(alphaA[r]'h).toNat=chN r:=by decide +kernel
theorem alphI (r:Nat) (h:r<36):(((alphaA[r]'h).toNat:Nat):Int)=((chN r:Nat):Int):=by rw [alph r h]
def revF (b n i t:Nat):Nat:=if t<i∨dlen b n-i≤t then chN (dgt b n (dlen b n-1-t)) else chN (dgt b n t)
theorem revF_low (b n i:Nat) (h:i<dlen b n / 2):revF b n i i=chN (dgt b n i):=by unfold revF;rw [if_neg (by omega)]
theorem revF_high (b n i:Nat) (h:i<dlen b n / 2):revF b n i (dlen b n-1-i)=chN (dgt b n (dlen b n-1-i)):=by unfold revF;rw [if_neg (by omega)]
theorem revF_end (b n t:Nat) (h:t<dlen b n):revF b n (dlen b n / 2) t=chN (dgt b n (dlen b n-1-t)):=by
 unfold revF
 by_cases e:t<dlen b n / 2∨dlen b n-dlen b n / 2≤t
 ·rw [if_pos e]
 ·rw [if_neg e];congr 2;omega
theorem revF_succ (b n i t:Nat) (h:i<dlen b n / 2) (ht:t<dlen b n):(if t=dlen b n-1-i then chN (dgt b n i) else if t=i then chN (dgt b n (dlen b n-1-i)) else revF b n i t)=revF b n (i+1) t:=by
 unfold revF
 by_cases e1:t=dlen b n-1-i
 ·rw [if_pos e1,if_pos (.inr (by omega))];congr 2;omega
 ·rw [if_neg e1]
  by_cases e2:t=i
  ·rw [if_pos e2,if_pos (.inl (by omega)),e2]
  ·rw [if_neg e2]
   by_cases e3:t<i∨dlen b n-i≤t
   ·rw [if_pos e3,if_pos (by omega)]
   ·rw [if_neg e3,if_neg (by omega)]
theorem run_str_of (W:World) (bv:Value) (base b n:Nat) (h:Own .u8 5 W base bv (dlen b n) (fun t=>chN (dgt b n (dlen b n-1-t)))) (hb2:2≤b) (hb:b≤36):(convert 71 9 bv).run Tryz.prog W=.ok (.string ⟨(strOf b n).toArray⟩) W:=by
 obtain ⟨a,cap,rfl,hc,hcell⟩:=h.row
 have hlen:=strOf_length b n
 rcases h.2 with ⟨hv,h0⟩ | ⟨g,cap',cur,hv,_⟩
 ·simp only [Value.slice.injEq] at hv
  obtain ⟨rfl,h1,rfl⟩:=hv
  rw [h1,Lib.run_convert_nil_bytes W 71 9 5 0 Tryz.underlying71 Tryz.underlying5 Tryz.underlying9]
  rw [h1] at hlen
  rw [List.eq_nil_of_length_eq_zero hlen]
 ·simp only [Value.slice.injEq] at hv
  obtain ⟨rfl,_,rfl⟩:=hv
  have hb:=run_convert_bytes_back (P:=Tryz.prog) W 71 9 5 ⟨g,0,none⟩ cap (strOf b n) Tryz.underlying71 Tryz.underlying5 Tryz.underlying9 (fun j hj=>by
   rw [hlen] at hj
   have h1:=h.cell j hj
   have h2:=chN_lt _ (Nat.lt_of_lt_of_le (dgt_lt b n (dlen b n-1-j) hb2) hb)
   have e:(⟨g,0,none⟩:Addr).add j=⟨g,j,none⟩:=by simp [Addr.add];intro h;exact h.symm
   rw [e,h1]
   simp [strOf]
   omega)
  rw [hlen] at hb
  exact hb
set_option maxRecDepth 100000 in
set_option maxHeartbeats 4000000 in
theorem based_nat {v:Value} {n:Nat} {w:World} (h:NatRep w v n) (hl:nlen n≤1000000) (b:Nat) (hb2:2≤b) (hb36:b≤36) :
  Calls Tryz.prog 191 #[v,.int .i64 b] w fun e w'=>e=.returned (.string ⟨(strOf b n).toArray⟩)∧Below w.heap.size w w':=by
 obtain ⟨a,cap,rfl⟩:=h.shape
 have hdb:=dlen_bound b n hb2
 go_enter Tryz.func191,Tryz.ntmps191
 go_wp2
 go_loopw [0,5] (fun av bv wr=>∃ k:Nat,k≤dlen b n∧NatRep wr av (n / b ^ k)∧Own .u8 5 wr w.heap.size bv k (fun i=>chN (dgt b n i))∧Below w.heap.size w wr)
  (fun _ bv _=>dlen b n-lenOf bv)
 case atStart=>exact ⟨0,Nat.zero_le _,by rw [Nat.pow_zero,Nat.div_one];exact h,Own.nil,Below.refl _ _⟩
 case round=>
  obtain ⟨k,hk,hav,hbv,hbr⟩:=hrel
  obtain ⟨a1,cap1,rfl⟩:=hav.shape
  by_cases hlt:k<dlen b n
  ·have hne:n / b ^ k≠0:=fun h0=>by have:=(dlen_div b n k hb2).1 h0;omega
   have hlen:0<nlen (n / b ^ k):=by have:=nlen_eq_zero (n / b ^ k);omega
   have hnl:nlen (n / b ^ k)≤nlen n:=nlen_mono (Nat.div_le_self _ _)
   have hd:=dgt_lt b n k hb2
   have hsz:=hbr.size
   have hd36:dgt b n k<36:=by omega
   have hstep:=hid (dgt_step b n k)
   have hc:=hid (by_nat hav (by omega) b (by omega) (by omega))
   have hbw:IntKind.u32.wrap (b:Int)=b:=by rw [wrap_u32_nat,Nat.mod_eq_of_lt (by omega)]
   have hdg:n / b ^ k % b=dgt b n k:=rfl
   rw [hdg] at hc
   clear hdg
   go_wp2_with fail
   (with_reducible refine hc.out.mono ?_);rintro e w1 ⟨⟨u,rfl,hu⟩,hb1⟩
   obtain ⟨ua,uc,rfl⟩:=hu.shape
   have hul:nlen (n / b ^ k / b)<nlen (n / b ^ k)∨(nlen (n / b ^ k / b)=nlen (n / b ^ k)):=by have:=nlen_mono (Nat.div_le_self (n / b ^ k) b);omega
   have hbv1:=hbv.keep hb1 (Nat.le_refl _)
   have hsz1:=hb1.size
   go_wp2_with (at_builtin;refine app_u8 rfl _ _ rfl w.heap.size _ k _ rfl hbv1 _ rfl ?_ (by omega) (by omega) ?_;rotate_left;intro v' w2 hown2 hb2 hkb)
   ·go_roundw
    case rel=>
     refine ⟨k+1,hlt,?_,hown2,hbr.trans ((hb1.mono hsz).trans hb2)⟩
     have hu2:=(hu.keepBut hkb (fun g hg=>hbv.block_lt g hg)).nat
     rw [← hstep.out]
     exact hu2
    case measure=>
     have e1:=hbv.lenOf
     have e2:=hown2.lenOf
     omega
   ·exact alphI _ hd36
  ·obtain rfl:k=dlen b n:=by omega
   have hz:¬ 0<nlen (n / b ^ dlen b n):=by
    rw [(dlen_div b n (dlen b n) hb2).2 (Nat.le_refl _)];decide
   obtain ⟨ba,bc,rfl⟩:=hbv.shape
   have hbv0:=hbv.congr (g:=revF b n 0) (fun t ht=>by unfold revF;rw [if_neg (by omega)])
   clear hbv hav hlt hk
   obtain ⟨wo,rfl⟩:∃ wo:World,wo=wr:=⟨_,rfl⟩
   go_wp2
   go_loopw [28] (fun iv wr=>∃ i:Nat,iv=.int .i64 i∧i≤dlen b n / 2∧Own .u8 5 wr w.heap.size (.slice ba (dlen b n) bc) (dlen b n) (revF b n i)∧Below w.heap.size w wr)
    (fun iv _=>dlen b n / 2-(intOf iv).toNat)
   case atStart=>exact ⟨0,rfl,Nat.zero_le _,hbv0,hbr⟩
   case round=>
    obtain ⟨i,rfl,hi,hown,hbw⟩:=hrel
    clear hbv0 hbr
    by_cases hlt2:i<dlen b n / 2
    ·obtain ⟨g,rfl⟩:=hown.addr (by omega)
     have hc1:=hown.cell i (by omega)
     have hc2:=hown.cell (dlen b n-1-i) (by omega)
     have hf1:=hown.free i
     have hf2:=hown.free (dlen b n-1-i)
     rw [revF_low b n i hlt2] at hc1
     rw [revF_high b n i hlt2] at hc2
     have hne:i<dlen b n-1-i:=by omega
     go_wp2
     go_region
     all_goals
      go_wp2
      go_roundw
      case rel=>
       have hs:=(hown.store i (chN (dgt b n (dlen b n-1-i)))).store (dlen b n-1-i) (chN (dgt b n i))
       have hs2:Own .u8 5 _ w.heap.size _ _ (revF b n (i+1)):=hs.congr (fun t ht=>revF_succ b n i t hlt2 ht)
       have hge:=hown.base_le
       exact ⟨i+1,by go_num,by omega,hs2,((hbw.setCell (p:=⟨g,i,none⟩) hge _).setCell (p:=⟨g,dlen b n-1-i,none⟩) hge _).drew⟩
      case measure=>simp [intOf]<;>omega
    ·obtain rfl:i=dlen b n / 2:=by omega
     have hrun:=run_str_of wr _ _ b n (hown.congr (fun t ht=>revF_end b n t ht)) hb2 hb36
     go_wp2
     go_ret
     exact ⟨rfl,hbw⟩
end Go.Proofs.YtbilphfbfnohmaaGreatDoor
namespace Go.Proofs.YtbilphfbfnohmaaGreatDoor
open Go.RowKit Go.Shelf
attribute [local go_sem] Oper.semAt_some
def encP (x:Nat×Nat):Array Value:=#[.int .u64 ((x.1 % 4294967296:Nat):Int),.int .u64 ((x.2 % 4294967296:Nat):Int)]
def KpD (B p q:Nat) (W W':World):Prop:=Below B W W'∧W'.heap[p]? = W.heap[p]?∧W'.heap[q]? = W.heap[q]?
theorem KpD.refl (B p q:Nat) (W:World):KpD B p q W W:=⟨Below.refl _ _,rfl,rfl⟩
theorem KpD.trans {B p q:Nat} {X Y Z:World} (h:KpD B p q X Y) (k:KpD B p q Y Z):KpD B p q X Z:=⟨h.1.trans k.1,k.2.1.trans h.2.1,k.2.2.trans h.2.2⟩
end Go.Proofs.YtbilphfbfnohmaaGreatDoor
namespace Go.Proofs.YtbilphfbfnohmaaGreatDoor
open Go.RowKit Go.Shelf
attribute [local go_sem] Oper.semAt_some
end Go.Proofs.YtbilphfbfnohmaaGreatDoor
namespace Go.Proofs.YtbilphfbfnohmaaGreatDoor
open Go.RowKit Go.Shelf
attribute [local go_sem] Oper.semAt_some
end Go.Proofs.YtbilphfbfnohmaaGreatDoor
namespace Go.Proofs.YtbilphfbfnohmaaGreatDoor
open Go.RowKit
def NumV (w:World) (v:Value) (n:Nat) (neg lg:Bool):Prop:=∃ s,v=.agg #[s,.bool neg,.bool lg]∧NatRep w s n
theorem NumV.below {w w':World} {v:Value} {n:Nat} {neg lg:Bool} (h:NumV w v n neg lg) (hb:Below w.heap.size w w'):NumV w' v n neg lg:=by
 obtain ⟨s,rfl,h⟩:=h
 exact ⟨s,rfl,h.below hb⟩
def IntV (w:World) (v:Value) (z:Int):Prop:=NumV w v z.natAbs (decide (z<0)) false
theorem IntV.below {w w':World} {v:Value} {z:Int} (h:IntV w v z) (hb:Below w.heap.size w w'):IntV w' v z:=NumV.below h hb
theorem bcell {W w1:World} (hb:Below W.heap.size W w1):(∀ b o,b<W.heap.size→w1.cell? ⟨b,o,none⟩=W.cell? ⟨b,o,none⟩)∧(∀ b o,b<W.heap.size→w1.frozen? ⟨b,o,none⟩=W.frozen? ⟨b,o,none⟩):=
 ⟨fun b o h=>hb.cell (p:=⟨b,o,none⟩) h,fun b o h=>hb.frozen (p:=⟨b,o,none⟩) h⟩
def Blk (w:World) (b:Nat) (cs:Array Value) (t:TypeId):Prop:=w.heap[b]? = some (.cells cs t (0,0))
theorem Blk.new (w:World) (cs:Array Value) (t:TypeId):Blk (w.alloc (.cells cs t)) w.heap.size cs t:=World.alloc_heap_new w _
theorem Blk.lt {w:World} {b:Nat} {cs:Array Value} {t:TypeId} (h:Blk w b cs t):b<w.heap.size:=(Array.getElem?_eq_some_iff.1 h).1
theorem Blk.below {w w':World} {b B:Nat} {cs:Array Value} {t:TypeId} (h:Blk w b cs t) (hb:Below B w w') (hB:b<B):Blk w' b cs t:=(hb.block b hB).trans h
theorem Blk.later {w w':World} {b:Nat} {cs:Array Value} {t:TypeId} (h:Blk w b cs t) (hb:Below w.heap.size w w'):Blk w' b cs t:=h.below hb h.lt
theorem Blk.alloc {w:World} {b:Nat} {cs:Array Value} {t:TypeId} (h:Blk w b cs t) (o:Obj):Blk (w.alloc o) b cs t:=h.later ((Below.refl _ w).alloc (Nat.le_refl _) o)
theorem Blk.drew {w:World} {b:Nat} {cs:Array Value} {t:TypeId} (h:Blk w b cs t):Blk w.drew b cs t:=h
theorem Blk.cell {w:World} {b:Nat} {cs:Array Value} {t:TypeId} (h:Blk w b cs t) (i:Nat):w.cell? ⟨b,i,none⟩=cs[i]?:=by
 have h':w.heap[b]? = _:=h
 simp [World.cell?,h']
theorem Blk.free {w:World} {b:Nat} {cs:Array Value} {t:TypeId} (h:Blk w b cs t) (i:Nat):w.frozen? ⟨b,i,none⟩=false:=by
 have h':w.heap[b]? = _:=h
 simp [World.frozen?,h']
theorem Blk.three {w:World} {b:Nat} {x y z:Value} {t:TypeId} (h:Blk w b #[x,y,z] t):(w.cell? ⟨b,0,none⟩=some x∧w.cell? ⟨b,1,none⟩=some y∧w.cell? ⟨b,2,none⟩=some z)∧(w.frozen? ⟨b,0,none⟩=false∧w.frozen? ⟨b,1,none⟩=false∧w.frozen? ⟨b,2,none⟩=false):=
 ⟨⟨h.cell 0,h.cell 1,h.cell 2⟩,h.free 0,h.free 1,h.free 2⟩
def RetInt (z:Int) (w:World) (e:Ending) (w':World):Prop:=∃ v,e=.returned v∧IntV w' v z∧Below w.heap.size w w'
def OwnInt (w:World) (base:Nat) (v:Value) (z:Int):Prop:=∃ s,v=.agg #[s,.bool (decide (z<0)),.bool false]∧Own .u32 173 w base s (nlen z.natAbs) (D z.natAbs)
theorem OwnInt.int {w:World} {base:Nat} {v:Value} {z:Int} (h:OwnInt w base v z):IntV w v z:=by
 obtain ⟨s,rfl,h⟩:=h
 exact ⟨s,rfl,h.nat⟩
def FreshInt (z:Int) (w:World) (e:Ending) (w':World):Prop:=∃ v,e=.returned v∧OwnInt w' w.heap.size v z∧Below w.heap.size w w'
set_option maxRecDepth 100000 in
set_option maxHeartbeats 1000000 in
theorem of_nat {v:Value} {n:Nat} {w:World} (h:NatRep w v n) (neg:Bool) (hl:nlen n≤100000000) :
  Calls Tryz.prog 211 #[v,.bool neg] w fun e w'=>e=.returned (.agg #[v,.bool (neg && decide (0<n)),.bool false])∧Below w.heap.size w w':=by
 obtain ⟨a,cap,rfl⟩:=h.shape
 have hn:decide (0<n)=decide (0<nlen n):=by
  have:=nlen_eq_zero n
  by_cases h0:n=0
  ·rw [h0];rfl
  ·rw [decide_eq_true (by omega),decide_eq_true (by omega)]
 rw [hn]
 clear hn
 cases neg
 ·go_enter Tryz.func211,Tryz.ntmps211
  go_wp2
  refine bodyPost_ret (v:=.agg #[.slice a (nlen n) cap,.bool false,.bool false]) (by simp [results,Tryz.results211,go_sem]) rfl ⟨rfl,?_⟩
  exact (Below.refl _ _).alloc (Nat.le_refl _) _
 ·go_enter Tryz.func211,Tryz.ntmps211
  go_wp2
  refine bodyPost_ret (v:=.agg #[.slice a (nlen n) cap,.bool (decide (0<nlen n)),.bool false]) (by simp [results,Tryz.results211,go_sem]) rfl ⟨by simp,?_⟩
  exact (Below.refl _ _).alloc (Nat.le_refl _) _
set_option maxRecDepth 100000 in
set_option maxHeartbeats 1000000 in
theorem opposite_int {v:Value} {z:Int} {w:World} (h:IntV w v z) (hl:nlen z.natAbs≤10000000):Calls Tryz.prog 189 #[v] w (RetInt (-z) w):=by
  obtain ⟨s,rfl,h⟩:=h
  obtain ⟨a,cap,rfl⟩:=h.shape
  have hb:Below w.heap.size w ((w.alloc (.cells #[.slice a (nlen z.natAbs) cap,.bool (decide (z<0)),.bool false] 156)).alloc (.cells #[.slice none 0 0,.bool false,.bool false] 156)):=((Below.refl _ _).alloc (Nat.le_refl _) _).alloc (by simp) _
  go_enter Tryz.func189,Tryz.ntmps189
  go_wp2_with fail
  refine (of_nat (h.below hb) _ (by omega)).mono ?_
  rintro e w1 ⟨rfl,hb1⟩
  obtain ⟨hc,hf⟩:=bcell hb1
  go_wp2
  have hz:=hb1.size
  simp at hz
  have hbw:Below w.heap.size w w1:=hb.trans (hb1.mono (by simp;omega))
  have hbe:Below w.heap.size w (((w1.setCell ⟨w.heap.size+1,0,none⟩ (.slice a (nlen z.natAbs) cap)).setCell ⟨w.heap.size+1,1,none⟩ (.bool (!decide (z<0) && !decide (z=0)))).setCell ⟨w.heap.size+1,2,none⟩ (.bool false)):=
    ((hbw.setCell (p:=⟨w.heap.size+1,0,none⟩) (by simp) _).setCell (p:=⟨w.heap.size+1,1,none⟩) (by simp) _).setCell (p:=⟨w.heap.size+1,2,none⟩) (by simp) _
  refine bodyPost_ret (v:=.agg #[.slice a (nlen z.natAbs) cap,.bool (!decide (z<0) && !decide (z=0)),.bool false]) (by simp [results,Tryz.results189,go_sem,hc]) rfl ⟨_,rfl,⟨.slice a (nlen z.natAbs) cap,?_,?_⟩,hbe⟩
  · have e : (!decide (z < 0) && !decide (z = 0)) = decide (-z < 0) := by
      by_cases h1:z<0
      · simp [h1];omega
      · by_cases h2:z=0
        · simp [h2]
        · simp [h1,h2];omega
    rw [e]
  · rw [Int.natAbs_neg]
    exact h.below hbe
end Go.Proofs.YtbilphfbfnohmaaGreatDoor
namespace Go.Proofs.YtbilphfbfnohmaaGreatDoor
open Go.RowKit
theorem Blk.set3 {w:World} {b:Nat} {x y z:Value} {t:TypeId} (h:Blk w b #[x,y,z] t) (x' y' z':Value):Blk (((w.setCell ⟨b,0,none⟩ x').setCell ⟨b,1,none⟩ y').setCell ⟨b,2,none⟩ z') b #[x',y',z'] t:=by
 have h0:w.heap[b]? = _:=h
 have h1:=heap_setCell_same w b 0 _ t x' h0
 have h2:=heap_setCell_same _ b 1 _ t y' h1
 have h3:=heap_setCell_same _ b 2 _ t z' h2
 exact h3
theorem own_set3 {ik:IntKind} {e:TypeId} {w:World} {base b n:Nat} {v:Value} {f:Nat→Nat} (h:Own ik e w base v n f) (x y z:Value) (hb:b<base):Own ik e (((w.setCell ⟨b,0,none⟩ x).setCell ⟨b,1,none⟩ y).setCell ⟨b,2,none⟩ z) base v n f:=
 ownsRow_setCell_below (ownsRow_setCell_below (ownsRow_setCell_below h (a:=⟨b,0,none⟩) hb x) (a:=⟨b,1,none⟩) hb y) (a:=⟨b,2,none⟩) hb z
def FreshNum (n:Nat) (neg:Bool) (w:World) (e:Ending) (w':World):Prop:=∃ s,e=.returned (.agg #[s,.bool (neg && decide (0<n)),.bool false])∧Own .u32 173 w' w.heap.size s (nlen n) (D n)∧Below w.heap.size w w'
end Go.Proofs.YtbilphfbfnohmaaGreatDoor
namespace Go.Proofs.YtbilphfbfnohmaaGreatDoor
open Go.RowKit
theorem IntV.shape {w:World} {v:Value} {z:Int} (h:IntV w v z):∃ a cap,v=.agg #[.slice a (nlen z.natAbs) cap,.bool (decide (z<0)),.bool false]∧NatRep w (.slice a (nlen z.natAbs) cap) z.natAbs:=by
 obtain ⟨s,rfl,h⟩:=h
 obtain ⟨a,cap,rfl⟩:=h.shape
 exact ⟨a,cap,rfl,h⟩
theorem IntV.mk {w:World} {s:Value} {z:Int} {n:Nat} {b:Bool} (h:NatRep w s n) (hn:n=z.natAbs) (hb:b=decide (z<0)):IntV w (.agg #[s,.bool b,.bool false]) z:=by
 subst hn;subst hb;exact ⟨s,rfl,h⟩
theorem OwnInt.mk {w:World} {base:Nat} {s:Value} {z:Int} {n:Nat} {b:Bool} (h:Own .u32 173 w base s (nlen n) (D n)) (hn:n=z.natAbs) (hb:b=decide (z<0)):OwnInt w base (.agg #[s,.bool b,.bool false]) z:=by
 subst hn;subst hb;exact ⟨s,rfl,h⟩
theorem FreshNum.int {n:Nat} {neg:Bool} {z:Int} {w:World} {e:Ending} {w':World} (h:FreshNum n neg w e w') (hn:n=z.natAbs) (hb:(neg && decide (0<n))=decide (z<0)):FreshInt z w e w':=by
 obtain ⟨s,rfl,hr,hbl⟩:=h
 exact ⟨_,rfl,OwnInt.mk hr hn hb,hbl⟩
end Go.Proofs.YtbilphfbfnohmaaGreatDoor
namespace Go.Proofs.YtbilphfbfnohmaaGreatDoor
open Go.RowKit
section
variable {P:Program} {ops:Array Oper} {Q:Exit→Act→World→Prop} {md:Region.Mode} {S:World→Prop} {late:Nat→Bool}
def anyU (P:Program) (md:Region.Mode) (ops:Array Oper) (Q:Exit→Act→World→Prop) (late:Nat→Bool) (S:World→Prop):Nat→Array Bool→Act→World→Prop
 | 0,listed,a,w=>Region.ready md ops listed=[]∧Q .normal a w
 | fuel+1,listed,a,w=>(Region.ready md ops listed=[]→Q .normal a w)∧
   ∀ i∈Region.ready md ops listed,wpOp P ops Q i (fun b u=>(late i=true∨S u)∧anyU P md ops Q late S fuel (listed.setIfInBounds i true) b u) a w
theorem any_of_U:∀ (fuel:Nat) (listed:Array Bool) (a:Act) (w:World),anyU P md ops Q late S fuel listed a w→wpAny P md ops Q fuel listed a w
 | 0,_,_,_,h=>h
 | fuel+1,_,_,_,h=>⟨h.1,fun i hi=>wpOp_mono (fun b u k=>any_of_U fuel _ b u k.2) (h.2 i hi)⟩
theorem unlisted_of_ready {i:Nat} {listed:Array Bool} (h:i∈Region.ready md ops listed):listed.getD i false=false:=by
 have h0:=(mem_ready.1 h).1
 by_cases hlt:i<listed.size
 ·simp [hlt] at h0 ⊢;exact h0
 ·simp [Array.getElem?_eq_none (Nat.le_of_not_lt hlt)]
def Closed (md:Region.Mode) (ops:Array Oper) (listed:Array Bool):Prop:=∀ j oj,ops[j]? = some oj→listed.getD j false=true→∀ e∈oj.after,Region.binds md e=true→listed.getD e.on false=true
theorem Closed.add {j:Nat} {listed:Array Bool} (h:Closed md ops listed) (hj:j∈Region.ready md ops listed):Closed md ops (listed.setIfInBounds j true):=by
 obtain ⟨_,oj,hoj,hall⟩:=mem_ready.1 hj
 intro k ok hk hl e he hb
 apply getD_set_true
 rcases Nat.decEq j k with hjk | rfl
 ·rw [getD_set_ne false hjk] at hl
  exact h k ok hk hl e he hb
 ·have:=Option.some.inj (hoj.symm.trans hk)
  subst this
  exact hall e he hb
def closedB (md:Region.Mode) (ops:Array Oper) (listed:Array Bool):Bool:=(List.range ops.size).all fun j=>!listed.getD j false || ((ops[j]?).map fun o=>o.after.all fun e=>!Region.binds md e || listed.getD e.on false).getD true
theorem closedB_spec {listed:Array Bool} (h:closedB md ops listed=true):Closed md ops listed:=by
 intro j oj hj hl e he hb
 have h1:=List.all_eq_true.1 h j (List.mem_range.2 (Array.getElem?_eq_some_iff.1 hj).1)
 rw [hl,hj] at h1
 have h2:(oj.after.all fun e=>!Region.binds md e || listed.getD e.on false)=true:=h1
 have h3:=Array.all_eq_true_iff_forall_mem.1 h2 e he
 rw [hb] at h3
 exact h3
theorem U_begin {id:Nat} {a:Act} {w:World} (hm:P.follows .mixedOrders=true) (h:anyU P .any ops Q late S ops.size (Array.replicate ops.size false) a w.drew):(Code.region id ops true).wp P Q a w:=
 wp_region_any hm (any_of_U _ _ _ _ h)
theorem U_step {j:Nat} {o:Oper} {fuel:Nat} {listed:Array Bool} {a:Act} {w:World} (hr:Region.ready md ops listed=[j]) (ho:ops[j]? = some o)
  (h:∀ K:Act→World→Prop,Hid (∀ b u,(late j=true∨S u)→anyU P md ops Q late S fuel (listed.setIfInBounds j true) b u→K b u)→if Region.wanted o (yielded ops a.tmps)=true then Oper.wp P o a w K Q else K (a.put o.dst undef) w) :
  anyU P md ops Q late S (fuel+1) listed a w:=by
 refine ⟨fun h0=>(by rw [hr] at h0;cases h0),fun i hi=>?_⟩
 rw [hr] at hi
 obtain rfl:i=j:=by simpa using hi
 exact wpOp_step ho fun K hK=>h K fun b u h1 h2=>hK b u ⟨h1,h2⟩
theorem U_two {j1 j2:Nat} {o1 o2:Oper} {fuel:Nat} {listed:Array Bool} {a:Act} {w:World} (hr:Region.ready md ops listed=[j1,j2]) (ho1:ops[j1]? = some o1) (ho2:ops[j2]? = some o2)
  (h1:∀ K:Act→World→Prop,Hid (∀ b u,(late j1=true∨S u)→anyU P md ops Q late S fuel (listed.setIfInBounds j1 true) b u→K b u)→if Region.wanted o1 (yielded ops a.tmps)=true then Oper.wp P o1 a w K Q else K (a.put o1.dst undef) w)
  (h2:∀ K:Act→World→Prop,Hid (∀ b u,(late j2=true∨S u)→anyU P md ops Q late S fuel (listed.setIfInBounds j2 true) b u→K b u)→if Region.wanted o2 (yielded ops a.tmps)=true then Oper.wp P o2 a w K Q else K (a.put o2.dst undef) w) :
  anyU P md ops Q late S (fuel+1) listed a w:=by
 refine ⟨fun h0=>(by rw [hr] at h0;cases h0),fun i hi=>?_⟩
 rw [hr] at hi
 simp only [List.mem_cons,List.mem_nil_iff,or_false] at hi
 rcases hi with rfl | rfl
 ·exact wpOp_step ho1 fun K hK=>h1 K fun b u h1 h2=>hK b u ⟨h1,h2⟩
 ·exact wpOp_step ho2 fun K hK=>h2 K fun b u h1 h2=>hK b u ⟨h1,h2⟩
theorem U_done {listed:Array Bool} {a:Act} {w:World} (hr:Region.ready md ops listed=[]) (h:Q .normal a w):∀ fuel,anyU P md ops Q late S fuel listed a w
 | 0=>⟨hr,h⟩
 | _+1=>⟨fun _=>h,by rw [hr];simp⟩
end
end Go.Proofs.YtbilphfbfnohmaaGreatDoor
namespace Go.Proofs.YtbilphfbfnohmaaGreatDoor
open Go.RowKit
def sgnInt (neg:Bool) (n:Nat):Int:=if neg then -(n:Int) else (n:Int)
theorem IntV.of {w:World} {s:Value} {n:Nat} (neg:Bool) (h:NatRep w s n):IntV w (.agg #[s,.bool (neg && decide (0<n)),.bool false]) (sgnInt neg n):=by
 refine IntV.mk h ?_ ?_
 ·cases neg<;>simp [sgnInt]
 ·cases neg
  ·simp [sgnInt]
  ·simp [sgnInt]
theorem OwnInt.keep {w w':World} {base:Nat} {v:Value} {z:Int} (h:OwnInt w base v z) (hb:Below w.heap.size w w'):OwnInt w' base v z:=by
 obtain ⟨s,rfl,h⟩:=h
 exact ⟨s,rfl,h.keep hb (Nat.le_refl _)⟩
theorem OwnInt.mono {w:World} {base base':Nat} {v:Value} {z:Int} (h:OwnInt w base v z) (hb:base'≤base):OwnInt w base' v z:=by
 obtain ⟨s,rfl,h⟩:=h
 exact ⟨s,rfl,h.mono hb⟩
theorem OwnInt.set3 {w:World} {base b:Nat} {v:Value} {z:Int} (h:OwnInt w base v z) (hb:b<base) (x y t:Value):OwnInt (((w.setCell ⟨b,0,none⟩ x).setCell ⟨b,1,none⟩ y).setCell ⟨b,2,none⟩ t) base v z:=by
 obtain ⟨s,rfl,h⟩:=h
 exact ⟨s,rfl,own_set3 h x y t hb⟩
theorem OwnInt.of {w:World} {base:Nat} {s:Value} {n:Nat} (neg:Bool) (h:Own .u32 173 w base s (nlen n) (D n)):OwnInt w base (.agg #[s,.bool (neg && decide (0<n)),.bool false]) (sgnInt neg n):=by
 refine OwnInt.mk h ?_ ?_
 ·cases neg<;>simp [sgnInt]
 ·cases neg<;>simp [sgnInt]
end Go.Proofs.YtbilphfbfnohmaaGreatDoor
namespace Go.Proofs.YtbilphfbfnohmaaGreatDoor
open Go.RowKit
theorem dlen_zero_iff (b n:Nat) (hb:2≤b):dlen b n=0↔n=0:=by
 have:=dlen_le_iff b n 0 hb
 simp at this;omega
theorem strOf_isEmpty (b n:Nat) (hb:2≤b):(strOf b n).isEmpty=decide (n=0):=by
 have h1:=strOf_length b n
 have h2:=dlen_zero_iff b n hb
 by_cases h0:n=0
 ·rw [decide_eq_true h0]
  rw [h2.2 h0] at h1
  rw [List.eq_nil_of_length_eq_zero h1];rfl
 ·rw [decide_eq_false h0]
  cases hs:strOf b n with
  | nil=>rw [hs] at h1;simp at h1;omega
  | cons x l=>rfl
def numText (b n:Nat) (neg:Bool):List UInt8:=if n=0 then [48] else if neg then 45::strOf b n else strOf b n
theorem decimal_nat {v:Value} {n:Nat} {w:World} (h:NatRep w v n) (hl:nlen n≤1000000) :
  Calls Tryz.prog 198 #[v] w fun e w'=>e=.returned (.string ⟨(strOf 10 n).toArray⟩)∧Below w.heap.size w w':=by
 obtain ⟨a,cap,rfl⟩:=h.shape
 go_enter Tryz.func198,Tryz.ntmps198
 go_wp2_with fail
 refine (based_nat h hl 10 (by decide) (by decide)).mono ?_
 rintro e w1 ⟨rfl,hb⟩
 go_wp2
 go_ret
 exact ⟨rfl,hb⟩
set_option maxRecDepth 100000 in
set_option maxHeartbeats 2000000 in
theorem text_num {v:Value} {n:Nat} {neg lg:Bool} {w:World} (h:NumV w v n neg lg) (hl:nlen n≤1000000) (b:Nat) (hb2:2≤b) (hb36:b≤36) :
  Calls Tryz.prog 154 #[v,.int .i64 b] w fun e w'=>e=.returned (.string ⟨(numText b n neg).toArray⟩)∧Below w.heap.size w w':=by
 obtain ⟨s,rfl,h⟩:=h
 obtain ⟨a,cap,rfl⟩:=h.shape
 have k1:=Blk.new w #[.slice a (nlen n) cap,.bool neg,.bool lg] 156
 have hb0:Below w.heap.size w (w.alloc (.cells #[.slice a (nlen n) cap,.bool neg,.bool lg] 156)):=(Below.refl _ _).alloc (Nat.le_refl _) _
 have hc:=hid (based_nat (h.below hb0) hl b hb2 hb36)
 have hlen:=strOf_length b n
 have hdl:=dlen_bound b n hb2
 have hem:=strOf_isEmpty b n hb2
 go_enter Tryz.func154,Tryz.ntmps154
 go_wp2_with fail
 (with_reducible refine hc.out.mono ?_);rintro e w1 ⟨rfl,hb1⟩
 obtain ⟨⟨p1,p2,p3⟩,_⟩:=(k1.later hb1).three
 have hbw:=hb0.trans (hb1.mono (by simp))
 have hsz:(strOf b n).length≤32000000:=by omega
 clear hlen hdl
 by_cases h0:n=0
 ·rw [decide_eq_true h0] at hem
  have hn:numText b n neg=[48]:=by rw [numText,if_pos h0]
  have HN:=hid hn
  clear h0 hn
  go_wp2
  go_ret
  exact ⟨by rw [HN.out];rfl,hbw⟩
 ·rw [decide_eq_false h0] at hem
  cases neg
  ·have hn:numText b n false=strOf b n:=by rw [numText,if_neg h0];rfl
   have HN:=hid hn
   clear h0 hn
   go_wp2
   go_ret
   exact ⟨by rw [HN.out];rfl,hbw⟩
  ·have hn:numText b n true=45::strOf b n:=by rw [numText,if_neg h0];rfl
   have HN:=hid hn
   clear h0 hn
   go_wp2
   go_ret
   exact ⟨by rw [HN.out];rfl,hbw⟩
def big600:Nat:=((10 ^ 60) ^ 2) ^ 5
def resOf (z:Int):List UInt8×Int:=if z.natAbs<big600 then (numText 10 z.natAbs (decide (z<0)),0) else ([],4)
theorem big600_le:big600≤2 ^ 2010:=by
 have h1:(10:Nat) ^ 60≤2 ^ 201:=by decide
 have h2:=Nat.pow_le_pow_left (Nat.pow_le_pow_left h1 2) 5
 have e:(2:Nat) ^ 2010=((2 ^ 201) ^ 2) ^ 5:=by simp only [← Nat.pow_mul,Nat.reduceMul]
 rw [e];exact h2
theorem pow_chain (t a b c k:Nat) (hk:k=a*b*c):((t ^ a) ^ b) ^ c=t ^ k:=by
 rw [hk,Nat.pow_mul,Nat.pow_mul]
theorem big600_eq (k:Nat) (hk:k=600):big600=10 ^ k:=by
 unfold big600
 exact pow_chain 10 60 2 5 k (by omega)
theorem bits_2010 (n:Nat) (h:n<big600):nbits n≤2010:=(nbits_le_iff n 2010).2 (Nat.lt_of_lt_of_le h big600_le)
theorem digits_600 (n:Nat):(dlen 10 n≤600)↔n<big600:=by
 have key:∀ k,k=600→((dlen 10 n≤k)↔n<big600):=by
  intro k hk
  rw [big600_eq k hk]
  exact dlen_le_iff 10 n k (by decide)
 exact key 600 rfl
theorem text_num10 {v:Value} {n:Nat} {neg lg:Bool} {w:World} (h:NumV w v n neg lg) (hl:nlen n≤1000000) :
  Calls Tryz.prog 154 #[v,.int .i64 10] w fun e w'=>e=.returned (.string ⟨(numText 10 n neg).toArray⟩)∧Below w.heap.size w w':=
 text_num h hl 10 (by decide) (by decide)
set_option maxRecDepth 100000 in
set_option maxHeartbeats 2000000 in
theorem result_long {v:Value} {n:Nat} {neg:Bool} {w:World} (h:NumV w v n neg true) :
  Calls Tryz.prog 168 #[v] w fun e w'=>e=.returned (.tuple #[.string ⟨#[]⟩,.int .i64 4])∧Below w.heap.size w w':=by
 obtain ⟨s,rfl,h⟩:=h
 obtain ⟨a,cap,rfl⟩:=h.shape
 have hb0:Below w.heap.size w (w.alloc (.cells #[.slice a (nlen n) cap,.bool neg,.bool true] 156)):=(Below.refl _ _).alloc (Nat.le_refl _) _
 go_enter Tryz.func168,Tryz.ntmps168
 go_wp2
 go_ret2
 exact ⟨rfl,hb0⟩
set_option maxRecDepth 100000 in
set_option maxHeartbeats 2000000 in
theorem result_num {v:Value} {n:Nat} {neg:Bool} {w:World} (h:NumV w v n neg false) (hl:nlen n≤1000000) :
  Calls Tryz.prog 168 #[v] w fun e w'=>e=.returned (if n<big600 then .tuple #[.string ⟨(numText 10 n neg).toArray⟩,.int .i64 0] else .tuple #[.string ⟨#[]⟩,.int .i64 4])∧Below w.heap.size w w':=by
 obtain ⟨s,rfl,h⟩:=h
 obtain ⟨a,cap,rfl⟩:=h.shape
 have k1:=Blk.new w #[.slice a (nlen n) cap,.bool neg,.bool false] 156
 have hb0:Below w.heap.size w (w.alloc (.cells #[.slice a (nlen n) cap,.bool neg,.bool false] 156)):=(Below.refl _ _).alloc (Nat.le_refl _) _
 have c1:=hid (bits_nat (h.below hb0) (by omega))
 have c2:=hid (decimal_nat (h.below hb0) hl)
 have hlen:=strOf_length 10 n
 have hdg:=digits_600 n
 have hbt:=nbits_le_nlen n
 have hdl:=dlen_bound 10 n (by decide)
 have hsz:(strOf 10 n).length≤32000000:=by omega
 by_cases hbits:nbits n≤2010
 ·by_cases hn:n<big600
  ·rw [if_pos hn]
   have hd:(strOf 10 n).length≤600:=by rw [hlen];exact hdg.2 hn
   have HN:=hid hn
   clear hlen hdg hdl hn
   go_enter Tryz.func168,Tryz.ntmps168
   go_wp2_with fail
   (with_reducible refine c1.out.mono ?_);rintro e w' ⟨rfl,rfl⟩
   go_wp2_with fail
   (with_reducible refine c2.out.mono ?_);rintro e w1 ⟨rfl,hb1⟩
   obtain ⟨⟨p1,p2,p3⟩,_⟩:=(k1.later hb1).three
   have hbw:=hb0.trans (hb1.mono (by simp))
   have c3:=hid (text_num10 (v:=.agg #[.slice a (nlen n) cap,.bool neg,.bool false]) ⟨_,rfl,h.below hbw⟩ hl)
   go_wp2_with fail
   (with_reducible refine c3.out.mono ?_);rintro e w2 ⟨rfl,hb2⟩
   go_wp2
   go_ret2
   exact ⟨rfl,hbw.trans (hb2.mono hbw.size)⟩
  ·rw [if_neg hn]
   have hd:600<(strOf 10 n).length:=by
    rw [hlen]
    have:¬ dlen 10 n≤600:=fun hh=>hn (hdg.1 hh)
    omega
   clear hlen hdg hdl hn
   go_enter Tryz.func168,Tryz.ntmps168
   go_wp2_with fail
   (with_reducible refine c1.out.mono ?_);rintro e w' ⟨rfl,rfl⟩
   go_wp2_with fail
   (with_reducible refine c2.out.mono ?_);rintro e w1 ⟨rfl,hb1⟩
   go_wp2
   go_ret2
   exact ⟨rfl,hb0.trans (hb1.mono (by simp))⟩
 ·have hn:¬ n<big600:=fun hh=>hbits (bits_2010 n hh)
  rw [if_neg hn]
  clear hn hdg
  have hbits':2010<nbits n:=by omega
  go_enter Tryz.func168,Tryz.ntmps168
  go_wp2_with fail
  (with_reducible refine c1.out.mono ?_);rintro e w' ⟨rfl,rfl⟩
  go_wp2
  go_ret2
  exact ⟨rfl,hb0⟩
theorem result_int {v:Value} {z:Int} {w:World} (h:IntV w v z) (hl:nlen z.natAbs≤1000000) :
  Calls Tryz.prog 168 #[v] w fun e w'=>e=.returned (.tuple #[.string ⟨(resOf z).1.toArray⟩,.int .i64 (resOf z).2])∧Below w.heap.size w w':=by
 refine (result_num h hl).mono ?_
 rintro e w' ⟨rfl,hb⟩
 refine ⟨?_,hb⟩
 unfold resOf
 split<;>rfl
end Go.Proofs.YtbilphfbfnohmaaGreatDoor
