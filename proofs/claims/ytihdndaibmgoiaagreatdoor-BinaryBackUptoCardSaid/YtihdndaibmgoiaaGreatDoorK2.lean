/-
  Part K2 of the proofs of this seat, merged by a program out of 16 texts; remarks are struck.
-/
import Derived.Lib.Strings
import Derived.Lib.Slices
import Derived.Lib.TrimByte
import Derived.Laws.Strings3
import Derived.Deep.CutBlock
import Derived.Deep.DeepCutAuto
import Derived.Outline
import Derived.Test.YtihdndaibmgoiaaGreatDoorK1
namespace Go.Proofs.YtihdndaibmgoiaaGreatDoor
open Go.RowKit
def isWh (c:UInt8):Bool:=(decide (9≤c.toNat) && decide (c.toNat≤13)) || decide (c.toNat=32)
def valOf (c:UInt8):Nat:=
 if 48≤c.toNat∧c.toNat≤57 then c.toNat-48
 else if 97≤c.toNat∧c.toNat≤122 then c.toNat-97+10
 else if 65≤c.toNat∧c.toNat≤90 then c.toNat-65+10
 else 36
theorem valOf_le (c:UInt8):valOf c≤36:=by unfold valOf;split;omega;split;omega;split<;>omega
theorem white_fn (c:UInt8) (w:World):Calls Tryz.prog 225 #[.int .u8 c.toNat] w fun e w'=>e=.returned (.bool (isWh c))∧w'=w:=by
 have hw:isWh c=((decide (9≤c.toNat) && decide (c.toNat≤13)) || decide (c.toNat=32)):=rfl
 have hW:=hid hw
 clear hw
 have hl:c.toNat<256:=c.toNat_lt
 generalize isWh c=W at hW ⊢
 generalize c.toNat=x at hl hW ⊢
 go_enter Tryz.func225,Tryz.ntmps225
 by_cases h1:9≤x
 ·by_cases h2:x≤13
  ·go_wp2
   go_ret
   exact ⟨by rw [hW.out,decide_eq_true h1,decide_eq_true h2];rfl,rfl⟩
  ·have h2':¬ (x:Int)≤13:=by omega
   by_cases h3:x=32
   ·subst h3
    go_wp2
    go_ret
    exact ⟨by rw [hW.out];rfl,rfl⟩
   ·have h4:((x:Int) == 32)=false:=by simp;omega
    go_wp2
    go_ret
    refine ⟨?_,rfl⟩
    rw [hW.out,decide_eq_false h2,decide_eq_false h3]
    simp
 ·go_wp2
  go_ret
  refine ⟨?_,rfl⟩
  rw [hW.out,decide_eq_false h1]
  have h3:¬ x=32:=by omega
  have:¬ (x:Int)=32:=by omega
  simp [this,h3]
theorem value_fn (c:UInt8) (w:World):Calls Tryz.prog 237 #[.int .u8 c.toNat] w fun e w'=>e=.returned (.int .i64 (valOf c))∧w'=w:=by
  have hw:valOf c=if 48≤c.toNat∧c.toNat≤57 then c.toNat-48
    else if 97≤c.toNat∧c.toNat≤122 then c.toNat-97+10
    else if 65≤c.toNat∧c.toNat≤90 then c.toNat-65+10
    else 36:=rfl
  have hW:=hid hw
  clear hw
  have hl:c.toNat<256:=c.toNat_lt
  generalize valOf c=W at hW ⊢
  generalize c.toNat=x at hl hW ⊢
  go_enter Tryz.func237,Tryz.ntmps237
  by_cases h1:48≤x∧x≤57
  · obtain ⟨a1,a2⟩:=h1
    go_wp2
    go_ret
    refine ⟨?_,rfl⟩
    have:=hW.out
    rw [if_pos ⟨a1,a2⟩] at this
    rw [this,show ((x-48:Nat):Int)=(x:Int)-48 by omega]
    rfl
  · by_cases h2:97≤x∧x≤122
    · obtain ⟨a1,a2⟩:=h2
      have b1:¬ x≤57:=by omega
      go_wp2
      go_ret
      refine ⟨?_,rfl⟩
      have:=hW.out
      rw [if_neg h1,if_pos ⟨a1,a2⟩] at this
      rw [this,show ((x-97+10:Nat):Int)=(x:Int)-97+10 by omega]
      rfl
    · by_cases h3:65≤x∧x≤90
      · obtain ⟨a1,a2⟩:=h3
        have b1:¬ x≤57:=by omega
        have b2:¬ 97≤x:=by omega
        go_wp2
        go_ret
        refine ⟨?_,rfl⟩
        have:=hW.out
        rw [if_neg h1,if_neg h2,if_pos ⟨a1,a2⟩] at this
        rw [this,show ((x-65+10:Nat):Int)=(x:Int)-65+10 by omega]
        rfl
      · have hWW : W = 36 := by
          have:=hW.out
          rw [if_neg h1,if_neg h2,if_neg h3] at this
          exact this
        subst hWW
        by_cases c1:48≤x
        · have d1:¬ x≤57:=fun h=>h1 ⟨c1,h⟩
          by_cases c2:97≤x
          · have d2:¬ x≤122:=fun h=>h2 ⟨c2,h⟩
            have d3:¬ x≤90:=by omega
            go_wp2
            go_ret
            exact ⟨rfl,rfl⟩
          · by_cases c3:65≤x
            · have d3:¬ x≤90:=fun h=>h3 ⟨c3,h⟩
              go_wp2
              go_ret
              exact ⟨rfl,rfl⟩
            · go_wp2
              go_ret
              exact ⟨rfl,rfl⟩
        · go_wp2
          go_ret
          exact ⟨rfl,rfl⟩
theorem hasPrefix_sl (s p:List UInt8) (_hs:s.length≤1000000000) (_hp:p.length≤1000000000) (w:World):Calls Tryz.prog 235 #[.string ⟨s.toArray⟩,.string ⟨p.toArray⟩] w fun e w'=>e=.returned (.bool (p.isPrefixOf s))∧w'=w:=by
 have h1:(⟨s.toArray⟩:ByteArray).size=s.length:=Lib.size_mk _
 have h2:(⟨p.toArray⟩:ByteArray).size=p.length:=Lib.size_mk _
 have hpre:=hid (Lib.hasPrefix_of_take s p)
 go_enter Tryz.func235,Tryz.ntmps235
 by_cases hl:p.length≤s.length
 ·go_wp2
  go_ret
  refine ⟨?_,rfl⟩
  have h3:=hpre.out
  rw [decide_eq_true hl,Bool.true_and] at h3
  show Ending.returned (Value.bool (((⟨s.toArray⟩:ByteArray).extract 0 p.length).toList == p))=_
  rw [Lib.extract_mk,ByteArray.toList_mk]
  exact congrArg _ (congrArg _ h3)
 ·go_wp2
  go_ret
  refine ⟨?_,rfl⟩
  have h3:=hpre.out
  rw [decide_eq_false hl,Bool.false_and] at h3
  exact congrArg _ (congrArg _ h3)
theorem hasPrefix_fn (s p:List UInt8) (hs:s.length≤1000000000) (hp:p.length≤1000000000) (w:World):Calls Tryz.prog 226 #[.string ⟨s.toArray⟩,.string ⟨p.toArray⟩] w fun e w'=>e=.returned (.bool (p.isPrefixOf s))∧w'=w:=by
 have hc:=hid (hasPrefix_sl s p hs hp w)
 go_enter Tryz.func226,Tryz.ntmps226
 go_wp2_with fail
 (with_reducible refine hc.out.mono ?_);rintro e w' ⟨rfl,rfl⟩
 go_wp2
 go_ret
 exact ⟨rfl,rfl⟩
theorem cutPrefix_sl (s p:List UInt8) (hs:s.length≤1000000000) (hp:p.length≤1000000000) (w:World):Calls Tryz.prog 236 #[.string ⟨s.toArray⟩,.string ⟨p.toArray⟩] w fun e w'=>e=.returned (if p.isPrefixOf s then .tuple #[.string ⟨(s.drop p.length).toArray⟩,.bool true] else .tuple #[.string ⟨s.toArray⟩,.bool false])∧w'=w:=by
 have h1:(⟨s.toArray⟩:ByteArray).size=s.length:=Lib.size_mk _
 have h2:(⟨p.toArray⟩:ByteArray).size=p.length:=Lib.size_mk _
 have hc:=hid (hasPrefix_sl s p hs hp w)
 go_enter Tryz.func236,Tryz.ntmps236
 go_wp2_with fail
 (with_reducible refine hc.out.mono ?_);rintro e w' ⟨rfl,rfl⟩
 have hle:p.isPrefixOf s=true→p.length≤s.length:=fun h=>(List.isPrefixOf_iff_prefix.1 h).length_le
 cases hpre:p.isPrefixOf s
 ·clear hle
  go_wp2
  all_goals (go_ret2;exact ⟨rfl,rfl⟩)
 ·have hle':=hle hpre
  clear hle
  have e1:(⟨s.toArray⟩:ByteArray).extract p.length s.length=⟨(s.drop p.length).toArray⟩:=by
   rw [Lib.extract_mk,List.take_of_length_le (by simp)]
  go_wp2
  go_ret2
  exact ⟨rfl,rfl⟩
theorem cutPrefix_fn (s p:List UInt8) (hs:s.length≤1000000000) (hp:p.length≤1000000000) (w:World):Calls Tryz.prog 227 #[.string ⟨s.toArray⟩,.string ⟨p.toArray⟩] w fun e w'=>e=.returned (if p.isPrefixOf s then .tuple #[.string ⟨(s.drop p.length).toArray⟩,.bool true] else .tuple #[.string ⟨s.toArray⟩,.bool false])∧w'=w:=by
 have hc:=hid (cutPrefix_sl s p hs hp w)
 cases hpre:p.isPrefixOf s
 ·rw [hpre] at hc
  have hc:=hid hc.out
  go_enter Tryz.func227,Tryz.ntmps227
  go_wp2_with fail
  (with_reducible refine hc.out.mono ?_);rintro e w' ⟨rfl,rfl⟩
  go_wp2
  go_ret2
  exact ⟨rfl,rfl⟩
 ·rw [hpre] at hc
  have hc:=hid hc.out
  go_enter Tryz.func227,Tryz.ntmps227
  go_wp2_with fail
  (with_reducible refine hc.out.mono ?_);rintro e w' ⟨rfl,rfl⟩
  go_wp2
  go_ret2
  exact ⟨rfl,rfl⟩
theorem trimLeft1 (s:List UInt8) (hs:s.length≤1000000000) (c:UInt8) (w:World):Calls Tryz.prog 242 #[.string ⟨s.toArray⟩,.int .u8 c.toNat] w fun e w'=>e=.returned (.string ⟨(s.dropWhile (· == c)).toArray⟩)∧w'=w:=by
  go_enter Tryz.func242,Tryz.ntmps242
  go_wp2
  go_loop [0] (fun v=>∃ l:List UInt8,l.length≤1000000000∧v=.string ⟨l.toArray⟩∧l.dropWhile (· == c)=s.dropWhile (· == c)) (fun v=>Lib.strSize v)
  case atStart=>exact ⟨s,hs,rfl,rfl⟩
  case round=>
    obtain ⟨l,hl,rfl,he⟩:=hrel
    have hE:=hid he
    clear he
    cases l with
    | nil=>
      have h1:(⟨([]:List UInt8).toArray⟩:ByteArray).size=0:=rfl
      go_wp2
      go_ret
      exact ⟨by rw [← hE.out];rfl,rfl⟩
    | cons x l=>
      have h1:(⟨(x::l).toArray⟩:ByteArray).size=l.length+1:=by rw [Lib.size_mk];simp
      have h2:(⟨(x::l).toArray⟩:ByteArray).extract 1 (l.length+1)=⟨l.toArray⟩:=by
        rw [Lib.extract_mk];simp
      have hx:∀ h,(⟨(x::l).toArray⟩:ByteArray)[0]'h=x:=fun h=>rfl
      have hl':l.length≤999999999:=by simpa using hl
      clear hl
      by_cases hc:x=c
      · subst hc
        have hd:(x::l).dropWhile (· == x)=l.dropWhile (· == x):=by simp
        go_wp2
        refine ⟨⟨l,by omega,rfl,by rw [← hE.out,hd]⟩,?_⟩
        rw [Lib.strSize_string,Lib.strSize_string,h1,Lib.size_mk]
        omega
      · have hne : (((x.toNat : Nat) : Int) == ((c.toNat : Nat) : Int)) = false := by
          have:x.toNat≠c.toNat:=fun e=>hc (UInt8.toNat_inj.1 e)
          rw [beq_eq_false_iff_ne]
          omega
        have hd:(x::l).dropWhile (· == c)=x::l:=by
          rw [List.dropWhile_cons,if_neg (by simpa using hc)]
        go_wp2
        go_ret
        exact ⟨by rw [← hE.out,hd];rfl,rfl⟩
theorem trimLeft_fn (s:List UInt8) (hs:s.length≤1000000000) (w:World):Calls Tryz.prog 238 #[.string ⟨s.toArray⟩,.string ⟨#[48]⟩] w fun e w'=>e=.returned (.string ⟨(s.dropWhile (· == 48)).toArray⟩)∧w'=w:=by
 have hc:Calls Tryz.prog 242 #[.string ⟨s.toArray⟩,.int .u8 48] w fun e w'=>e=.returned (.string ⟨(s.dropWhile (· == 48)).toArray⟩)∧w'=w:=trimLeft1 s hs 48 w
 have hc:=hid hc
 go_enter Tryz.func238,Tryz.ntmps238
 cases s with
 | nil=>
  go_wp2
  go_ret
  exact ⟨rfl,rfl⟩
 | cons x l=>
  have hne:(x::l == ([]:List UInt8))=false:=rfl
  have hx:∀ h,(⟨#[48]⟩:ByteArray)[0]'h=48:=fun h=>rfl
  go_wp2_with fail
  (with_reducible refine hc.out.mono ?_);rintro e w' ⟨rfl,rfl⟩
  go_wp2
  go_ret
  exact ⟨rfl,rfl⟩
end Go.Proofs.YtihdndaibmgoiaaGreatDoor
namespace Go.Proofs.YtihdndaibmgoiaaGreatDoor
open Go.RowKit
def rOK (b:Nat) (l:List UInt8):Bool:=!l.isEmpty && l.all (fun c=>decide (valOf c<b))
def numFrom (b n:Nat) (l:List UInt8):Nat:=l.foldl (fun n c=>n*b+valOf c) n
def numOf (b:Nat) (l:List UInt8):Nat:=numFrom b 0 l
def PNum (w:World) (v:Value) (z:Int):Prop:=∃ n lg,NumV w v n (decide (z<0)) lg∧(lg=false→n=z.natAbs)∧lg=decide (big600≤z.natAbs)∧nlen n≤1000
def PNumO (w:World) (base:Nat) (v:Value) (z:Int):Prop:=∃ s n lg,v=.agg #[s,.bool (decide (z<0)),.bool lg]∧Own .u32 97 w base s (nlen n) (D n)∧(lg=false→n=z.natAbs)∧lg=decide (big600≤z.natAbs)∧nlen n≤1000
theorem PNumO.num {w:World} {base:Nat} {v:Value} {z:Int} (h:PNumO w base v z):PNum w v z:=by
 obtain ⟨s,n,lg,h0,h1,h2,h3,h4⟩:=h
 exact ⟨n,lg,⟨s,h0,h1.nat⟩,h2,h3,h4⟩
theorem PNumO.mono {w:World} {base base':Nat} {v:Value} {z:Int} (h:PNumO w base v z) (hb:base'≤base):PNumO w base' v z:=by
 obtain ⟨s,n,lg,h0,h1,h2,h3,h4⟩:=h
 exact ⟨s,n,lg,h0,h1.mono hb,h2,h3,h4⟩
theorem PNumO.set3 {w:World} {base b:Nat} {v:Value} {z:Int} (h:PNumO w base v z) (hb:b<base) (x y t:Value):PNumO (((w.setCell ⟨b,0,none⟩ x).setCell ⟨b,1,none⟩ y).setCell ⟨b,2,none⟩ t) base v z:=by
 obtain ⟨s,n,lg,h0,h1,h2,h3,h4⟩:=h
 exact ⟨s,n,lg,h0,own_set3 h1 x y t hb,h2,h3,h4⟩
theorem PNum.below {w w':World} {v:Value} {z:Int} (h:PNum w v z) (hb:Below w.heap.size w w'):PNum w' v z:=by
 obtain ⟨n,lg,h1,h2,h3,h4⟩:=h
 exact ⟨n,lg,h1.below hb,h2,h3,h4⟩
theorem PNum.int {w:World} {v:Value} {z:Int} (h:PNum w v z) (hz:z.natAbs<big600):IntV w v z∧nlen z.natAbs≤1000:=by
 obtain ⟨n,lg,h1,h2,h3,h4⟩:=h
 have h5:lg=false:=by rw [h3];exact decide_eq_false (by omega)
 have h6:=h2 h5
 subst h6
 rw [h5] at h1
 exact ⟨h1,h4⟩
theorem numFrom_ge (b:Nat) (hb:2≤b) (l:List UInt8) (n:Nat):n*2 ^ l.length≤numFrom b n l:=by
 induction l generalizing n with
 | nil=>simp [numFrom]
 | cons c l ih=>
  have h1:=ih (n*b+valOf c)
  have h2:n*2≤n*b+valOf c:=Nat.le_trans (Nat.mul_le_mul_left n hb) (Nat.le_add_right _ _)
  have h3:=Nat.mul_le_mul_right (2 ^ l.length) h2
  have e:n*2 ^ (c::l).length=n*2*2 ^ l.length:=by
   rw [List.length_cons,Nat.pow_succ,Nat.mul_assoc,Nat.mul_comm 2]
  rw [e]
  exact Nat.le_trans h3 h1
theorem numFrom_mono (b:Nat) (hb:2≤b) (l:List UInt8) (n:Nat):n≤numFrom b n l:=by
 have h1:=numFrom_ge b hb l n
 have h2:n*1≤n*2 ^ l.length:=Nat.mul_le_mul_left n Nat.one_le_two_pow
 omega
theorem valOf_zero:valOf 48=0:=by decide
theorem numOf_trim (b:Nat) (l:List UInt8):numOf b (l.dropWhile (· == 48))=numOf b l:=by
 induction l with
 | nil=>rfl
 | cons c l ih=>
  by_cases h:c=48
  ·subst h
   rw [List.dropWhile_cons,if_pos (by simp),ih]
   simp [numOf,numFrom,valOf_zero]
  ·rw [List.dropWhile_cons,if_neg (by simpa using h)]
theorem valOf_eq_zero (c:UInt8) (h:valOf c=0):c=48:=by
 unfold valOf at h
 have h2:c.toNat=48:=by
  split at h
  ·omega
  ·split at h
   ·omega
   ·split at h<;>omega
 exact UInt8.toNat_inj.1 (by rw [h2];rfl)
theorem numOf_long (b:Nat) (hb:2≤b) (l:List UInt8):2 ^ (l.dropWhile (· == 48)).length≤2*numOf b l∨l.dropWhile (· == 48)=[]:=by
 rw [← numOf_trim]
 cases h:l.dropWhile (· == 48) with
 | nil=>exact .inr rfl
 | cons c t=>
  left
  have hne:c≠48:=by
   have:=List.head?_dropWhile_not (fun x=>x == 48) l
   rw [h] at this
   simpa using this
  have h1:1≤valOf c:=by
   rcases Nat.eq_zero_or_pos (valOf c) with h0 | h0
   ·exact absurd (valOf_eq_zero c h0) hne
   ·exact h0
  have h2:numOf b (c::t)=numFrom b (valOf c) t:=by simp [numOf,numFrom]
  have h3:=numFrom_ge b hb t (valOf c)
  have h4:=Nat.mul_le_mul_right (2 ^ t.length) h1
  rw [h2,List.length_cons,Nat.pow_succ]
  omega
theorem numOf_take_succ (b:Nat) (l:List UInt8) (i:Nat) (h:i<l.length):numOf b (l.take (i+1))=numOf b (l.take i)*b+valOf (l[i]'h):=by
 rw [List.take_add_one,List.getElem?_eq_getElem h]
 unfold numOf numFrom
 rw [List.foldl_append]
 rfl
theorem numOf_take_le (b:Nat) (hb:2≤b) (l:List UInt8) (i:Nat):numOf b (l.take i)≤numOf b l:=by
 have e:numOf b l=numFrom b (numOf b (l.take i)) (l.drop i):=by
  conv=>lhs;rw [← List.take_append_drop i l]
  unfold numOf numFrom
  rw [List.foldl_append]
 rw [e]
 exact numFrom_mono b hb _ _
end Go.Proofs.YtihdndaibmgoiaaGreatDoor
namespace Go.Proofs.YtihdndaibmgoiaaGreatDoor
open Go.RowKit
set_option maxRecDepth 100000 in
set_option maxHeartbeats 1000000 in
theorem small_nat {v:Value} {n:Nat} {w:World} (h:NatRep w v n) (hl:nlen n≤100000000) (k c:Nat) (hk:k<4294967296) (hc:c<4294967296) :
    Calls Tryz.prog 239 #[v,.int .u32 k,.int .u32 c] w (Fresh (n*k+c) w):=by
  obtain ⟨a,cap,rfl⟩:=h.shape
  go_enter Tryz.func239,Tryz.ntmps239
  go_wp2
  go_loopw [7, 8, 10, 15] (fun out carry _ i wr => ∃ j : Nat, i = .int .i64 j ∧ j ≤ nlen n ∧ Own .u32 97 wr w.heap.size out j (D (n * k + c)) ∧ carry = .int .u64 (cySmall n k c j) ∧ Below w.heap.size w wr)
     (fun _ _ _ i _ => nlen n - (intOf i).toNat)
  case atStart=>exact ⟨0,rfl,Nat.zero_le _,Own.nil,by rw [cySmall_zero],Below.refl _ _⟩
  case round=>
    obtain ⟨j,rfl,hj,hown,rfl,hb⟩:=hrel
    have hcy:=cySmall_lt n k c j hk hc
    by_cases hlt:j<nlen n
    · obtain ⟨a',cap',hv,_,hcell⟩:=h.below hb
      simp only [Value.slice.injEq,true_and] at hv
      obtain ⟨rfl,rfl⟩:=hv
      obtain ⟨b,off,rfl,_,hc0⟩:=hcell (by omega)
      have hcj:=hc0 j hlt
      have hd:=D_lt n j
      have hw1:=tSmall_mul n k j hk
      have hw2:=tSmall_wrap n k c j hk hc
      have hw3:=tSmall_mod n k c j
      have hw4:=tSmall_div n k c j
      have hsz:=hb.size
      go_wp2_with (at_builtin;refine app_u32 rfl _ _ rfl w.heap.size _ j _ rfl hown _ rfl rfl (by omega) hsz ?_;intro v' w1 hown1 hb1)
      go_roundw
      case rel=>exact ⟨j+1,by go_num,by omega,hown1,rfl,hb.trans (hb1.mono (by omega))⟩
      case measure=>simp [intOf]<;>omega
    · obtain rfl:j=nlen n:=by omega
      have hw3:=hid (cySmall_last n k c hk hc)
      have hsz:=hb.size
      go_wp2_with (at_builtin;refine app_u32 rfl _ _ rfl w.heap.size _ (nlen n) _ rfl hown _ rfl hw3.out (by omega) hsz ?_;intro v' w1 hown1 hb1)
      refine (trimmed_own hown1 (by omega) (small_lt n k c hk hc)).mono ?_
      rintro e w2 ⟨⟨v2,rfl,hown2⟩,rfl⟩
      go_wp2
      go_ret
      exact ⟨v2,rfl,hown2,hb.trans (hb1.mono (by omega))⟩
end Go.Proofs.YtihdndaibmgoiaaGreatDoor
namespace Go.Proofs.YtihdndaibmgoiaaGreatDoor
open Go.RowKit
def ReadP (b:Nat) (l:List UInt8) (neg:Bool) (w:World) (e:Ending) (w':World):Prop:=
 ∃ v,e=.returned (.tuple #[v,.bool (rOK b l)])∧Below w.heap.size w w'∧(rOK b l=true→PNumO w' w.heap.size v (sgnInt neg (numOf b l)))∧(∃ a n c g h,v=.agg #[.slice a n c,.bool g,.bool h])
theorem sgnInt_abs (neg:Bool) (n:Nat):(sgnInt neg n).natAbs=n:=by cases neg<;>simp [sgnInt]
theorem sgnInt_neg (neg:Bool) (n:Nat):decide (sgnInt neg n<0)=(neg && decide (0<n)):=by
 cases neg
 ·simp [sgnInt]
 ·by_cases h:0<n
  ·simp [sgnInt,h]
  ·have:n=0:=by omega
   subst this;rfl
theorem nlen_of_bits (n e:Nat) (h:nbits n≤e):nlen n≤e / 32+1:=by
 rw [nlen_le_iff]
 have h1:=(nbits_le_iff n e).1 h
 exact Nat.lt_of_lt_of_le h1 (Nat.pow_le_pow_right (by decide) (by omega))
theorem bits_small (n b c e:Nat) (h:nbits n≤e) (hb:b≤36) (hc:c≤36):nbits (n*b+c)≤e+6:=by
 rw [nbits_le_iff]
 have h1:=(nbits_le_iff n e).1 h
 have h2:=Nat.mul_le_mul_left n hb
 rw [Nat.pow_add]
 generalize 2 ^ e=X at h1 ⊢
 omega
theorem big_of_bits (m:Nat) (h:¬ nbits m≤2010):big600≤m:=by
 rcases Nat.lt_or_ge m big600 with h1 | h1
 ·exact absurd (bits_2010 m h1) h
 ·exact h1
theorem big_of_len (n k e:Nat) (hk:e<k) (h:2 ^ k≤2*n) (he:big600≤2 ^ e):big600≤n:=by
 have h1:2 ^ (e+1)≤2 ^ k:=Nat.pow_le_pow_right (by decide) hk
 rw [Nat.pow_succ] at h1
 generalize 2 ^ k=X at *
 generalize 2 ^ e=Y at *
 omega
theorem big600_pos:0<big600:=by
 unfold big600
 exact Nat.pow_pos (Nat.pow_pos (Nat.pow_pos (by decide)))
theorem nat_zero (w:World):NatRep w (.slice none 0 0) 0:=⟨none,0,rfl,by decide,fun h=>absurd h (by decide)⟩
theorem PNum.mkLong {w:World} {base:Nat} {neg:Bool} {N:Nat} (h:big600≤N):PNumO w base (.agg #[.slice none 0 0,.bool neg,.bool true]) (sgnInt neg N):=by
 refine ⟨_,0,true,?_,Own.nil,fun h=>(by cases h),?_,by decide⟩
 ·have:=big600_pos
  rw [sgnInt_neg,decide_eq_true (show 0<N by omega),Bool.and_true]
 ·rw [sgnInt_abs,decide_eq_true h]
theorem rOK_bad (b:Nat) (l:List UInt8) (i:Nat) (h:i<l.length) (hv:¬ valOf (l[i]'h)<b):rOK b l=false:=by
 unfold rOK
 have:l.all (fun c=>decide (valOf c<b))=false:=by
  rw [List.all_eq_false]
  exact ⟨l[i]'h,List.getElem_mem h,by simpa using hv⟩
 rw [this,Bool.and_false]
theorem rOK_good (b:Nat) (l:List UInt8) (h:∀ i (h:i<l.length),valOf (l[i]'h)<b) (h0:l≠[]):rOK b l=true:=by
 unfold rOK
 have h1:l.all (fun c=>decide (valOf c<b))=true:=by
  rw [List.all_eq_true]
  intro c hc
  obtain ⟨i,hi,rfl⟩:=List.getElem_of_mem hc
  exact decide_eq_true (h i hi)
 rw [h1,Bool.and_true]
 cases l with
 | nil=>exact absurd rfl h0
 | cons=>rfl
set_option maxRecDepth 100000 in
set_option maxHeartbeats 4000000 in
theorem read_fn (l:List UInt8) (hl:l.length≤1000000000) (b:Nat) (hb2:2≤b) (hb36:b≤36) (neg:Bool) (w:World) :
    Calls Tryz.prog 228 #[.string ⟨l.toArray⟩,.int .i64 b,.bool neg] w (ReadP b l neg w):=by
  have hsz:(⟨l.toArray⟩:ByteArray).size=l.length:=Lib.size_mk _
  have k0:=Blk.new w #[.slice none 0 0,.bool false,.bool false] 203
  have hb0:Below w.heap.size w (w.alloc (.cells #[.slice none 0 0,.bool false,.bool false] 203)):=(Below.refl _ _).alloc (Nat.le_refl _) _
  have hsz0:(w.alloc (.cells #[.slice none 0 0,.bool false,.bool false] 203)).heap.size=w.heap.size+1:=by simp
  go_enter Tryz.func228,Tryz.ntmps228
  go_wp2
  generalize w.alloc (.cells #[.slice none 0 0,.bool false,.bool false] 203)=W at *
  go_loop [14] (fun iv=>∃ i:Nat,iv=.int .i64 i∧i≤l.length∧∀ j (h:j<l.length),j<i→valOf (l[j]'h)<b) (fun iv=>l.length-(intOf iv).toNat)
  case atStart=>exact ⟨0,rfl,Nat.zero_le _,fun j _ h=>absurd h (Nat.not_lt_zero _)⟩
  case round=>
    obtain ⟨i,rfl,hi,hall⟩:=hrel
    have hA:=hid hall
    clear hall
    obtain ⟨⟨p1,p2,p3⟩,q1,q2,q3⟩:=k0.three
    by_cases hlt:i<l.length
    · have hx:∀ h,(⟨l.toArray⟩:ByteArray)[i]'h=l[i]'hlt:=fun h=>rfl
      have hc:=hid (value_fn (l[i]'hlt) W)
      by_cases hv:valOf (l[i]'hlt)<b
      · go_wp2_with fail
        (with_reducible refine hc.out.mono ?_);rintro e w' ⟨rfl,rfl⟩
        go_wp2
        refine ⟨⟨i+1,by go_num,by omega,fun j h hj=>?_⟩,?_⟩
        · rcases Nat.lt_or_ge j i with h1 | h1
          · exact hA.out j h h1
          · obtain rfl:j=i:=by omega
            exact hv
        · simp [intOf]<;>omega
      · have hbad:=rOK_bad b l i hlt hv
        go_wp2_with fail
        (with_reducible refine hc.out.mono ?_);rintro e w' ⟨rfl,rfl⟩
        go_wp2
        refine bodyPost_ret (v:=.tuple #[.agg #[.slice none 0 0,.bool false,.bool false],.bool false]) (by simp [results,Tryz.results228,go_sem,p1,p2,p3]) rfl ⟨_,by rw [hbad],?_,fun h=>absurd h (by rw [hbad];decide),⟨_,_,_,_,_,rfl⟩⟩
        exact ((hb0.setCell (p:=⟨w.heap.size,0,none⟩) (by simp) _).setCell (p:=⟨w.heap.size,1,none⟩) (by simp) _).setCell (p:=⟨w.heap.size,2,none⟩) (by simp) _
    · obtain rfl:i=l.length:=by omega
      have hgood:l≠[]→rOK b l=true:=rOK_good b l (fun j h=>hA.out j h h)
      have hG:=hid hgood
      clear hgood hA
      have hc:=hid (trimLeft_fn l hl W)
      have hlong:=hid (numOf_long b hb2 l)
      have htr:=hid (numOf_trim b l)
      have htl:(l.dropWhile (· == 48)).length≤1000000000:=Nat.le_trans (List.dropWhile_sublist _).length_le hl
      generalize ht:l.dropWhile (· == 48)=t at *
      clear ht
      have htsz:(⟨t.toArray⟩:ByteArray).size=t.length:=Lib.size_mk _
      cases hle:l == ([]:List UInt8)
      · have hgood:=hG.out (fun e=>by rw [e] at hle;exact absurd hle (by decide))
        go_wp2_with fail
        (with_reducible refine hc.out.mono ?_);rintro e w' ⟨rfl,rfl⟩
        by_cases hlen:t.length≤2010
        · go_wp2
          go_loopw [9,37] (fun sv iv wr=>∃ i:Nat,iv=.int .i64 i∧i≤t.length∧Own .u32 97 wr (w.heap.size+1) sv (nlen (numOf b (t.take i))) (D (numOf b (t.take i)))∧nbits (numOf b (t.take i))≤2010∧Below w.heap.size w wr∧Blk wr w.heap.size #[.slice none 0 0,.bool false,.bool false] 203) (fun _ iv _=>t.length-(intOf iv).toNat)
          case atStart=>exact ⟨0,rfl,Nat.zero_le _,Own.nil,by show nbits 0≤2010;decide,hb0,k0⟩
          case round=>
            obtain ⟨i,rfl,hi,hov,hbi,hbr,kr⟩:=hrel
            have hsv:=hov.nat
            obtain ⟨a,cap,rfl⟩:=hsv.shape
            have hnl:=nlen_of_bits _ _ hbi
            by_cases hlt:i<t.length
            · have hx:∀ h,(⟨t.toArray⟩:ByteArray)[i]'h=t[i]'hlt:=fun h=>rfl
              have hcv:=hid (value_fn (t[i]'hlt) wr)
              have hv36:=valOf_le (t[i]'hlt)
              have hbw:IntKind.u32.wrap (b:Int)=b:=by rw [wrap_u32_nat,Nat.mod_eq_of_lt (by omega)]
              have hvw:IntKind.u32.wrap (valOf (t[i]'hlt):Int)=valOf (t[i]'hlt):=by rw [wrap_u32_nat,Nat.mod_eq_of_lt (by omega)]
              have hcs:=hid (small_nat hsv (by omega) b (valOf (t[i]'hlt)) (by omega) (by omega))
              have hbs:=bits_small _ b (valOf (t[i]'hlt)) _ hbi hb36 hv36
              have hstep:=numOf_take_succ b t i hlt
              rw [← hstep] at hcs hbs
              have hnl2:=nlen_of_bits _ _ hbs
              have hTL:=hid (numOf_take_le b hb2 t (i+1))
              clear hstep hbs
              go_wp2_with fail
              (with_reducible refine hcv.out.mono ?_);rintro e w' ⟨rfl,rfl⟩
              go_wp2_with fail
              (with_reducible refine hcs.out.mono ?_);rintro e w1 ⟨u,rfl,hu,hb1⟩
              obtain ⟨ua,uc,rfl⟩:=hu.shape
              have hcb:=hid (bits_nat hu.nat (by omega))
              have hbw1:=hbr.trans (hb1.mono hbr.size)
              have k1:=kr.later hb1
              obtain ⟨⟨p1,p2,p3⟩,q1,q2,q3⟩:=k1.three
              go_wp2_with fail
              (with_reducible refine hcb.out.mono ?_);rintro e w' ⟨rfl,rfl⟩
              by_cases hbits:nbits (numOf b (t.take (i+1)))≤2010
              · go_wp2
                go_roundw
                case rel=>exact ⟨i+1,by go_num,by omega,hu.mono kr.lt,hbits,hbw1,k1⟩
                case measure=>simp [intOf]<;>omega
              · have hbig : big600 ≤ numOf b l := by
                  have h1:=big_of_bits _ hbits
                  have h2:=hTL.out
                  rw [htr.out] at h2
                  omega
                have hbits':2010<nbits (numOf b (t.take (i+1))):=by omega
                clear hbits
                go_wp2
                refine bodyPost_ret (v:=.tuple #[.agg #[.slice none 0 0,.bool neg,.bool true],.bool true]) (by simp [results,Tryz.results228,go_sem,p1,p2,p3]) rfl ⟨_,by rw [hgood],?_,fun _=>PNum.mkLong hbig,⟨_,_,_,_,_,rfl⟩⟩
                exact ((hbw1.setCell (p:=⟨w.heap.size,0,none⟩) (by simp) _).setCell (p:=⟨w.heap.size,1,none⟩) (by simp) _).setCell (p:=⟨w.heap.size,2,none⟩) (by simp) _
            · obtain rfl:i=t.length:=by omega
              rw [List.take_length,htr.out] at hsv hbi hov
              rw [List.take_length,htr.out] at hnl
              clear hlong hc
              have hcc:¬ t.length<t.length:=by omega
              rw [List.take_length,htr.out]
              generalize hN:numOf b l=N at *
              have HN:=hid hN
              clear hN
              have hco:=hid (of_nat hsv neg (by omega))
              go_wp2_with fail
              (with_reducible refine hco.out.mono ?_);rintro e w1 ⟨rfl,hb1⟩
              have hbw1:=hbr.trans (hb1.mono hbr.size)
              have k1:=kr.later hb1
              obtain ⟨⟨p1,p2,p3⟩,q1,q2,q3⟩:=k1.three
              have hs1:=hsv.below hb1
              have kA:=Blk.new w1 #[.slice a (nlen N) cap,.bool (neg && decide (0<N)),.bool false] 203
              have hbA:Below w1.heap.size w1 (w1.alloc (.cells #[.slice a (nlen N) cap,.bool (neg && decide (0<N)),.bool false] 203)):=(Below.refl _ _).alloc (Nat.le_refl _) _
              have hs2:=hs1.below hbA
              have hcd:=hid (decimal_nat hs2 (by omega))
              have hdsz:(⟨(strOf 10 N).toArray⟩:ByteArray).size=dlen 10 N:=by rw [Lib.size_mk,strOf_length]
              have hdb:=dlen_bound 10 N (by decide)
              have hdb2:dlen 10 N≤100000:=by omega
              clear hdb
              go_wp2_with fail
              (with_reducible refine hcd.out.mono ?_);rintro e w2 ⟨rfl,hb2⟩
              have hs3:=hs2.below hb2
              have kA2:=kA.later hb2
              have kR2:=(k1.alloc (.cells #[.slice a (nlen N) cap,.bool (neg && decide (0<N)),.bool false] 203)).later hb2
              obtain ⟨⟨a1,a2,a3⟩,a4,a5,a6⟩:=kA2.three
              obtain ⟨⟨r1,r2,r3⟩,r4,r5,r6⟩:=kR2.three
              clear p1 p2 p3 q1 q2 q3
              have hlt1:=k1.lt
              have hbw2:Below w.heap.size w w2:=hbw1.trans ((hbA.mono hbw1.size).trans (hb2.mono (by simp;have:=hbw1.size;omega)))
              go_wp2
              have hbZ:Below w1.heap.size w1 (w2.setCell ⟨w1.heap.size,2,none⟩ (.bool (decide ((600:Int)<(dlen 10 N:Nat))))):=(hbA.trans (hb2.mono (by simp))).setCell (p:=⟨w1.heap.size,2,none⟩) (Nat.le_refl _) _
              have hov1:=hov.keep hb1 (Nat.le_refl _)
              have hovZ:=own_set3 (hov1.keep hbZ (Nat.le_refl _)) (.slice a (nlen N) cap) (.bool (neg && decide (0<N))) (.bool (decide ((600:Int)<(dlen 10 N:Nat)))) (b:=w.heap.size) (by omega)
              have hbF:=(((hbw1.trans (hbZ.mono hbw1.size)).setCell (p:=⟨w.heap.size,0,none⟩) (Nat.le_refl _) (.slice a (nlen N) cap)).setCell (p:=⟨w.heap.size,1,none⟩) (Nat.le_refl _) (.bool (neg && decide (0<N)))).setCell (p:=⟨w.heap.size,2,none⟩) (Nat.le_refl _) (.bool (decide ((600:Int)<(dlen 10 N:Nat))))
              refine bodyPost_ret (v:=.tuple #[.agg #[.slice a (nlen N) cap,.bool (neg && decide (0<N)),.bool (decide ((600:Int)<(dlen 10 N:Nat)))],.bool true]) (by simp [results,Tryz.results228,go_sem,r1,r2,r3]) rfl ⟨_,by rw [hgood],hbF,fun _=>?_,⟨_,_,_,_,_,rfl⟩⟩
              rw [HN.out]
              refine ⟨_,N,_,by rw [sgnInt_neg],hovZ.mono (by omega),fun _=>(sgnInt_abs neg N).symm,?_,by omega⟩
              rw [sgnInt_abs]
              have h1:=digits_600 N
              by_cases h2:N<big600
              · have h3:=h1.2 h2
                rw [decide_eq_false (by omega),decide_eq_false (by omega)]
              · have h3:¬ dlen 10 N≤600:=fun h=>h2 (h1.1 h)
                rw [decide_eq_true (by omega),decide_eq_true (by omega)]
        · have hbig : big600 ≤ numOf b l := by
            rcases hlong.out with h1 | h1
            · exact big_of_len _ _ 2010 (by omega) h1 big600_le
            · rw [h1] at hlen;simp at hlen
          go_wp2
          refine bodyPost_ret (v:=.tuple #[.agg #[.slice none 0 0,.bool neg,.bool true],.bool true]) (by simp [results,Tryz.results228,go_sem,p1,p2,p3]) rfl ⟨_,by rw [hgood],?_,fun _=>PNum.mkLong hbig,⟨_,_,_,_,_,rfl⟩⟩
          exact ((hb0.setCell (p:=⟨w.heap.size,0,none⟩) (by simp) _).setCell (p:=⟨w.heap.size,1,none⟩) (by simp) _).setCell (p:=⟨w.heap.size,2,none⟩) (by simp) _
      · have hnil:l=[]:=by simpa using hle
        subst hnil
        have hbad:rOK b []=false:=rfl
        go_wp2
        refine bodyPost_ret (v:=.tuple #[.agg #[.slice none 0 0,.bool false,.bool false],.bool false]) (by simp [results,Tryz.results228,go_sem,p1,p2,p3]) rfl ⟨_,by rw [hbad],?_,fun h=>absurd h (by rw [hbad];decide),⟨_,_,_,_,_,rfl⟩⟩
        exact ((hb0.setCell (p:=⟨w.heap.size,0,none⟩) (by simp) _).setCell (p:=⟨w.heap.size,1,none⟩) (by simp) _).setCell (p:=⟨w.heap.size,2,none⟩) (by simp) _
end Go.Proofs.YtihdndaibmgoiaaGreatDoor
namespace Go.Proofs.YtihdndaibmgoiaaGreatDoor
open Go.RowKit
def strip (l:List UInt8):List UInt8:=((l.dropWhile isWh).reverse.dropWhile isWh).reverse
def pNeg (s:List UInt8):Bool:=([45]:List UInt8).isPrefixOf s
def pRest (s:List UInt8):List UInt8:=if ([45]:List UInt8).isPrefixOf s || ([43]:List UInt8).isPrefixOf s then s.tail else s
def pBase (s:List UInt8):Nat:=if ([48,120]:List UInt8).isPrefixOf s then 16 else if ([48,111]:List UInt8).isPrefixOf s then 8 else if ([48,98]:List UInt8).isPrefixOf s then 2 else 10
def pBody (s:List UInt8):List UInt8:=if ([48,120]:List UInt8).isPrefixOf s || ([48,111]:List UInt8).isPrefixOf s || ([48,98]:List UInt8).isPrefixOf s then s.drop 2 else s
def pOK (l:List UInt8):Bool:=rOK (pBase (pRest (strip l))) (pBody (pRest (strip l)))
def pVal (l:List UInt8):Int:=sgnInt (pNeg (strip l)) (numOf (pBase (pRest (strip l))) (pBody (pRest (strip l))))
theorem nil_or_snoc (t:List UInt8):t=[]∨∃ u x,t=u++[x]:=by
 rcases List.eq_nil_or_concat t with h | ⟨u,x,h⟩
 ·exact .inl h
 ·exact .inr ⟨u,x,by rw [h,List.concat_eq_append]⟩
theorem read_at (T:List UInt8) (hT:T.length≤1000000000) (b:Nat) (B:Int) (hB:B=(b:Int)) (hb2:2≤b) (hb36:b≤36) (neg:Bool) (w:World) :
  Calls Tryz.prog 228 #[.string ⟨T.toArray⟩,.int .i64 B,.bool neg] w (ReadP b T neg w):=by
 subst hB
 exact read_fn T hT b hb2 hb36 neg w
theorem strip_len (l:List UInt8):(strip l).length≤l.length:=by
 unfold strip
 rw [List.length_reverse]
 refine Nat.le_trans (List.dropWhile_sublist _).length_le ?_
 rw [List.length_reverse]
 exact (List.dropWhile_sublist _).length_le
theorem sign_cases (S:List UInt8):∃ T,pRest S=T∧(S=45::T∧pNeg S=true∨S=43::T∧pNeg S=false∧([45]:List UInt8).isPrefixOf S=false∧([43]:List UInt8).isPrefixOf S=true∨S=T∧pNeg S=false∧([45]:List UInt8).isPrefixOf S=false∧([43]:List UInt8).isPrefixOf S=false):=by
 refine ⟨_,rfl,?_⟩
 cases S with
 | nil=>right;right;exact ⟨rfl,rfl,rfl,rfl⟩
 | cons x S=>
  by_cases h1:x=45
  ·subst h1
   left
   exact ⟨by simp [pRest,List.isPrefixOf],by simp [pNeg,List.isPrefixOf]⟩
  ·by_cases h2:x=43
   ·subst h2
    right;left
    exact ⟨by simp [pRest,List.isPrefixOf],by simp [pNeg,List.isPrefixOf],by simp [List.isPrefixOf],by simp [List.isPrefixOf]⟩
   ·right;right
    have e1:(45 == x)=false:=by simpa using fun h=>h1 h.symm
    have e2:(43 == x)=false:=by simpa using fun h=>h2 h.symm
    exact ⟨by simp [pRest,List.isPrefixOf,e1,e2],by simp [pNeg,List.isPrefixOf,e1],by simp [List.isPrefixOf,e1],by simp [List.isPrefixOf,e2]⟩
theorem cut2 (T:List UInt8) (p q:UInt8) (hT:T.length≤1000000000) (w:World) (b:Bool) (hb:([p,q]:List UInt8).isPrefixOf T=b):Calls Tryz.prog 227 #[.string ⟨T.toArray⟩,.string ⟨#[p,q]⟩] w fun e w'=>e=.returned (if b then .tuple #[.string ⟨(T.drop 2).toArray⟩,.bool true] else .tuple #[.string ⟨T.toArray⟩,.bool false])∧w'=w:=by
 have h:=cutPrefix_fn T [p,q] hT (by simp) w
 rw [hb] at h
 exact h
theorem pre1 (S:List UInt8) (p:UInt8) (hS:S.length≤1000000000) (w:World) (b:Bool) (hb:([p]:List UInt8).isPrefixOf S=b):Calls Tryz.prog 226 #[.string ⟨S.toArray⟩,.string ⟨#[p]⟩] w fun e w'=>e=.returned (.bool b)∧w'=w:=by
 have h:=hasPrefix_fn S [p] hS (by simp) w
 rw [hb] at h
 exact h
theorem ix0 (w:World):(Instr.index 234 (.agg #[.string ⟨#[48,120]⟩,.int .i64 16,.string ⟨#[48,111]⟩,.int .i64 8,.string ⟨#[48,98]⟩,.int .i64 2]) (.int .i64 0)).run Tryz.prog w=.ok (.agg #[.string ⟨#[48,120]⟩,.int .i64 16]) w:=by kernel_rfl
theorem ix1 (w:World):(Instr.index 234 (.agg #[.string ⟨#[48,120]⟩,.int .i64 16,.string ⟨#[48,111]⟩,.int .i64 8,.string ⟨#[48,98]⟩,.int .i64 2]) (.int .i64 1)).run Tryz.prog w=.ok (.agg #[.string ⟨#[48,111]⟩,.int .i64 8]) w:=by kernel_rfl
theorem ix2 (w:World):(Instr.index 234 (.agg #[.string ⟨#[48,120]⟩,.int .i64 16,.string ⟨#[48,111]⟩,.int .i64 8,.string ⟨#[48,98]⟩,.int .i64 2]) (.int .i64 2)).run Tryz.prog w=.ok (.agg #[.string ⟨#[48,98]⟩,.int .i64 2]) w:=by kernel_rfl
def ParseP (l:List UInt8) (w:World) (e:Ending) (w':World):Prop:=
 ∃ v,e=.returned (.tuple #[v,.bool (pOK l)])∧Below w.heap.size w w'∧(pOK l=true→PNumO w' w.heap.size v (pVal l))∧(∃ a n c g h,v=.agg #[.slice a n c,.bool g,.bool h])
set_option maxRecDepth 100000 in
set_option maxHeartbeats 4000000 in
theorem parse_fn (l:List UInt8) (hl:l.length≤1000000000) (w:World) :
  Calls Tryz.prog 214 #[.string ⟨l.toArray⟩] w (ParseP l w):=by
 have k0:=Blk.new w #[.slice none 0 0,.bool false,.bool false] 203
 have hb0:Below w.heap.size w (w.alloc (.cells #[.slice none 0 0,.bool false,.bool false] 203)):=(Below.refl _ _).alloc (Nat.le_refl _) _
 have hsz0:(w.alloc (.cells #[.slice none 0 0,.bool false,.bool false] 203)).heap.size=w.heap.size+1:=by simp
 go_enter Tryz.func214,Tryz.ntmps214
 go_upto_block 0 with fail
 generalize w.alloc (.cells #[.slice none 0 0,.bool false,.bool false] 203)=W at *
 go_cut [0] from 9 to 17 (fun v wx=>v=.string ⟨(l.dropWhile isWh).toArray⟩∧W=wx)
 case first=>
  go_wp2_with fail
  go_loop [0] (fun v=>∃ t:List UInt8,t.length≤1000000000∧v=.string ⟨t.toArray⟩∧t.dropWhile isWh=l.dropWhile isWh) (fun v=>Lib.strSize v)
  case atStart=>exact ⟨l,hl,rfl,rfl⟩
  case round=>
   obtain ⟨t,ht,rfl,he⟩:=hrel
   have hE:=hid he
   clear he
   cases t with
   | cons x t=>
    have h1:(⟨(x::t).toArray⟩:ByteArray).size=t.length+1:=by rw [Lib.size_mk];simp
    have h2:(⟨(x::t).toArray⟩:ByteArray).extract 1 (t.length+1)=⟨t.toArray⟩:=by
     rw [Lib.extract_mk];simp
    have hx:∀ h,(⟨(x::t).toArray⟩:ByteArray)[0]'h=x:=fun h=>rfl
    have hne:(x::t == ([]:List UInt8))=false:=rfl
    have hl':t.length≤999999999:=by simpa using ht
    have hc:=hid (white_fn x W)
    clear ht
    go_wp2_with fail
    (with_reducible refine hc.out.mono ?_);rintro e w' ⟨rfl,rfl⟩
    cases hw:isWh x
    ·have hd:(x::t).dropWhile isWh=x::t:=by rw [List.dropWhile_cons,hw];rfl
     go_wp2
     go_meet
     case rel=>exact ⟨by rw [← hE.out,hd],rfl⟩
    ·have hd:(x::t).dropWhile isWh=t.dropWhile isWh:=by rw [List.dropWhile_cons,hw];rfl
     go_wp2
     refine ⟨⟨t,by omega,rfl,by rw [← hE.out,hd]⟩,?_⟩
     rw [Lib.strSize_string,Lib.strSize_string,h1,Lib.size_mk]
     omega
   | nil=>
    have h1:(⟨([]:List UInt8).toArray⟩:ByteArray).size=0:=rfl
    go_wp2
    go_meet
    case rel=>exact ⟨by rw [← hE.out];rfl,rfl⟩
 case rest=>
  obtain ⟨rfl,rfl⟩:=hcut
  have hL:(l.dropWhile isWh).length≤1000000000:=Nat.le_trans (List.dropWhile_sublist _).length_le hl
  go_upto_block 2 with fail
  go_cut [0] from 18 to 32 (fun v wx=>v=.string ⟨(strip l).toArray⟩∧W=wx)
  case first=>
   go_wp2_with fail
   go_loop [0] (fun v=>∃ t:List UInt8,t.length≤1000000000∧v=.string ⟨t.toArray⟩∧(t.reverse.dropWhile isWh).reverse=strip l) (fun v=>Lib.strSize v)
   case atStart=>exact ⟨_,hL,rfl,rfl⟩
   case round=>
    obtain ⟨t,ht,rfl,he⟩:=hrel
    have hE:=hid he
    clear he
    rcases nil_or_snoc t with rfl | ⟨t,x,rfl⟩
    ·have h1:(⟨([]:List UInt8).toArray⟩:ByteArray).size=0:=rfl
     go_wp2
     go_meet
     case rel=>exact ⟨by rw [← hE.out];rfl,rfl⟩
    ·have hre:(t++[x]).reverse=x::t.reverse:=by simp
     rw [hre] at hE
     have hE:=hid hE.out
     clear hre
     have h1:(⟨(t++[x]).toArray⟩:ByteArray).size=t.length+1:=by rw [Lib.size_mk];simp
     have h2:(⟨(t++[x]).toArray⟩:ByteArray).extract 0 t.length=⟨t.toArray⟩:=by
      rw [Lib.extract_mk];simp
     have hx:∀ h,(⟨(t++[x]).toArray⟩:ByteArray)[t.length]'h=x:=by
      intro h
      show (t++[x])[t.length]=x
      simp
     have hne:((t++[x]) == ([]:List UInt8))=false:=by cases t<;>rfl
     have hl':t.length≤999999999:=by simpa using ht
     have hc:=hid (white_fn x W)
     clear ht
     generalize hT:t++[x]=T at *
     have HT:=hid hT
     clear hT
     go_wp2_with fail
     (with_reducible refine hc.out.mono ?_);rintro e w' ⟨rfl,rfl⟩
     cases hw:isWh x
     ·have hd:(x::t.reverse).dropWhile isWh=x::t.reverse:=by rw [List.dropWhile_cons,hw];rfl
      go_wp2
      go_meet
      case rel=>exact ⟨by rw [← hE.out,hd];simp [HT.out],rfl⟩
     ·have hd:(x::t.reverse).dropWhile isWh=t.reverse.dropWhile isWh:=by rw [List.dropWhile_cons,hw];rfl
      go_wp2
      refine ⟨⟨t,by omega,rfl,by rw [← hE.out,hd]⟩,?_⟩
      rw [Lib.strSize_string,Lib.strSize_string,h1,Lib.size_mk]
      omega
  case rest=>
   obtain ⟨rfl,rfl⟩:=hcut
   have hS:(strip l).length≤1000000000:=Nat.le_trans (strip_len l) hl
   clear hL
   have hok:pOK l=rOK (pBase (pRest (strip l))) (pBody (pRest (strip l))):=rfl
   have hval:pVal l=sgnInt (pNeg (strip l)) (numOf (pBase (pRest (strip l))) (pBody (pRest (strip l)))):=rfl
   generalize strip l=S at *
   obtain ⟨T,hT,hcase⟩:=sign_cases S
   rw [hT] at hok hval
   clear hT
   have HOK:=hid hok
   have HVAL:=hid hval
   clear hok hval
   rcases hcase with ⟨rfl,hn⟩ | ⟨rfl,hn,hm,hp⟩ | ⟨hST,hn,hm,hp⟩
   ·rw [hn] at HVAL
    have hc1:=hid (pre1 _ 45 hS W true rfl)
    have h1:(⟨(45::T).toArray⟩:ByteArray).size=T.length+1:=by rw [Lib.size_mk];simp
    have h2:(⟨(45::T).toArray⟩:ByteArray).extract 1 (T.length+1)=⟨T.toArray⟩:=by rw [Lib.extract_mk];simp
    have hT':T.length≤999999999:=by simpa using hS
    go_upto_block 4 with (first | fail|(with_reducible refine hc1.out.mono ?_);rintro e w' ⟨rfl,rfl⟩)
    clear hc1 h1 h2 hS
    go_wp2_with fail
    go_loopw [46] (fun iv wr=>∃ i:Nat,iv=.int .i64 i∧i≤3∧(0<i→([48,120]:List UInt8).isPrefixOf T=false)∧(1<i→([48,111]:List UInt8).isPrefixOf T=false)∧(2<i→([48,98]:List UInt8).isPrefixOf T=false)∧Below w.heap.size w wr∧Blk wr w.heap.size #[.slice none 0 0,.bool false,.bool false] 203) (fun iv _=>3-(intOf iv).toNat)
    case atStart=>exact ⟨0,rfl,by decide,fun h=>absurd h (by decide),fun h=>absurd h (by decide),fun h=>absurd h (by decide),hb0,k0⟩
    case round=>
     obtain ⟨i,rfl,hi,n1,n2,n3,hbr,kr⟩:=hrel
     clear k0 hb0 hsz0
     have x0:=ix0
     have x1:=ix1
     have x2:=ix2
     have hd2:(T.drop 2).length≤1000000000:=by rw [List.length_drop];omega
     obtain rfl | rfl | rfl | rfl:i=0∨i=1∨i=2∨i=3:=by omega
     ·cases hpre:([48,120]:List UInt8).isPrefixOf T
      ·have hc:=hid (cut2 T 48 120 (by omega) (wr.alloc (.cells #[.string ⟨#[48,120]⟩,.int .i64 16] 233)) false hpre)
       have hbn:Below w.heap.size w (wr.alloc (.cells #[.string ⟨#[48,120]⟩,.int .i64 16] 233)):=hbr.alloc hbr.size _
       have kn:=kr.alloc (.cells #[.string ⟨#[48,120]⟩,.int .i64 16] 233)
       go_wp2_with fail
       (with_reducible refine hc.out.mono ?_);rintro e w' ⟨rfl,rfl⟩
       go_wp2
       go_roundw
       case rel=>exact ⟨1,rfl,by decide,(by first | trivial | exact fun _=>hpre),fun h=>absurd h (by decide),fun h=>absurd h (by decide),hbn,kn⟩
       case measure=>simp [intOf]
      ·have hc:=hid (cut2 T 48 120 (by omega) (wr.alloc (.cells #[.string ⟨#[48,120]⟩,.int .i64 16] 233)) true hpre)
       have hcr:=hid (read_at (T.drop 2) hd2 16 16 rfl (by decide) (by decide) true (wr.alloc (.cells #[.string ⟨#[48,120]⟩,.int .i64 16] 233)))
       have e1:pBase T=16:=by simp [pBase,hpre]
       have e2:pBody T=T.drop 2:=by simp [pBody,hpre]
       rw [e1,e2] at HOK HVAL
       have HOK:=hid HOK.out
       have HVAL:=hid HVAL.out
       clear e1 e2
       have hbn:Below w.heap.size w (wr.alloc (.cells #[.string ⟨#[48,120]⟩,.int .i64 16] 233)):=hbr.alloc hbr.size _
       have kn:=kr.alloc (.cells #[.string ⟨#[48,120]⟩,.int .i64 16] 233)
       go_wp2_with fail
       (with_reducible refine hc.out.mono ?_);rintro e w' ⟨rfl,rfl⟩
       go_wp2_with fail
       (with_reducible refine hcr.out.mono ?_);rintro e w4 ⟨v,rfl,hb4,hp4,x1,x2,x3,y,z,rfl⟩
       obtain ⟨⟨r1,r2,r3⟩,r4,r5,r6⟩:=(kn.later hb4).three
       have hlt:=kn.lt
       go_wp2
       have hbF:=(((hbn.trans (hb4.mono hbn.size)).setCell (p:=⟨w.heap.size,0,none⟩) (Nat.le_refl _) (.slice x1 x2 x3)).setCell (p:=⟨w.heap.size,1,none⟩) (Nat.le_refl _) (.bool y)).setCell (p:=⟨w.heap.size,2,none⟩) (Nat.le_refl _) (.bool z)
       try simp only [Exit.inBlock,Exit.then]
       refine bodyPost_ret (v:=.tuple #[.agg #[.slice x1 x2 x3,.bool y,.bool z],.bool (rOK 16 (T.drop 2))]) (by simp [results,Tryz.results214,go_sem,r1,r2,r3]) rfl ⟨_,by rw [HOK.out],hbF,fun h=>?_,⟨_,_,_,_,_,rfl⟩⟩
       rw [HVAL.out]
       exact (((hp4 (by rw [← HOK.out];exact h)).set3 hlt (.slice x1 x2 x3) (.bool y) (.bool z)).mono (Nat.le_of_lt hlt))
     ·have m1:=n1 (by decide)
      cases hpre:([48,111]:List UInt8).isPrefixOf T
      ·have hc:=hid (cut2 T 48 111 (by omega) (wr.alloc (.cells #[.string ⟨#[48,111]⟩,.int .i64 8] 233)) false hpre)
       have hbn:Below w.heap.size w (wr.alloc (.cells #[.string ⟨#[48,111]⟩,.int .i64 8] 233)):=hbr.alloc hbr.size _
       have kn:=kr.alloc (.cells #[.string ⟨#[48,111]⟩,.int .i64 8] 233)
       go_wp2_with fail
       (with_reducible refine hc.out.mono ?_);rintro e w' ⟨rfl,rfl⟩
       go_wp2
       go_roundw
       case rel=>exact ⟨2,rfl,by decide,(by first | trivial | exact fun _=>m1),(by first | trivial | exact fun _=>hpre),fun h=>absurd h (by decide),hbn,kn⟩
       case measure=>simp [intOf]
      ·have hc:=hid (cut2 T 48 111 (by omega) (wr.alloc (.cells #[.string ⟨#[48,111]⟩,.int .i64 8] 233)) true hpre)
       have hcr:=hid (read_at (T.drop 2) hd2 8 8 rfl (by decide) (by decide) true (wr.alloc (.cells #[.string ⟨#[48,111]⟩,.int .i64 8] 233)))
       have e1:pBase T=8:=by simp [pBase,m1,hpre]
       have e2:pBody T=T.drop 2:=by simp [pBody,hpre]
       rw [e1,e2] at HOK HVAL
       have HOK:=hid HOK.out
       have HVAL:=hid HVAL.out
       clear e1 e2
       have hbn:Below w.heap.size w (wr.alloc (.cells #[.string ⟨#[48,111]⟩,.int .i64 8] 233)):=hbr.alloc hbr.size _
       have kn:=kr.alloc (.cells #[.string ⟨#[48,111]⟩,.int .i64 8] 233)
       go_wp2_with fail
       (with_reducible refine hc.out.mono ?_);rintro e w' ⟨rfl,rfl⟩
       go_wp2_with fail
       (with_reducible refine hcr.out.mono ?_);rintro e w4 ⟨v,rfl,hb4,hp4,x1,x2,x3,y,z,rfl⟩
       obtain ⟨⟨r1,r2,r3⟩,r4,r5,r6⟩:=(kn.later hb4).three
       have hlt:=kn.lt
       go_wp2
       have hbF:=(((hbn.trans (hb4.mono hbn.size)).setCell (p:=⟨w.heap.size,0,none⟩) (Nat.le_refl _) (.slice x1 x2 x3)).setCell (p:=⟨w.heap.size,1,none⟩) (Nat.le_refl _) (.bool y)).setCell (p:=⟨w.heap.size,2,none⟩) (Nat.le_refl _) (.bool z)
       try simp only [Exit.inBlock,Exit.then]
       refine bodyPost_ret (v:=.tuple #[.agg #[.slice x1 x2 x3,.bool y,.bool z],.bool (rOK 8 (T.drop 2))]) (by simp [results,Tryz.results214,go_sem,r1,r2,r3]) rfl ⟨_,by rw [HOK.out],hbF,fun h=>?_,⟨_,_,_,_,_,rfl⟩⟩
       rw [HVAL.out]
       exact (((hp4 (by rw [← HOK.out];exact h)).set3 hlt (.slice x1 x2 x3) (.bool y) (.bool z)).mono (Nat.le_of_lt hlt))
     ·have m1:=n1 (by decide)
      have m2:=n2 (by decide)
      cases hpre:([48,98]:List UInt8).isPrefixOf T
      ·have hc:=hid (cut2 T 48 98 (by omega) (wr.alloc (.cells #[.string ⟨#[48,98]⟩,.int .i64 2] 233)) false hpre)
       have hbn:Below w.heap.size w (wr.alloc (.cells #[.string ⟨#[48,98]⟩,.int .i64 2] 233)):=hbr.alloc hbr.size _
       have kn:=kr.alloc (.cells #[.string ⟨#[48,98]⟩,.int .i64 2] 233)
       go_wp2_with fail
       (with_reducible refine hc.out.mono ?_);rintro e w' ⟨rfl,rfl⟩
       go_wp2
       go_roundw
       case rel=>exact ⟨3,rfl,by decide,(by first | trivial | exact fun _=>m1),(by first | trivial | exact fun _=>m2),(by first | trivial | exact fun _=>hpre),hbn,kn⟩
       case measure=>simp [intOf]
      ·have hc:=hid (cut2 T 48 98 (by omega) (wr.alloc (.cells #[.string ⟨#[48,98]⟩,.int .i64 2] 233)) true hpre)
       have hcr:=hid (read_at (T.drop 2) hd2 2 2 rfl (by decide) (by decide) true (wr.alloc (.cells #[.string ⟨#[48,98]⟩,.int .i64 2] 233)))
       have e1:pBase T=2:=by simp [pBase,m1,m2,hpre]
       have e2:pBody T=T.drop 2:=by simp [pBody,hpre]
       rw [e1,e2] at HOK HVAL
       have HOK:=hid HOK.out
       have HVAL:=hid HVAL.out
       clear e1 e2
       have hbn:Below w.heap.size w (wr.alloc (.cells #[.string ⟨#[48,98]⟩,.int .i64 2] 233)):=hbr.alloc hbr.size _
       have kn:=kr.alloc (.cells #[.string ⟨#[48,98]⟩,.int .i64 2] 233)
       go_wp2_with fail
       (with_reducible refine hc.out.mono ?_);rintro e w' ⟨rfl,rfl⟩
       go_wp2_with fail
       (with_reducible refine hcr.out.mono ?_);rintro e w4 ⟨v,rfl,hb4,hp4,x1,x2,x3,y,z,rfl⟩
       obtain ⟨⟨r1,r2,r3⟩,r4,r5,r6⟩:=(kn.later hb4).three
       have hlt:=kn.lt
       go_wp2
       have hbF:=(((hbn.trans (hb4.mono hbn.size)).setCell (p:=⟨w.heap.size,0,none⟩) (Nat.le_refl _) (.slice x1 x2 x3)).setCell (p:=⟨w.heap.size,1,none⟩) (Nat.le_refl _) (.bool y)).setCell (p:=⟨w.heap.size,2,none⟩) (Nat.le_refl _) (.bool z)
       try simp only [Exit.inBlock,Exit.then]
       refine bodyPost_ret (v:=.tuple #[.agg #[.slice x1 x2 x3,.bool y,.bool z],.bool (rOK 2 (T.drop 2))]) (by simp [results,Tryz.results214,go_sem,r1,r2,r3]) rfl ⟨_,by rw [HOK.out],hbF,fun h=>?_,⟨_,_,_,_,_,rfl⟩⟩
       rw [HVAL.out]
       exact (((hp4 (by rw [← HOK.out];exact h)).set3 hlt (.slice x1 x2 x3) (.bool y) (.bool z)).mono (Nat.le_of_lt hlt))
     ·have m1:=n1 (by decide)
      have m2:=n2 (by decide)
      have m3:=n3 (by decide)
      have hcr:=hid (read_at T (by omega) 10 10 rfl (by decide) (by decide) true wr)
      have e1:pBase T=10:=by simp [pBase,m1,m2,m3]
      have e2:pBody T=T:=by simp [pBody,m1,m2,m3]
      rw [e1,e2] at HOK HVAL
      have HOK:=hid HOK.out
      have HVAL:=hid HVAL.out
      clear e1 e2
      go_wp2_with fail
      (with_reducible refine hcr.out.mono ?_);rintro e w4 ⟨v,rfl,hb4,hp4,x1,x2,x3,y,z,rfl⟩
      obtain ⟨⟨r1,r2,r3⟩,r4,r5,r6⟩:=(kr.later hb4).three
      have hlt:=kr.lt
      go_wp2
      have hbF:=(((hbr.trans (hb4.mono hbr.size)).setCell (p:=⟨w.heap.size,0,none⟩) (Nat.le_refl _) (.slice x1 x2 x3)).setCell (p:=⟨w.heap.size,1,none⟩) (Nat.le_refl _) (.bool y)).setCell (p:=⟨w.heap.size,2,none⟩) (Nat.le_refl _) (.bool z)
      try simp only [Exit.inBlock,Exit.then]
      refine bodyPost_ret (v:=.tuple #[.agg #[.slice x1 x2 x3,.bool y,.bool z],.bool (rOK 10 T)]) (by simp [results,Tryz.results214,go_sem,r1,r2,r3]) rfl ⟨_,by rw [HOK.out],hbF,fun h=>?_,⟨_,_,_,_,_,rfl⟩⟩
      rw [HVAL.out]
      exact (((hp4 (by rw [← HOK.out];exact h)).set3 hlt (.slice x1 x2 x3) (.bool y) (.bool z)).mono (Nat.le_of_lt hlt))
   ·rw [hn] at HVAL
    have hc1:=hid (pre1 _ 45 hS W false hm)
    have hc2:=hid (pre1 _ 43 hS W true hp)
    have h1:(⟨(43::T).toArray⟩:ByteArray).size=T.length+1:=by rw [Lib.size_mk];simp
    have h2:(⟨(43::T).toArray⟩:ByteArray).extract 1 (T.length+1)=⟨T.toArray⟩:=by rw [Lib.extract_mk];simp
    have hT':T.length≤999999999:=by simpa using hS
    clear hn hm hp
    go_upto_block 4 with (first | fail|(with_reducible refine hc1.out.mono ?_);rintro e w' ⟨rfl,rfl⟩|(with_reducible refine hc2.out.mono ?_);rintro e w' ⟨rfl,rfl⟩)
    clear hc1 hc2 h1 h2 hS
    go_wp2_with fail
    go_loopw [46] (fun iv wr=>∃ i:Nat,iv=.int .i64 i∧i≤3∧(0<i→([48,120]:List UInt8).isPrefixOf T=false)∧(1<i→([48,111]:List UInt8).isPrefixOf T=false)∧(2<i→([48,98]:List UInt8).isPrefixOf T=false)∧Below w.heap.size w wr∧Blk wr w.heap.size #[.slice none 0 0,.bool false,.bool false] 203) (fun iv _=>3-(intOf iv).toNat)
    case atStart=>exact ⟨0,rfl,by decide,fun h=>absurd h (by decide),fun h=>absurd h (by decide),fun h=>absurd h (by decide),hb0,k0⟩
    case round=>
     obtain ⟨i,rfl,hi,n1,n2,n3,hbr,kr⟩:=hrel
     clear k0 hb0 hsz0
     have x0:=ix0
     have x1:=ix1
     have x2:=ix2
     have hd2:(T.drop 2).length≤1000000000:=by rw [List.length_drop];omega
     obtain rfl | rfl | rfl | rfl:i=0∨i=1∨i=2∨i=3:=by omega
     ·cases hpre:([48,120]:List UInt8).isPrefixOf T
      ·have hc:=hid (cut2 T 48 120 (by omega) (wr.alloc (.cells #[.string ⟨#[48,120]⟩,.int .i64 16] 233)) false hpre)
       have hbn:Below w.heap.size w (wr.alloc (.cells #[.string ⟨#[48,120]⟩,.int .i64 16] 233)):=hbr.alloc hbr.size _
       have kn:=kr.alloc (.cells #[.string ⟨#[48,120]⟩,.int .i64 16] 233)
       go_wp2_with fail
       (with_reducible refine hc.out.mono ?_);rintro e w' ⟨rfl,rfl⟩
       go_wp2
       go_roundw
       case rel=>exact ⟨1,rfl,by decide,(by first | trivial | exact fun _=>hpre),fun h=>absurd h (by decide),fun h=>absurd h (by decide),hbn,kn⟩
       case measure=>simp [intOf]
      ·have hc:=hid (cut2 T 48 120 (by omega) (wr.alloc (.cells #[.string ⟨#[48,120]⟩,.int .i64 16] 233)) true hpre)
       have hcr:=hid (read_at (T.drop 2) hd2 16 16 rfl (by decide) (by decide) false (wr.alloc (.cells #[.string ⟨#[48,120]⟩,.int .i64 16] 233)))
       have e1:pBase T=16:=by simp [pBase,hpre]
       have e2:pBody T=T.drop 2:=by simp [pBody,hpre]
       rw [e1,e2] at HOK HVAL
       have HOK:=hid HOK.out
       have HVAL:=hid HVAL.out
       clear e1 e2
       have hbn:Below w.heap.size w (wr.alloc (.cells #[.string ⟨#[48,120]⟩,.int .i64 16] 233)):=hbr.alloc hbr.size _
       have kn:=kr.alloc (.cells #[.string ⟨#[48,120]⟩,.int .i64 16] 233)
       go_wp2_with fail
       (with_reducible refine hc.out.mono ?_);rintro e w' ⟨rfl,rfl⟩
       go_wp2_with fail
       (with_reducible refine hcr.out.mono ?_);rintro e w4 ⟨v,rfl,hb4,hp4,x1,x2,x3,y,z,rfl⟩
       obtain ⟨⟨r1,r2,r3⟩,r4,r5,r6⟩:=(kn.later hb4).three
       have hlt:=kn.lt
       go_wp2
       have hbF:=(((hbn.trans (hb4.mono hbn.size)).setCell (p:=⟨w.heap.size,0,none⟩) (Nat.le_refl _) (.slice x1 x2 x3)).setCell (p:=⟨w.heap.size,1,none⟩) (Nat.le_refl _) (.bool y)).setCell (p:=⟨w.heap.size,2,none⟩) (Nat.le_refl _) (.bool z)
       try simp only [Exit.inBlock,Exit.then]
       refine bodyPost_ret (v:=.tuple #[.agg #[.slice x1 x2 x3,.bool y,.bool z],.bool (rOK 16 (T.drop 2))]) (by simp [results,Tryz.results214,go_sem,r1,r2,r3]) rfl ⟨_,by rw [HOK.out],hbF,fun h=>?_,⟨_,_,_,_,_,rfl⟩⟩
       rw [HVAL.out]
       exact (((hp4 (by rw [← HOK.out];exact h)).set3 hlt (.slice x1 x2 x3) (.bool y) (.bool z)).mono (Nat.le_of_lt hlt))
     ·have m1:=n1 (by decide)
      cases hpre:([48,111]:List UInt8).isPrefixOf T
      ·have hc:=hid (cut2 T 48 111 (by omega) (wr.alloc (.cells #[.string ⟨#[48,111]⟩,.int .i64 8] 233)) false hpre)
       have hbn:Below w.heap.size w (wr.alloc (.cells #[.string ⟨#[48,111]⟩,.int .i64 8] 233)):=hbr.alloc hbr.size _
       have kn:=kr.alloc (.cells #[.string ⟨#[48,111]⟩,.int .i64 8] 233)
       go_wp2_with fail
       (with_reducible refine hc.out.mono ?_);rintro e w' ⟨rfl,rfl⟩
       go_wp2
       go_roundw
       case rel=>exact ⟨2,rfl,by decide,(by first | trivial | exact fun _=>m1),(by first | trivial | exact fun _=>hpre),fun h=>absurd h (by decide),hbn,kn⟩
       case measure=>simp [intOf]
      ·have hc:=hid (cut2 T 48 111 (by omega) (wr.alloc (.cells #[.string ⟨#[48,111]⟩,.int .i64 8] 233)) true hpre)
       have hcr:=hid (read_at (T.drop 2) hd2 8 8 rfl (by decide) (by decide) false (wr.alloc (.cells #[.string ⟨#[48,111]⟩,.int .i64 8] 233)))
       have e1:pBase T=8:=by simp [pBase,m1,hpre]
       have e2:pBody T=T.drop 2:=by simp [pBody,hpre]
       rw [e1,e2] at HOK HVAL
       have HOK:=hid HOK.out
       have HVAL:=hid HVAL.out
       clear e1 e2
       have hbn:Below w.heap.size w (wr.alloc (.cells #[.string ⟨#[48,111]⟩,.int .i64 8] 233)):=hbr.alloc hbr.size _
       have kn:=kr.alloc (.cells #[.string ⟨#[48,111]⟩,.int .i64 8] 233)
       go_wp2_with fail
       (with_reducible refine hc.out.mono ?_);rintro e w' ⟨rfl,rfl⟩
       go_wp2_with fail
       (with_reducible refine hcr.out.mono ?_);rintro e w4 ⟨v,rfl,hb4,hp4,x1,x2,x3,y,z,rfl⟩
       obtain ⟨⟨r1,r2,r3⟩,r4,r5,r6⟩:=(kn.later hb4).three
       have hlt:=kn.lt
       go_wp2
       have hbF:=(((hbn.trans (hb4.mono hbn.size)).setCell (p:=⟨w.heap.size,0,none⟩) (Nat.le_refl _) (.slice x1 x2 x3)).setCell (p:=⟨w.heap.size,1,none⟩) (Nat.le_refl _) (.bool y)).setCell (p:=⟨w.heap.size,2,none⟩) (Nat.le_refl _) (.bool z)
       try simp only [Exit.inBlock,Exit.then]
       refine bodyPost_ret (v:=.tuple #[.agg #[.slice x1 x2 x3,.bool y,.bool z],.bool (rOK 8 (T.drop 2))]) (by simp [results,Tryz.results214,go_sem,r1,r2,r3]) rfl ⟨_,by rw [HOK.out],hbF,fun h=>?_,⟨_,_,_,_,_,rfl⟩⟩
       rw [HVAL.out]
       exact (((hp4 (by rw [← HOK.out];exact h)).set3 hlt (.slice x1 x2 x3) (.bool y) (.bool z)).mono (Nat.le_of_lt hlt))
     ·have m1:=n1 (by decide)
      have m2:=n2 (by decide)
      cases hpre:([48,98]:List UInt8).isPrefixOf T
      ·have hc:=hid (cut2 T 48 98 (by omega) (wr.alloc (.cells #[.string ⟨#[48,98]⟩,.int .i64 2] 233)) false hpre)
       have hbn:Below w.heap.size w (wr.alloc (.cells #[.string ⟨#[48,98]⟩,.int .i64 2] 233)):=hbr.alloc hbr.size _
       have kn:=kr.alloc (.cells #[.string ⟨#[48,98]⟩,.int .i64 2] 233)
       go_wp2_with fail
       (with_reducible refine hc.out.mono ?_);rintro e w' ⟨rfl,rfl⟩
       go_wp2
       go_roundw
       case rel=>exact ⟨3,rfl,by decide,(by first | trivial | exact fun _=>m1),(by first | trivial | exact fun _=>m2),(by first | trivial | exact fun _=>hpre),hbn,kn⟩
       case measure=>simp [intOf]
      ·have hc:=hid (cut2 T 48 98 (by omega) (wr.alloc (.cells #[.string ⟨#[48,98]⟩,.int .i64 2] 233)) true hpre)
       have hcr:=hid (read_at (T.drop 2) hd2 2 2 rfl (by decide) (by decide) false (wr.alloc (.cells #[.string ⟨#[48,98]⟩,.int .i64 2] 233)))
       have e1:pBase T=2:=by simp [pBase,m1,m2,hpre]
       have e2:pBody T=T.drop 2:=by simp [pBody,hpre]
       rw [e1,e2] at HOK HVAL
       have HOK:=hid HOK.out
       have HVAL:=hid HVAL.out
       clear e1 e2
       have hbn:Below w.heap.size w (wr.alloc (.cells #[.string ⟨#[48,98]⟩,.int .i64 2] 233)):=hbr.alloc hbr.size _
       have kn:=kr.alloc (.cells #[.string ⟨#[48,98]⟩,.int .i64 2] 233)
       go_wp2_with fail
       (with_reducible refine hc.out.mono ?_);rintro e w' ⟨rfl,rfl⟩
       go_wp2_with fail
       (with_reducible refine hcr.out.mono ?_);rintro e w4 ⟨v,rfl,hb4,hp4,x1,x2,x3,y,z,rfl⟩
       obtain ⟨⟨r1,r2,r3⟩,r4,r5,r6⟩:=(kn.later hb4).three
       have hlt:=kn.lt
       go_wp2
       have hbF:=(((hbn.trans (hb4.mono hbn.size)).setCell (p:=⟨w.heap.size,0,none⟩) (Nat.le_refl _) (.slice x1 x2 x3)).setCell (p:=⟨w.heap.size,1,none⟩) (Nat.le_refl _) (.bool y)).setCell (p:=⟨w.heap.size,2,none⟩) (Nat.le_refl _) (.bool z)
       try simp only [Exit.inBlock,Exit.then]
       refine bodyPost_ret (v:=.tuple #[.agg #[.slice x1 x2 x3,.bool y,.bool z],.bool (rOK 2 (T.drop 2))]) (by simp [results,Tryz.results214,go_sem,r1,r2,r3]) rfl ⟨_,by rw [HOK.out],hbF,fun h=>?_,⟨_,_,_,_,_,rfl⟩⟩
       rw [HVAL.out]
       exact (((hp4 (by rw [← HOK.out];exact h)).set3 hlt (.slice x1 x2 x3) (.bool y) (.bool z)).mono (Nat.le_of_lt hlt))
     ·have m1:=n1 (by decide)
      have m2:=n2 (by decide)
      have m3:=n3 (by decide)
      have hcr:=hid (read_at T (by omega) 10 10 rfl (by decide) (by decide) false wr)
      have e1:pBase T=10:=by simp [pBase,m1,m2,m3]
      have e2:pBody T=T:=by simp [pBody,m1,m2,m3]
      rw [e1,e2] at HOK HVAL
      have HOK:=hid HOK.out
      have HVAL:=hid HVAL.out
      clear e1 e2
      go_wp2_with fail
      (with_reducible refine hcr.out.mono ?_);rintro e w4 ⟨v,rfl,hb4,hp4,x1,x2,x3,y,z,rfl⟩
      obtain ⟨⟨r1,r2,r3⟩,r4,r5,r6⟩:=(kr.later hb4).three
      have hlt:=kr.lt
      go_wp2
      have hbF:=(((hbr.trans (hb4.mono hbr.size)).setCell (p:=⟨w.heap.size,0,none⟩) (Nat.le_refl _) (.slice x1 x2 x3)).setCell (p:=⟨w.heap.size,1,none⟩) (Nat.le_refl _) (.bool y)).setCell (p:=⟨w.heap.size,2,none⟩) (Nat.le_refl _) (.bool z)
      try simp only [Exit.inBlock,Exit.then]
      refine bodyPost_ret (v:=.tuple #[.agg #[.slice x1 x2 x3,.bool y,.bool z],.bool (rOK 10 T)]) (by simp [results,Tryz.results214,go_sem,r1,r2,r3]) rfl ⟨_,by rw [HOK.out],hbF,fun h=>?_,⟨_,_,_,_,_,rfl⟩⟩
      rw [HVAL.out]
      exact (((hp4 (by rw [← HOK.out];exact h)).set3 hlt (.slice x1 x2 x3) (.bool y) (.bool z)).mono (Nat.le_of_lt hlt))
   ·have hST':=hST.symm
    subst hST'
    rw [hn] at HVAL
    have hc1:=hid (pre1 _ 45 hS W false hm)
    have hc2:=hid (pre1 _ 43 hS W false hp)
    have hT':=hS
    clear hn hm hp
    go_upto_block 4 with (first | fail|(with_reducible refine hc1.out.mono ?_);rintro e w' ⟨rfl,rfl⟩|(with_reducible refine hc2.out.mono ?_);rintro e w' ⟨rfl,rfl⟩)
    clear hc1 hc2 hS
    go_wp2_with fail
    go_loopw [46] (fun iv wr=>∃ i:Nat,iv=.int .i64 i∧i≤3∧(0<i→([48,120]:List UInt8).isPrefixOf T=false)∧(1<i→([48,111]:List UInt8).isPrefixOf T=false)∧(2<i→([48,98]:List UInt8).isPrefixOf T=false)∧Below w.heap.size w wr∧Blk wr w.heap.size #[.slice none 0 0,.bool false,.bool false] 203) (fun iv _=>3-(intOf iv).toNat)
    case atStart=>exact ⟨0,rfl,by decide,fun h=>absurd h (by decide),fun h=>absurd h (by decide),fun h=>absurd h (by decide),hb0,k0⟩
    case round=>
     obtain ⟨i,rfl,hi,n1,n2,n3,hbr,kr⟩:=hrel
     clear k0 hb0 hsz0
     have x0:=ix0
     have x1:=ix1
     have x2:=ix2
     have hd2:(T.drop 2).length≤1000000000:=by rw [List.length_drop];omega
     obtain rfl | rfl | rfl | rfl:i=0∨i=1∨i=2∨i=3:=by omega
     ·cases hpre:([48,120]:List UInt8).isPrefixOf T
      ·have hc:=hid (cut2 T 48 120 (by omega) (wr.alloc (.cells #[.string ⟨#[48,120]⟩,.int .i64 16] 233)) false hpre)
       have hbn:Below w.heap.size w (wr.alloc (.cells #[.string ⟨#[48,120]⟩,.int .i64 16] 233)):=hbr.alloc hbr.size _
       have kn:=kr.alloc (.cells #[.string ⟨#[48,120]⟩,.int .i64 16] 233)
       go_wp2_with fail
       (with_reducible refine hc.out.mono ?_);rintro e w' ⟨rfl,rfl⟩
       go_wp2
       go_roundw
       case rel=>exact ⟨1,rfl,by decide,(by first | trivial | exact fun _=>hpre),fun h=>absurd h (by decide),fun h=>absurd h (by decide),hbn,kn⟩
       case measure=>simp [intOf]
      ·have hc:=hid (cut2 T 48 120 (by omega) (wr.alloc (.cells #[.string ⟨#[48,120]⟩,.int .i64 16] 233)) true hpre)
       have hcr:=hid (read_at (T.drop 2) hd2 16 16 rfl (by decide) (by decide) false (wr.alloc (.cells #[.string ⟨#[48,120]⟩,.int .i64 16] 233)))
       have e1:pBase T=16:=by simp [pBase,hpre]
       have e2:pBody T=T.drop 2:=by simp [pBody,hpre]
       rw [e1,e2] at HOK HVAL
       have HOK:=hid HOK.out
       have HVAL:=hid HVAL.out
       clear e1 e2
       have hbn:Below w.heap.size w (wr.alloc (.cells #[.string ⟨#[48,120]⟩,.int .i64 16] 233)):=hbr.alloc hbr.size _
       have kn:=kr.alloc (.cells #[.string ⟨#[48,120]⟩,.int .i64 16] 233)
       go_wp2_with fail
       (with_reducible refine hc.out.mono ?_);rintro e w' ⟨rfl,rfl⟩
       go_wp2_with fail
       (with_reducible refine hcr.out.mono ?_);rintro e w4 ⟨v,rfl,hb4,hp4,x1,x2,x3,y,z,rfl⟩
       obtain ⟨⟨r1,r2,r3⟩,r4,r5,r6⟩:=(kn.later hb4).three
       have hlt:=kn.lt
       go_wp2
       have hbF:=(((hbn.trans (hb4.mono hbn.size)).setCell (p:=⟨w.heap.size,0,none⟩) (Nat.le_refl _) (.slice x1 x2 x3)).setCell (p:=⟨w.heap.size,1,none⟩) (Nat.le_refl _) (.bool y)).setCell (p:=⟨w.heap.size,2,none⟩) (Nat.le_refl _) (.bool z)
       try simp only [Exit.inBlock,Exit.then]
       refine bodyPost_ret (v:=.tuple #[.agg #[.slice x1 x2 x3,.bool y,.bool z],.bool (rOK 16 (T.drop 2))]) (by simp [results,Tryz.results214,go_sem,r1,r2,r3]) rfl ⟨_,by rw [HOK.out],hbF,fun h=>?_,⟨_,_,_,_,_,rfl⟩⟩
       rw [HVAL.out]
       exact (((hp4 (by rw [← HOK.out];exact h)).set3 hlt (.slice x1 x2 x3) (.bool y) (.bool z)).mono (Nat.le_of_lt hlt))
     ·have m1:=n1 (by decide)
      cases hpre:([48,111]:List UInt8).isPrefixOf T
      ·have hc:=hid (cut2 T 48 111 (by omega) (wr.alloc (.cells #[.string ⟨#[48,111]⟩,.int .i64 8] 233)) false hpre)
       have hbn:Below w.heap.size w (wr.alloc (.cells #[.string ⟨#[48,111]⟩,.int .i64 8] 233)):=hbr.alloc hbr.size _
       have kn:=kr.alloc (.cells #[.string ⟨#[48,111]⟩,.int .i64 8] 233)
       go_wp2_with fail
       (with_reducible refine hc.out.mono ?_);rintro e w' ⟨rfl,rfl⟩
       go_wp2
       go_roundw
       case rel=>exact ⟨2,rfl,by decide,(by first | trivial | exact fun _=>m1),(by first | trivial | exact fun _=>hpre),fun h=>absurd h (by decide),hbn,kn⟩
       case measure=>simp [intOf]
      ·have hc:=hid (cut2 T 48 111 (by omega) (wr.alloc (.cells #[.string ⟨#[48,111]⟩,.int .i64 8] 233)) true hpre)
       have hcr:=hid (read_at (T.drop 2) hd2 8 8 rfl (by decide) (by decide) false (wr.alloc (.cells #[.string ⟨#[48,111]⟩,.int .i64 8] 233)))
       have e1:pBase T=8:=by simp [pBase,m1,hpre]
       have e2:pBody T=T.drop 2:=by simp [pBody,hpre]
       rw [e1,e2] at HOK HVAL
       have HOK:=hid HOK.out
       have HVAL:=hid HVAL.out
       clear e1 e2
       have hbn:Below w.heap.size w (wr.alloc (.cells #[.string ⟨#[48,111]⟩,.int .i64 8] 233)):=hbr.alloc hbr.size _
       have kn:=kr.alloc (.cells #[.string ⟨#[48,111]⟩,.int .i64 8] 233)
       go_wp2_with fail
       (with_reducible refine hc.out.mono ?_);rintro e w' ⟨rfl,rfl⟩
       go_wp2_with fail
       (with_reducible refine hcr.out.mono ?_);rintro e w4 ⟨v,rfl,hb4,hp4,x1,x2,x3,y,z,rfl⟩
       obtain ⟨⟨r1,r2,r3⟩,r4,r5,r6⟩:=(kn.later hb4).three
       have hlt:=kn.lt
       go_wp2
       have hbF:=(((hbn.trans (hb4.mono hbn.size)).setCell (p:=⟨w.heap.size,0,none⟩) (Nat.le_refl _) (.slice x1 x2 x3)).setCell (p:=⟨w.heap.size,1,none⟩) (Nat.le_refl _) (.bool y)).setCell (p:=⟨w.heap.size,2,none⟩) (Nat.le_refl _) (.bool z)
       try simp only [Exit.inBlock,Exit.then]
       refine bodyPost_ret (v:=.tuple #[.agg #[.slice x1 x2 x3,.bool y,.bool z],.bool (rOK 8 (T.drop 2))]) (by simp [results,Tryz.results214,go_sem,r1,r2,r3]) rfl ⟨_,by rw [HOK.out],hbF,fun h=>?_,⟨_,_,_,_,_,rfl⟩⟩
       rw [HVAL.out]
       exact (((hp4 (by rw [← HOK.out];exact h)).set3 hlt (.slice x1 x2 x3) (.bool y) (.bool z)).mono (Nat.le_of_lt hlt))
     ·have m1:=n1 (by decide)
      have m2:=n2 (by decide)
      cases hpre:([48,98]:List UInt8).isPrefixOf T
      ·have hc:=hid (cut2 T 48 98 (by omega) (wr.alloc (.cells #[.string ⟨#[48,98]⟩,.int .i64 2] 233)) false hpre)
       have hbn:Below w.heap.size w (wr.alloc (.cells #[.string ⟨#[48,98]⟩,.int .i64 2] 233)):=hbr.alloc hbr.size _
       have kn:=kr.alloc (.cells #[.string ⟨#[48,98]⟩,.int .i64 2] 233)
       go_wp2_with fail
       (with_reducible refine hc.out.mono ?_);rintro e w' ⟨rfl,rfl⟩
       go_wp2
       go_roundw
       case rel=>exact ⟨3,rfl,by decide,(by first | trivial | exact fun _=>m1),(by first | trivial | exact fun _=>m2),(by first | trivial | exact fun _=>hpre),hbn,kn⟩
       case measure=>simp [intOf]
      ·have hc:=hid (cut2 T 48 98 (by omega) (wr.alloc (.cells #[.string ⟨#[48,98]⟩,.int .i64 2] 233)) true hpre)
       have hcr:=hid (read_at (T.drop 2) hd2 2 2 rfl (by decide) (by decide) false (wr.alloc (.cells #[.string ⟨#[48,98]⟩,.int .i64 2] 233)))
       have e1:pBase T=2:=by simp [pBase,m1,m2,hpre]
       have e2:pBody T=T.drop 2:=by simp [pBody,hpre]
       rw [e1,e2] at HOK HVAL
       have HOK:=hid HOK.out
       have HVAL:=hid HVAL.out
       clear e1 e2
       have hbn:Below w.heap.size w (wr.alloc (.cells #[.string ⟨#[48,98]⟩,.int .i64 2] 233)):=hbr.alloc hbr.size _
       have kn:=kr.alloc (.cells #[.string ⟨#[48,98]⟩,.int .i64 2] 233)
       go_wp2_with fail
       (with_reducible refine hc.out.mono ?_);rintro e w' ⟨rfl,rfl⟩
       go_wp2_with fail
       (with_reducible refine hcr.out.mono ?_);rintro e w4 ⟨v,rfl,hb4,hp4,x1,x2,x3,y,z,rfl⟩
       obtain ⟨⟨r1,r2,r3⟩,r4,r5,r6⟩:=(kn.later hb4).three
       have hlt:=kn.lt
       go_wp2
       have hbF:=(((hbn.trans (hb4.mono hbn.size)).setCell (p:=⟨w.heap.size,0,none⟩) (Nat.le_refl _) (.slice x1 x2 x3)).setCell (p:=⟨w.heap.size,1,none⟩) (Nat.le_refl _) (.bool y)).setCell (p:=⟨w.heap.size,2,none⟩) (Nat.le_refl _) (.bool z)
       try simp only [Exit.inBlock,Exit.then]
       refine bodyPost_ret (v:=.tuple #[.agg #[.slice x1 x2 x3,.bool y,.bool z],.bool (rOK 2 (T.drop 2))]) (by simp [results,Tryz.results214,go_sem,r1,r2,r3]) rfl ⟨_,by rw [HOK.out],hbF,fun h=>?_,⟨_,_,_,_,_,rfl⟩⟩
       rw [HVAL.out]
       exact (((hp4 (by rw [← HOK.out];exact h)).set3 hlt (.slice x1 x2 x3) (.bool y) (.bool z)).mono (Nat.le_of_lt hlt))
     ·have m1:=n1 (by decide)
      have m2:=n2 (by decide)
      have m3:=n3 (by decide)
      have hcr:=hid (read_at T (by omega) 10 10 rfl (by decide) (by decide) false wr)
      have e1:pBase T=10:=by simp [pBase,m1,m2,m3]
      have e2:pBody T=T:=by simp [pBody,m1,m2,m3]
      rw [e1,e2] at HOK HVAL
      have HOK:=hid HOK.out
      have HVAL:=hid HVAL.out
      clear e1 e2
      go_wp2_with fail
      (with_reducible refine hcr.out.mono ?_);rintro e w4 ⟨v,rfl,hb4,hp4,x1,x2,x3,y,z,rfl⟩
      obtain ⟨⟨r1,r2,r3⟩,r4,r5,r6⟩:=(kr.later hb4).three
      have hlt:=kr.lt
      go_wp2
      have hbF:=(((hbr.trans (hb4.mono hbr.size)).setCell (p:=⟨w.heap.size,0,none⟩) (Nat.le_refl _) (.slice x1 x2 x3)).setCell (p:=⟨w.heap.size,1,none⟩) (Nat.le_refl _) (.bool y)).setCell (p:=⟨w.heap.size,2,none⟩) (Nat.le_refl _) (.bool z)
      try simp only [Exit.inBlock,Exit.then]
      refine bodyPost_ret (v:=.tuple #[.agg #[.slice x1 x2 x3,.bool y,.bool z],.bool (rOK 10 T)]) (by simp [results,Tryz.results214,go_sem,r1,r2,r3]) rfl ⟨_,by rw [HOK.out],hbF,fun h=>?_,⟨_,_,_,_,_,rfl⟩⟩
      rw [HVAL.out]
      exact (((hp4 (by rw [← HOK.out];exact h)).set3 hlt (.slice x1 x2 x3) (.bool y) (.bool z)).mono (Nat.le_of_lt hlt))
end Go.Proofs.YtihdndaibmgoiaaGreatDoor
namespace Go.Proofs.YtihdndaibmgoiaaGreatDoor
open Go.RowKit
theorem within_fn (n lo hi:Int) (w:World):Calls Tryz.prog 104 #[.int .i64 n,.int .i64 lo,.int .i64 hi] w fun e w'=>e=.returned (.bool (decide (lo≤n) && decide (n≤hi)))∧w'=w:=by
 by_cases h1:lo≤n
 ·have HE:=hid (show (decide (lo≤n) && decide (n≤hi))=decide (n≤hi) by rw [decide_eq_true h1];rfl)
  go_enter Tryz.func104,Tryz.ntmps104
  go_wp2
  go_ret
  exact ⟨by rw [HE.out];rfl,rfl⟩
 ·have HE:=hid (show (decide (lo≤n) && decide (n≤hi))=false by rw [decide_eq_false h1];rfl)
  go_enter Tryz.func104,Tryz.ntmps104
  go_wp2
  go_ret
  exact ⟨by rw [HE.out];rfl,rfl⟩
def smallN (x:Nat):Nat:=if 65≤x∧x≤90 then x+32 else x
theorem small_fn (x:Nat) (hx:x<256) (w:World):Calls Tryz.prog 105 #[.int .u8 x] w fun e w'=>e=.returned (.int .u8 (smallN x))∧w'=w:=by
 have hc:=hid (within_fn x 65 90 w)
 by_cases h:65≤x∧x≤90
 ·have HE:=hid (show smallN x=x+32 by unfold smallN;rw [if_pos h])
  have hb:(decide ((65:Int)≤(x:Int)) && decide ((x:Int)≤90))=true:=by
   rw [decide_eq_true (by omega),decide_eq_true (by omega)];rfl
  rw [hb] at hc
  have hc:=hid hc.out
  obtain ⟨g1,g2⟩:=h
  go_enter Tryz.func105,Tryz.ntmps105
  go_wp2_with fail
  (with_reducible refine hc.out.mono ?_);rintro e w' ⟨rfl,rfl⟩
  go_wp2
  go_ret
  exact ⟨by rw [HE.out];rfl,rfl⟩
 ·have HE:=hid (show smallN x=x by unfold smallN;rw [if_neg h])
  have hb:(decide ((65:Int)≤(x:Int)) && decide ((x:Int)≤90))=false:=by
   by_cases h1:65≤x
   ·rw [decide_eq_false (show ¬ (x:Int)≤90 by omega),Bool.and_false]
   ·rw [decide_eq_false (show ¬ (65:Int)≤(x:Int) by omega),Bool.false_and]
  rw [hb] at hc
  have hc:=hid hc.out
  clear h
  go_enter Tryz.func105,Tryz.ntmps105
  go_wp2_with fail
  (with_reducible refine hc.out.mono ?_);rintro e w' ⟨rfl,rfl⟩
  go_wp2
  go_ret
  exact ⟨by rw [HE.out];rfl,rfl⟩
def digR (c:UInt8) (b:Nat):Int:=if valOf c<b then (valOf c:Int) else -1
theorem digit_fn (c:UInt8) (b:Nat) (hb:b≤36) (hb2:2≤b) (w:World):Calls Tryz.prog 58 #[.int .u8 c.toNat,.int .i64 b] w fun e w'=>e=.returned (.int .i64 (digR c b))∧w'=w:=by
  have hw:valOf c=if 48≤c.toNat∧c.toNat≤57 then c.toNat-48
    else if 97≤c.toNat∧c.toNat≤122 then c.toNat-97+10
    else if 65≤c.toNat∧c.toNat≤90 then c.toNat-65+10
    else 36:=rfl
  have hd:digR c b=if valOf c<b then (valOf c:Int) else -1:=rfl
  have hl:c.toNat<256:=c.toNat_lt
  generalize digR c b=R at hd ⊢
  generalize valOf c=V at hw hd
  generalize c.toNat=x at hl hw ⊢
  have hc1:=hid (within_fn x 48 57 w)
  have hsm:=hid (small_fn x hl w)
  have hc2:=hid (within_fn (smallN x) 97 122 w)
  have hsl:smallN x=if 65≤x∧x≤90 then x+32 else x:=rfl
  generalize smallN x=y at hsm hc2 hsl
  have hy:y<256:=by rw [hsl];split<;>omega
  by_cases h1:48≤x∧x≤57
  · have hb1 : (decide ((48 : Int) ≤ (x : Int)) && decide ((x : Int) ≤ 57)) = true := by
      rw [decide_eq_true (by omega),decide_eq_true (by omega)];rfl
    rw [hb1] at hc1
    have hc1:=hid hc1.out
    rw [if_pos h1] at hw
    obtain ⟨g1,g2⟩:=h1
    clear hc2 hsm hsl hy
    by_cases hlt:V<b
    · have HE:=hid (show R=(x:Int)-48 by rw [hd,if_pos hlt];omega)
      have hlt':(x:Int)-48<(b:Int):=by omega
      clear hd hw
      go_enter Tryz.func58,Tryz.ntmps58
      go_wp2_with fail
      (with_reducible refine hc1.out.mono ?_);rintro e w' ⟨rfl,rfl⟩
      go_wp2
      go_ret
      exact ⟨by rw [HE.out];rfl,rfl⟩
    · have HE:=hid (show R = -1 by rw [hd,if_neg hlt])
      have hlt':¬ (x:Int)-48<(b:Int):=by omega
      clear hd hw
      go_enter Tryz.func58,Tryz.ntmps58
      go_wp2_with fail
      (with_reducible refine hc1.out.mono ?_);rintro e w' ⟨rfl,rfl⟩
      go_wp2
      go_ret
      exact ⟨by rw [HE.out];rfl,rfl⟩
  · have hb1 : (decide ((48 : Int) ≤ (x : Int)) && decide ((x : Int) ≤ 57)) = false := by
      by_cases h2:48≤x
      · rw [decide_eq_false (show ¬ (x:Int)≤57 by omega),Bool.and_false]
      · rw [decide_eq_false (show ¬ (48:Int)≤(x:Int) by omega),Bool.false_and]
    rw [hb1] at hc1
    have hc1:=hid hc1.out
    rw [if_neg h1] at hw
    by_cases h2:97≤y∧y≤122
    · have hb2 : (decide ((97 : Int) ≤ (y : Int)) && decide ((y : Int) ≤ 122)) = true := by
        rw [decide_eq_true (by omega),decide_eq_true (by omega)];rfl
      rw [hb2] at hc2
      have hc2:=hid hc2.out
      have hV:V=y-97+10:=by
        rw [hw]
        by_cases h3:65≤x∧x≤90
        · rw [if_pos h3] at hsl;rw [if_neg (by omega),if_pos h3];omega
        · rw [if_neg h3] at hsl;rw [hsl] at h2;rw [if_pos h2];omega
      obtain ⟨g1,g2⟩:=h2
      clear h1 hsl hw
      by_cases hlt:V<b
      · have HE:=hid (show R=(y:Int)-97+10 by rw [hd,if_pos hlt];omega)
        have hlt':(y:Int)-97+10<(b:Int):=by omega
        clear hd hV
        go_enter Tryz.func58,Tryz.ntmps58
        go_wp2_with fail
        (with_reducible refine hc1.out.mono ?_);rintro e w' ⟨rfl,rfl⟩
        go_wp2_with fail
        (with_reducible refine hsm.out.mono ?_);rintro e w' ⟨rfl,rfl⟩
        go_wp2_with fail
        (with_reducible refine hc2.out.mono ?_);rintro e w' ⟨rfl,rfl⟩
        go_wp2_with fail
        (with_reducible refine hsm.out.mono ?_);rintro e w' ⟨rfl,rfl⟩
        go_wp2
        go_ret
        exact ⟨by rw [HE.out];rfl,rfl⟩
      · have HE:=hid (show R = -1 by rw [hd,if_neg hlt])
        have hlt':¬ (y:Int)-97+10<(b:Int):=by omega
        clear hd hV
        go_enter Tryz.func58,Tryz.ntmps58
        go_wp2_with fail
        (with_reducible refine hc1.out.mono ?_);rintro e w' ⟨rfl,rfl⟩
        go_wp2_with fail
        (with_reducible refine hsm.out.mono ?_);rintro e w' ⟨rfl,rfl⟩
        go_wp2_with fail
        (with_reducible refine hc2.out.mono ?_);rintro e w' ⟨rfl,rfl⟩
        go_wp2_with fail
        (with_reducible refine hsm.out.mono ?_);rintro e w' ⟨rfl,rfl⟩
        go_wp2
        go_ret
        exact ⟨by rw [HE.out];rfl,rfl⟩
    · have hb2 : (decide ((97 : Int) ≤ (y : Int)) && decide ((y : Int) ≤ 122)) = false := by
        by_cases h3:97≤y
        · rw [decide_eq_false (show ¬ (y:Int)≤122 by omega),Bool.and_false]
        · rw [decide_eq_false (show ¬ (97:Int)≤(y:Int) by omega),Bool.false_and]
      rw [hb2] at hc2
      have hc2:=hid hc2.out
      have hV:V=36:=by
        rw [hw]
        by_cases h3:65≤x∧x≤90
        · rw [if_pos h3] at hsl;omega
        · rw [if_neg h3] at hsl;rw [hsl] at h2;rw [if_neg h2,if_neg h3]
      have HE:=hid (show R = -1 by rw [hd,if_neg (by omega)])
      clear h1 hsl hw h2 hd hV
      go_enter Tryz.func58,Tryz.ntmps58
      go_wp2_with fail
      (with_reducible refine hc1.out.mono ?_);rintro e w' ⟨rfl,rfl⟩
      go_wp2_with fail
      (with_reducible refine hsm.out.mono ?_);rintro e w' ⟨rfl,rfl⟩
      go_wp2_with fail
      (with_reducible refine hc2.out.mono ?_);rintro e w' ⟨rfl,rfl⟩
      go_wp2
      go_ret
      exact ⟨by rw [HE.out];rfl,rfl⟩
theorem digitR_fn (c:UInt8) (b:Nat) (hb:b≤36) (hb2:2≤b) (w:World):Calls Tryz.prog 12 #[.int .u8 c.toNat,.int .i64 b] w fun e w'=>e=.returned (.int .i64 (digR c b))∧w'=w:=by
 have hc:=hid (digit_fn c b hb hb2 w)
 go_enter Tryz.func12,Tryz.ntmps12
 go_wp2_with fail
 (with_reducible refine hc.out.mono ?_);rintro e w' ⟨rfl,rfl⟩
 go_wp2
 go_ret
 exact ⟨rfl,rfl⟩
theorem has_fn (l:List UInt8) (hl:l.length≤1000000000) (c:UInt8) (w:World):Calls Tryz.prog 117 #[.string ⟨l.toArray⟩,.int .u8 c.toNat] w fun e w'=>e=.returned (.bool (l.contains c))∧w'=w:=by
  have hsz:(⟨l.toArray⟩:ByteArray).size=l.length:=Lib.size_mk _
  generalize hR:l.contains c=R
  have HR:=hid hR
  clear hR
  go_enter Tryz.func117,Tryz.ntmps117
  go_wp2
  go_loop [8] (fun iv=>∃ i:Nat,iv=.int .i64 i∧i≤l.length∧(l.take i).contains c=false) (fun iv=>l.length-(intOf iv).toNat)
  case atStart=>exact ⟨0,rfl,Nat.zero_le _,rfl⟩
  case round=>
    obtain ⟨i,rfl,hi,hn⟩:=hrel
    have HN:=hid hn
    clear hn
    by_cases hlt:i<l.length
    · have hx:∀ h,(⟨l.toArray⟩:ByteArray)[i]'h=l[i]'hlt:=fun h=>rfl
      by_cases hc:l[i]'hlt=c
      · have hE:(((l[i]'hlt).toNat:Nat):Int)=((c.toNat:Nat):Int):=by rw [hc]
        have HC:=hid (show R=true by rw [← HR.out,List.contains_iff_mem];rw [← hc];exact List.getElem_mem hlt)
        go_wp2
        go_ret
        exact ⟨by rw [HC.out];rfl,rfl⟩
      · have hne : ((((l[i]'hlt).toNat : Nat) : Int) == ((c.toNat : Nat) : Int)) = false := by
          have:(l[i]'hlt).toNat≠c.toNat:=fun e=>hc (UInt8.toNat_inj.1 e)
          rw [beq_eq_false_iff_ne];omega
        go_wp2
        refine ⟨⟨i+1,by go_num,by omega,?_⟩,?_⟩
        · rw [List.take_add_one,List.getElem?_eq_getElem hlt]
          have h1:=HN.out
          rw [List.contains_eq_mem,decide_eq_false_iff_not] at h1 ⊢
          intro hm
          rcases List.mem_append.1 hm with h | h
          · exact h1 h
          · exact hc (List.mem_singleton.1 h).symm
        · simp [intOf]<;>omega
    · obtain rfl:i=l.length:=by omega
      have HC:=hid (show R=false by have:=HN.out;rw [List.take_length] at this;rw [← HR.out];exact this)
      go_wp2
      go_ret
      exact ⟨by rw [HC.out];rfl,rfl⟩
theorem white_has (c:UInt8):([9,10,11,12,13,32]:List UInt8).contains c=isWh c:=by
 have key:∀ k:UInt8,(c=k)↔c.toNat=k.toNat:=fun k=>⟨fun h=>by rw [h],fun h=>UInt8.toNat_inj.1 h⟩
 unfold isWh
 rw [List.contains_eq_mem,Bool.eq_iff_iff]
 simp only [decide_eq_true_eq,Bool.or_eq_true,Bool.and_eq_true,List.mem_cons,List.not_mem_nil,or_false,key]
 have e1:(9:UInt8).toNat=9:=rfl
 have e2:(10:UInt8).toNat=10:=rfl
 have e3:(11:UInt8).toNat=11:=rfl
 have e4:(12:UInt8).toNat=12:=rfl
 have e5:(13:UInt8).toNat=13:=rfl
 have e6:(32:UInt8).toNat=32:=rfl
 omega
theorem has_white (c:UInt8) (w:World):Calls Tryz.prog 117 #[.string ⟨#[9,10,11,12,13,32]⟩,.int .u8 c.toNat] w fun e w'=>e=.returned (.bool (isWh c))∧w'=w:=by
 have h:=has_fn [9,10,11,12,13,32] (by decide) c w
 rw [white_has] at h
 exact h
end Go.Proofs.YtihdndaibmgoiaaGreatDoor
namespace Go.Proofs.YtihdndaibmgoiaaGreatDoor
open Go.RowKit
set_option maxRecDepth 100000 in
set_option maxHeartbeats 4000000 in
theorem trim_fn (l:List UInt8) (hl:l.length≤1000000000) (w:World) :
  Calls Tryz.prog 70 #[.string ⟨l.toArray⟩,.string ⟨#[9,10,11,12,13,32]⟩,.bool true,.bool true] w fun e w'=>e=.returned (.string ⟨(strip l).toArray⟩)∧w'=w:=by
 go_enter Tryz.func70,Tryz.ntmps70
 go_upto_block 0 with fail
 go_cut [0] from 9 to 21 (fun v wx=>v=.string ⟨(l.dropWhile isWh).toArray⟩∧w=wx)
 case first=>
  go_wp2_with fail
  go_loop [0] (fun v=>∃ t:List UInt8,t.length≤1000000000∧v=.string ⟨t.toArray⟩∧t.dropWhile isWh=l.dropWhile isWh) (fun v=>Lib.strSize v)
  case atStart=>exact ⟨l,hl,rfl,rfl⟩
  case round=>
   obtain ⟨t,ht,rfl,he⟩:=hrel
   have hE:=hid he
   clear he
   cases t with
   | cons x t=>
    have h1:(⟨(x::t).toArray⟩:ByteArray).size=t.length+1:=by rw [Lib.size_mk];simp
    have h2:(⟨(x::t).toArray⟩:ByteArray).extract 1 (t.length+1)=⟨t.toArray⟩:=by
     rw [Lib.extract_mk];simp
    have hx:∀ h,(⟨(x::t).toArray⟩:ByteArray)[0]'h=x:=fun h=>rfl
    have hne:(x::t == ([]:List UInt8))=false:=rfl
    have hl':t.length≤999999999:=by simpa using ht
    have hc:=hid (has_white x w)
    clear ht
    go_wp2_with fail
    (with_reducible refine hc.out.mono ?_);rintro e w' ⟨rfl,rfl⟩
    cases hw:isWh x
    ·have hd:(x::t).dropWhile isWh=x::t:=by rw [List.dropWhile_cons,hw];rfl
     go_wp2
     go_meet
     case rel=>exact ⟨by rw [← hE.out,hd],rfl⟩
    ·have hd:(x::t).dropWhile isWh=t.dropWhile isWh:=by rw [List.dropWhile_cons,hw];rfl
     go_wp2
     refine ⟨⟨t,by omega,rfl,by rw [← hE.out,hd]⟩,?_⟩
     rw [Lib.strSize_string,Lib.strSize_string,h1,Lib.size_mk]
     omega
   | nil=>
    have h1:(⟨([]:List UInt8).toArray⟩:ByteArray).size=0:=rfl
    go_wp2
    go_meet
    case rel=>exact ⟨by rw [← hE.out];rfl,rfl⟩
 case rest=>
  obtain ⟨rfl,rfl⟩:=hcut
  have hL:(l.dropWhile isWh).length≤1000000000:=Nat.le_trans (List.dropWhile_sublist _).length_le hl
  go_upto_block 2 with fail
  go_cut [0] from 22 to 40 (fun v wx=>v=.string ⟨(strip l).toArray⟩∧w=wx)
  case first=>
   go_wp2_with fail
   go_loop [0] (fun v=>∃ t:List UInt8,t.length≤1000000000∧v=.string ⟨t.toArray⟩∧(t.reverse.dropWhile isWh).reverse=strip l) (fun v=>Lib.strSize v)
   case atStart=>exact ⟨_,hL,rfl,rfl⟩
   case round=>
    obtain ⟨t,ht,rfl,he⟩:=hrel
    have hE:=hid he
    clear he
    rcases nil_or_snoc t with rfl | ⟨t,x,rfl⟩
    ·have h1:(⟨([]:List UInt8).toArray⟩:ByteArray).size=0:=rfl
     go_wp2
     go_meet
     case rel=>exact ⟨by rw [← hE.out];rfl,rfl⟩
    ·have hre:(t++[x]).reverse=x::t.reverse:=by simp
     rw [hre] at hE
     have hE:=hid hE.out
     clear hre
     have h1:(⟨(t++[x]).toArray⟩:ByteArray).size=t.length+1:=by rw [Lib.size_mk];simp
     have h2:(⟨(t++[x]).toArray⟩:ByteArray).extract 0 t.length=⟨t.toArray⟩:=by
      rw [Lib.extract_mk];simp
     have hx:∀ h,(⟨(t++[x]).toArray⟩:ByteArray)[t.length]'h=x:=by
      intro h
      show (t++[x])[t.length]=x
      simp
     have hne:((t++[x]) == ([]:List UInt8))=false:=by cases t<;>rfl
     have hl':t.length≤999999999:=by simpa using ht
     have hc:=hid (has_white x w)
     clear ht
     generalize hT:t++[x]=T at *
     have HT:=hid hT
     clear hT
     go_wp2_with fail
     (with_reducible refine hc.out.mono ?_);rintro e w' ⟨rfl,rfl⟩
     cases hw:isWh x
     ·have hd:(x::t.reverse).dropWhile isWh=x::t.reverse:=by rw [List.dropWhile_cons,hw];rfl
      go_wp2
      go_meet
      case rel=>exact ⟨by rw [← hE.out,hd];simp [HT.out],rfl⟩
     ·have hd:(x::t.reverse).dropWhile isWh=t.reverse.dropWhile isWh:=by rw [List.dropWhile_cons,hw];rfl
      go_wp2
      refine ⟨⟨t,by omega,rfl,by rw [← hE.out,hd]⟩,?_⟩
      rw [Lib.strSize_string,Lib.strSize_string,h1,Lib.size_mk]
      omega
  case rest=>
   obtain ⟨rfl,rfl⟩:=hcut
   go_wp2
   go_ret
   exact ⟨rfl,rfl⟩
theorem strip_fn (l:List UInt8) (hl:l.length≤1000000000) (w:World) :
  Calls Tryz.prog 19 #[.string ⟨l.toArray⟩] w fun e w'=>e=.returned (.string ⟨(strip l).toArray⟩)∧w'=w:=by
 have hc:=hid (trim_fn l hl w)
 go_enter Tryz.func19,Tryz.ntmps19
 go_wp2_with fail
 (with_reducible refine hc.out.mono ?_);rintro e w' ⟨rfl,rfl⟩
 go_wp2
 go_ret
 exact ⟨rfl,rfl⟩
end Go.Proofs.YtihdndaibmgoiaaGreatDoor
namespace Go.Proofs.YtihdndaibmgoiaaGreatDoor
open Go.RowKit
theorem Tryz.infoInt:(Tryz.prog.info? 3).map (fun i=>(i.zero,i.size,i.bytes))=some (some (.int .i64 0),1,8):=by kernel_rfl
def DecRep (w:World) (v:Value) (n:Nat):Prop:=Row .i64 w v (dlen 10 n) (dgt 10 n)
def OwnDec (w:World) (base:Nat) (v:Value) (n:Nat):Prop:=Own .i64 3 w base v (dlen 10 n) (dgt 10 n)
theorem DecRep.below {w w':World} {v:Value} {n:Nat} (h:DecRep w v n) (hb:Below w.heap.size w w'):DecRep w' v n:=Row.below h hb
theorem OwnDec.dec {w:World} {base:Nat} {v:Value} {n:Nat} (h:OwnDec w base v n):DecRep w v n:=Own.row h
theorem DecRep.shape {w:World} {v:Value} {n:Nat} (h:DecRep w v n):∃ a cap,v=.slice a (dlen 10 n) cap:=by
 obtain ⟨a,cap,rfl,_⟩:=h
 exact ⟨a,cap,rfl⟩
section
variable {w:World} {ops:Array Oper} {rest:List Oper} {o:Oper} {a:Act} {Q:Exit→Act→World→Prop}
theorem app_i64 (hgd:o.guard=none) (s x:Operand)
  (ho:o.op=.call { callee:=.builtin .append,args:=#[s,x],argTypes:=#[57,57] })
  (base:Nat) (v:Value) (n:Nat) (f:Nat→Nat) (hs:a.eval s=v) (hown:Own .i64 3 w base v n f)
  (X:Int) (hx:a.eval x=.slice (some ⟨w.heap.size,0,none⟩) 1 1) (hX:X=((f n:Nat):Int)) (hn:n≤1000000000000) (hbase:base≤w.heap.size)
  (h:∀ v' w',Own .i64 3 w' base v' (n+1) f→Below base w w'→wpList Tryz.prog ops Q rest (a.put o.dst v') w') :
  wpList Tryz.prog ops Q (o::rest) a (w.alloc (.cells #[.int .i64 X] 3)):=by
 subst hX
 obtain ⟨i0,hi,hz0,hz1,hz2⟩:=info_parts Tryz.infoInt
 refine wpList_append_own _ hgd s x 57 ho base 3 i0 (.int .i64 0) 1 8 Tryz.underlying57 hi hz0 hz1 hz2 rfl (by decide) v n _ hs (World.ownsRow.alloc hown _)
  ⟨w.heap.size,0,none⟩ 1 1 [.int .i64 ((f n:Nat):Int)] hx rfl (cell_one_new _ _ _) (by intro u hu;simp at hu;subst hu;rfl) (by unfold maxLen;omega) (by omega) (by simp;omega) ?_
 intro v' w' hown' hgrow _
 refine h v' w' (by unfold Own;rw [cellsK_succ];exact hown') ?_
 refine (((Below.refl base w).alloc hbase _).grown hgrow (by simp;omega) ?_)
 intro k hk
 obtain ⟨hl,⟨hv,h0⟩ | ⟨g,cap,cur,hv,hg,hr⟩⟩:=hown
 ·subst hv;cases hk
 ·subst hv
  simp [Value.ownBlock] at hk
  omega
end
theorem dgt_top (n j:Nat) (h:n<10 ^ (j+1)) (h0:dgt 10 n j=0):n<10 ^ j:=by
 unfold dgt at h0
 rw [Nat.pow_succ] at h
 have hp:0<10 ^ j:=Nat.pow_pos (by decide)
 generalize 10 ^ j=X at *
 have h1:n / X<10:=by rw [Nat.div_lt_iff_lt_mul hp];omega
 have h2:n / X=0:=by
  generalize n / X=e at *
  omega
 exact (Nat.div_eq_zero_iff_lt hp).1 h2
theorem dlen_of_top (n j:Nat) (h:n<10 ^ j) (h0:j=0∨dgt 10 n (j-1)≠0):dlen 10 n=j:=by
  have h1:=(dlen_le_iff 10 n j (by decide)).2 h
  rcases h0 with rfl | h0
  · omega
  · have h2 : ¬ dlen 10 n ≤ j - 1 := by
      intro h3
      have h4:=(dlen_le_iff 10 n (j-1) (by decide)).1 h3
      apply h0
      unfold dgt
      rw [Nat.div_eq_of_lt h4]
    omega
set_option maxHeartbeats 1000000 in
theorem trimmedD_row {a:Option Addr} {cap n k:Nat} {w:World} (h:Row .i64 w (.slice a k cap) k (dgt 10 n)) (hk:k≤1000000000) (hn:n<10 ^ k) :
  Calls Tryz.prog 145 #[.slice a k cap] w fun e w'=>e=.returned (.slice a (dlen 10 n) cap)∧w'=w:=by
 obtain ⟨a',cap',hv,hcap,hcell⟩:=h
 simp only [Value.slice.injEq,true_and] at hv
 obtain ⟨rfl,rfl⟩:=hv
 have hl:=(dlen_le_iff 10 n k (by decide)).2 hn
 clear hn
 go_enter Tryz.func145,Tryz.ntmps145
 go_wp2
 go_loop [0] (fun v=>∃ j:Nat,v=.slice a j cap∧dlen 10 n≤j∧j≤k) (fun v=>lenOf v)
 case atStart=>exact ⟨k,rfl,hl,Nat.le_refl _⟩
 case round=>
  obtain ⟨j,rfl,h1,h2⟩:=hrel
  by_cases hj:j=0
  ·subst hj
   go_wp2
   go_ret
   have hz:dlen 10 n=0:=by omega
   exact ⟨by rw [hz];rfl,rfl⟩
  ·obtain ⟨b,off,rfl,hlt,hc⟩:=hcell (by omega)
   have hcj:=hc (j-1) (by omega)
   have hj':((j:Int)-1)=((j-1:Nat):Int):=by omega
   by_cases hd:dgt 10 n (j-1)=0
   ·have hd':((dgt 10 n (j-1):Nat):Int)=0:=by omega
    go_wp2
    go_round
    case rel=>
     refine ⟨j-1,by go_num,?_,by omega⟩
     exact (dlen_le_iff 10 n _ (by decide)).2 (dgt_top n (j-1) (by rw [Nat.sub_add_cancel (by omega)];exact (dlen_le_iff 10 n _ (by decide)).1 h1) hd)
    case measure=>simp [lenOf]<;>omega
   ·have hd':(((dgt 10 n (j-1):Nat):Int) == 0)=false:=by rw [beq_eq_false_iff_ne];omega
    have hz:dlen 10 n=j:=dlen_of_top n j ((dlen_le_iff 10 n _ (by decide)).1 h1) (.inr hd)
    have HZ:=hid hz
    clear hz
    go_wp2
    go_ret
    exact ⟨by rw [HZ.out];rfl,rfl⟩
end Go.Proofs.YtihdndaibmgoiaaGreatDoor
namespace Go.Proofs.YtihdndaibmgoiaaGreatDoor
open Go.RowKit
def DNum (w:World) (v:Value) (z:Int):Prop:=∃ s,v=.agg #[.bool (decide (z<0)),s]∧DecRep w s z.natAbs
def OwnDNum (w:World) (base:Nat) (v:Value) (z:Int):Prop:=∃ s,v=.agg #[.bool (decide (z<0)),s]∧OwnDec w base s z.natAbs
theorem OwnDNum.num {w:World} {base:Nat} {v:Value} {z:Int} (h:OwnDNum w base v z):DNum w v z:=by
 obtain ⟨s,rfl,h⟩:=h
 exact ⟨s,rfl,h.dec⟩
theorem DNum.below {w w':World} {v:Value} {z:Int} (h:DNum w v z) (hb:Below w.heap.size w w'):DNum w' v z:=by
 obtain ⟨s,rfl,h⟩:=h
 exact ⟨s,rfl,h.below hb⟩
theorem dlen_pos_iff (n:Nat):0<dlen 10 n↔0<n:=by
 have:=dlen_zero_iff 10 n (by decide)
 omega
theorem num_fn {s:Value} {n:Nat} {w:World} (h:DecRep w s n) (hl:dlen 10 n≤1000000000) (b:Bool) :
  Calls Tryz.prog 107 #[.bool b,s] w fun e w'=>e=.returned (.agg #[.bool (b && decide (0<n)),s])∧Below w.heap.size w w':=by
 obtain ⟨a,cap,rfl⟩:=h.shape
 have hn:decide (0<n)=decide ((0:Int)<(dlen 10 n:Nat)):=by
  have:=dlen_pos_iff n
  by_cases h0:0<n
  ·rw [decide_eq_true h0,decide_eq_true (by omega)]
  ·rw [decide_eq_false h0,decide_eq_false (by omega)]
 rw [hn]
 clear hn
 cases b
 ·go_enter Tryz.func107,Tryz.ntmps107
  go_wp2
  exact bodyPost_ret (v:=.agg #[.bool false,.slice a (dlen 10 n) cap]) (by simp [results,Tryz.results107,go_sem]) rfl ⟨rfl,(Below.refl _ _).alloc (Nat.le_refl _) _⟩
 ·go_enter Tryz.func107,Tryz.ntmps107
  go_wp2
  exact bodyPost_ret (v:=.agg #[.bool (decide ((0:Int)<(dlen 10 n:Nat))),.slice a (dlen 10 n) cap]) (by simp [results,Tryz.results107,go_sem]) rfl ⟨by simp,(Below.refl _ _).alloc (Nat.le_refl _) _⟩
theorem big_dlen (n:Nat):decide ((600:Int)<(dlen 10 n:Nat))=decide (big600≤n):=by
 have h1:=digits_600 n
 by_cases h2:n<big600
 ·have h3:=h1.2 h2
  rw [decide_eq_false (by omega),decide_eq_false (by omega)]
 ·have h3:¬ dlen 10 n≤600:=fun h=>h2 (h1.1 h)
  rw [decide_eq_true (by omega),decide_eq_true (by omega)]
theorem long_fn {v:Value} {z:Int} {w:World} (h:DNum w v z) (_hl:dlen 10 z.natAbs≤1000000000) :
  Calls Tryz.prog 106 #[v] w fun e w'=>e=.returned (.bool (decide (big600≤z.natAbs)))∧Below w.heap.size w w':=by
 obtain ⟨s,rfl,h⟩:=h
 obtain ⟨a,cap,rfl⟩:=h.shape
 have HB:=hid (big_dlen z.natAbs)
 generalize decide (big600≤z.natAbs)=R at HB ⊢
 go_enter Tryz.func106,Tryz.ntmps106
 go_wp2
 go_ret
 exact ⟨by rw [← HB.out];rfl,(Below.refl _ _).alloc (Nat.le_refl _) _⟩
theorem snocRec {p:List UInt8→Prop} (h0:p []) (h1:∀ l c,p l→p (l++[c])) (l:List UInt8):p l:=by
 have key:∀ r:List UInt8,p r.reverse:=by
  intro r
  induction r with
  | nil=>exact h0
  | cons c r ih=>rw [List.reverse_cons];exact h1 _ _ ih
 have:=key l.reverse
 rwa [List.reverse_reverse] at this
def fdig (l:List UInt8) (j:Nat):Nat:=valOf (l.getD (l.length-1-j) 0)
theorem numOf_snoc (b:Nat) (l:List UInt8) (c:UInt8):numOf b (l++[c])=numOf b l*b+valOf c:=by
 unfold numOf numFrom
 rw [List.foldl_append]
 rfl
theorem numOf_lt (b:Nat) (_hb:2≤b) (l:List UInt8) (h:∀ c∈l,valOf c<b):numOf b l<b ^ l.length:=by
 revert h
 refine snocRec (p:=fun l=>(∀ c∈l,valOf c<b)→numOf b l<b ^ l.length) ?_ ?_ l
 ·exact fun _=>Nat.one_pos
 ·intro l c ih h
  rw [numOf_snoc,List.length_append,List.length_singleton,Nat.pow_succ]
  have h1:=ih (fun c hc=>h c (List.mem_append_left _ hc))
  have h2:=h c (List.mem_append_right _ (List.mem_singleton.2 rfl))
  generalize b ^ l.length=X at *
  have h3:=Nat.mul_le_mul_right b (show numOf b l+1≤X from h1)
  rw [Nat.add_mul] at h3
  omega
theorem dgt_numOf (b:Nat) (hb:2≤b) (l:List UInt8) (h:∀ c∈l,valOf c<b) (j:Nat) (hj:j<l.length):dgt b (numOf b l) j=fdig l j:=by
 revert h j
 refine snocRec (p:=fun l=>(∀ c∈l,valOf c<b)→∀ j,j<l.length→dgt b (numOf b l) j=fdig l j) ?_ ?_ l
 ·exact fun h j hj=>absurd hj (Nat.not_lt_zero _)
 ·intro l c ih h j hj
  have h2:=h c (List.mem_append_right _ (List.mem_singleton.2 rfl))
  rw [numOf_snoc]
  cases j with
  | zero=>
   have e:fdig (l++[c]) 0=valOf c:=by
    unfold fdig
    simp
   rw [e]
   unfold dgt
   rw [Nat.pow_zero,Nat.div_one,Nat.mul_comm,Nat.mul_add_mod,Nat.mod_eq_of_lt h2]
  | succ j=>
   have hj':j<l.length:=by simp at hj;omega
   have e:fdig (l++[c]) (j+1)=fdig l j:=by
    unfold fdig
    have e1:(l++[c]).length-1-(j+1)=l.length-1-j:=by simp;omega
    rw [e1]
    simp only [List.getD_eq_getElem?_getD]
    rw [List.getElem?_append_left (by omega)]
   rw [e,← ih (fun c hc=>h c (List.mem_append_left _ hc)) j hj']
   unfold dgt
   rw [Nat.pow_succ,Nat.mul_comm (b ^ j) b,← Nat.div_div_eq_div_mul,Nat.mul_comm (numOf b l) b,Nat.mul_add_div (by omega),Nat.div_eq_of_lt h2,Nat.add_zero]
end Go.Proofs.YtihdndaibmgoiaaGreatDoor
namespace Go.Proofs.YtihdndaibmgoiaaGreatDoor
open Go.RowKit
theorem valOf_ch (d:Nat) (h:d<36):valOf (UInt8.ofNat (chN d))=d:=by
 have:∀ d,d<36→valOf (UInt8.ofNat (chN d))=d:=by decide +kernel
 exact this d h
theorem numOf_strOf (b n:Nat) (hb2:2≤b) (hb:b≤36):numOf b (strOf b n)=n:=by
 have key:∀ L,n<b ^ L→∀ k,k≤L→numOf b ((List.range k).map fun t=>UInt8.ofNat (chN (dgt b n (L-1-t))))=n / b ^ (L-k):=by
  intro L hL k
  induction k with
  | zero=>intro _;rw [Nat.sub_zero,Nat.div_eq_of_lt hL];rfl
  | succ k ih=>
   intro hk
   rw [List.range_succ,List.map_append,List.map_singleton,numOf_snoc,ih (by omega),valOf_ch _ (Nat.lt_of_lt_of_le (dgt_lt b n _ hb2) hb)]
   have e1:L-1-k=L-(k+1):=by omega
   have e2:L-k=L-(k+1)+1:=by omega
   unfold dgt
   rw [e1,e2,Nat.pow_succ,← Nat.div_div_eq_div_mul]
   generalize n / b ^ (L-(k+1))=x
   have:=Nat.div_add_mod x b
   rw [Nat.mul_comm] at this
   exact this
 have h:=key (dlen b n) (dlen_lt b n hb2) (dlen b n) (Nat.le_refl _)
 rw [Nat.sub_self,Nat.pow_zero,Nat.div_one] at h
 exact h
theorem strOf_digits (b n:Nat) (hb2:2≤b) (hb:b≤36):∀ c∈strOf b n,valOf c<b:=by
 intro c hc
 unfold strOf at hc
 obtain ⟨t,_,rfl⟩:=List.mem_map.1 hc
 rw [valOf_ch _ (Nat.lt_of_lt_of_le (dgt_lt b n _ hb2) hb)]
 exact dgt_lt b n _ hb2
theorem rOK_of (b:Nat) (l:List UInt8) (h:∀ c∈l,valOf c<b) (h0:l≠[]):rOK b l=true:=by
 unfold rOK
 rw [List.all_eq_true.2 (fun c hc=>decide_eq_true (h c hc)),Bool.and_true]
 cases l with
 | nil=>exact absurd rfl h0
 | cons _ _=>rfl
theorem wh_digit (c:UInt8) (h:valOf c<36):isWh c=false:=by
 have hv:valOf c=if 48≤c.toNat∧c.toNat≤57 then c.toNat-48
  else if 97≤c.toNat∧c.toNat≤122 then c.toNat-97+10
  else if 65≤c.toNat∧c.toNat≤90 then c.toNat-65+10
  else 36:=rfl
 have key:∀ k:UInt8,(c=k)↔c.toNat=k.toNat:=fun k=>⟨fun h=>by rw [h],fun h=>UInt8.toNat_inj.1 h⟩
 cases hw:isWh c with
 | false=>rfl
 | true=>
  exfalso
  unfold isWh at hw
  simp only [Bool.or_eq_true,Bool.and_eq_true,decide_eq_true_eq] at hw
  rw [hv] at h
  revert h
  have h9:(9:UInt8).toNat=9:=rfl
  have h13:(13:UInt8).toNat=13:=rfl
  have h32:(32:UInt8).toNat=32:=rfl
  split
  ·omega
  ·split
   ·omega
   ·split<;>omega
theorem dropWhile_none (l:List UInt8) (h:∀ c∈l,isWh c=false):l.dropWhile isWh=l:=by
 cases l with
 | nil=>rfl
 | cons c l=>rw [List.dropWhile_cons,h c (List.mem_cons_self ..)];rfl
theorem strip_none (l:List UInt8) (h:∀ c∈l,isWh c=false):strip l=l:=by
 unfold strip
 rw [dropWhile_none l h,dropWhile_none _ (fun c hc=>h c (List.mem_reverse.1 hc)),List.reverse_reverse]
theorem head_digit (b:Nat) (_hb:b≤36) (p:UInt8) (hp:b≤valOf p) (l:List UInt8) (h:∀ c∈l,valOf c<b):([p]:List UInt8).isPrefixOf l=false:=by
 cases l with
 | nil=>rfl
 | cons c l=>
  have h1:=h c (List.mem_cons_self ..)
  have:(p == c)=false:=by
   rw [beq_eq_false_iff_ne]
   rintro rfl
   omega
  simp [List.isPrefixOf,this]
theorem second_digit (p:UInt8) (hp:10≤valOf p) (l:List UInt8) (h:∀ c∈l,valOf c<10):([48,p]:List UInt8).isPrefixOf l=false:=by
 cases l with
 | nil=>rfl
 | cons c l=>
  cases l with
  | nil=>simp [List.isPrefixOf]
  | cons d l=>
   have h1:=h d (List.mem_cons_of_mem _ (List.mem_cons_self ..))
   have:(p == d)=false:=by
    rw [beq_eq_false_iff_ne]
    rintro rfl
    omega
   simp [List.isPrefixOf,this]
theorem pBase_dec (l:List UInt8) (h:∀ c∈l,valOf c<10):pBase l=10∧pBody l=l:=by
 have h1:=second_digit 120 (by decide) l h
 have h2:=second_digit 111 (by decide) l h
 have h3:=second_digit 98 (by decide) l h
 unfold pBase pBody
 rw [h1,h2,h3]
 exact ⟨rfl,rfl⟩
theorem dec_read (l:List UInt8) (h:∀ c∈l,valOf c<10) (h0:l≠[]):(pOK l=true∧pVal l=(numOf 10 l:Nat))∧(pOK (45::l)=true∧pVal (45::l) = -((numOf 10 l:Nat):Int)):=by
 have hw:∀ c∈l,isWh c=false:=fun c hc=>wh_digit c (by have:=h c hc;omega)
 have s1:=strip_none l hw
 have s2:=strip_none (45::l) (fun c hc=>by
  rcases List.mem_cons.1 hc with rfl | hc
  ·decide
  ·exact hw c hc)
 have p1:=head_digit 10 (by decide) 45 (by decide) l h
 have p2:=head_digit 10 (by decide) 43 (by decide) l h
 have r1:pRest l=l:=by unfold pRest;rw [p1,p2];rfl
 have r2:pRest (45::l)=l:=by simp [pRest,List.isPrefixOf]
 have n1:pNeg l=false:=p1
 have n2:pNeg (45::l)=true:=by simp [pNeg,List.isPrefixOf]
 obtain ⟨b1,b2⟩:=pBase_dec l h
 have ho:=rOK_of 10 l h h0
 unfold pOK pVal
 rw [s1,s2,r1,r2,b1,b2,n1,n2]
 exact ⟨⟨ho,rfl⟩,ho,rfl⟩
def txt (z:Int):List UInt8:=numText 10 z.natAbs (decide (z<0))
theorem txt_read (z:Int):pOK (txt z)=true∧pVal (txt z)=z:=by
 unfold txt numText
 by_cases h0:z.natAbs=0
 ·rw [if_pos h0]
  have hz:z=0:=by omega
  subst hz
  have:=(dec_read [48] (by decide) (by decide)).1
  exact ⟨this.1,this.2⟩
 ·rw [if_neg h0]
  have hd:=strOf_digits 10 z.natAbs (by decide) (by decide)
  have hne:strOf 10 z.natAbs≠[]:=by
   intro h
   have h1:=strOf_length 10 z.natAbs
   rw [h] at h1
   have h2:=dlen_zero_iff 10 z.natAbs (by decide)
   simp at h1
   omega
  have hr:=dec_read _ hd hne
  rw [numOf_strOf 10 _ (by decide) (by decide)] at hr
  by_cases hn:z<0
  ·rw [decide_eq_true hn,if_pos rfl]
   exact ⟨hr.2.1,by rw [hr.2.2];omega⟩
  ·rw [decide_eq_false hn,if_neg (by decide)]
   exact ⟨hr.1.1,by rw [hr.1.2];omega⟩
theorem txt_len (z:Int) (h:z.natAbs<big600):(txt z).length≤601:=by
 unfold txt numText
 have h1:=strOf_length 10 z.natAbs
 have h2:=(digits_600 z.natAbs).2 h
 split
 ·simp
 ·split
  ·simp;omega
  ·omega
theorem resOf_small (z:Int) (h:z.natAbs<big600):resOf z=(txt z,0):=by
 unfold resOf txt;rw [if_pos h]
theorem big600_ge:2 ^ 500≤big600:=by decide +kernel
end Go.Proofs.YtihdndaibmgoiaaGreatDoor
namespace Go.Proofs.YtihdndaibmgoiaaGreatDoor
open Go.RowKit
def RNum (w:World) (v:Value) (z:Int):Prop:=∃ n neg lg,NumV w v n neg lg∧(lg=false→n=z.natAbs∧neg=decide (z<0))∧(lg=true→big600≤z.natAbs)∧nlen n≤1000000
theorem RNum.of_int {w:World} {v:Value} {z:Int} (h:IntV w v z) (hl:nlen z.natAbs≤1000000):RNum w v z:=⟨_,_,_,h,fun _=>⟨rfl,rfl⟩,(fun h=>by cases h),hl⟩
theorem result_r {v:Value} {z:Int} {w:World} (h:RNum w v z) :
  Calls Tryz.prog 215 #[v] w fun e w'=>e=.returned (.tuple #[.string ⟨(resOf z).1.toArray⟩,.int .i64 (resOf z).2])∧Below w.heap.size w w':=by
 obtain ⟨n,neg,lg,h,h1,h2,h3⟩:=h
 cases lg with
 | false=>
  obtain ⟨rfl,rfl⟩:=h1 rfl
  exact result_int h h3
 | true=>
  have hr:resOf z=([],4):=by
   unfold resOf
   rw [if_neg (by have:=h2 rfl;omega)]
  rw [hr]
  exact result_long h
theorem neither_fn {v u:Value} {n m:Nat} {neg lg neg' lg':Bool} {w:World} (hv:NumV w v n neg lg) (hu:NumV w u m neg' lg'):Calls Tryz.prog 197 #[v,u] w fun e w'=>e=.returned (.int .i64 0)∧Below w.heap.size w w':=by
 obtain ⟨s,rfl,h⟩:=hv
 obtain ⟨a,cap,rfl⟩:=h.shape
 obtain ⟨s',rfl,h'⟩:=hu
 obtain ⟨a',cap',rfl⟩:=h'.shape
 go_enter Tryz.func197,Tryz.ntmps197
 go_wp2
 go_ret
 exact ⟨rfl,((Below.refl _ _).alloc (Nat.le_refl _) _).alloc (by simp) _⟩
theorem PNumO.shape {w:World} {base:Nat} {v:Value} {z:Int} (h:PNumO w base v z):∃ a n c,v=.agg #[.slice a n c,.bool (decide (z<0)),.bool (decide (big600≤z.natAbs))]:=by
 obtain ⟨s,n,lg,rfl,h1,h2,rfl,h4⟩:=h
 obtain ⟨a,c,rfl⟩:=h1.shape
 exact ⟨a,_,c,rfl⟩
def oneRes (a:List UInt8) (pe:Int) (z:Int):List UInt8×Int:=
 if pOK a=true then if pe≠0 then ([],pe) else if big600≤(pVal a).natAbs then ([],4) else resOf z else ([],2)
def twoRes (a b:List UInt8) (pe:Int) (z:Int):List UInt8×Int:=
 if pOK a=true∧pOK b=true then if pe≠0 then ([],pe) else if big600≤(pVal a).natAbs∨big600≤(pVal b).natAbs then ([],4) else resOf z else ([],2)
def JIf (c:Bool) (p q:Prop):Prop:=(c=true→p)∧(c=false→q)
theorem JIf.yes {c:Bool} {p q:Prop} (hc:c=true) (h:p):JIf c p q:=⟨fun _=>h,fun h'=>by rw [hc] at h';cases h'⟩
theorem JIf.no {c:Bool} {p q:Prop} (hc:c=false) (h:q):JIf c p q:=⟨(fun h'=>by rw [hc] at h';cases h'),fun _=>h⟩
def twoDone (a b:List UInt8) (pe:Int):Bool:=pOK a && pOK b && decide (pe=0) && !decide (big600≤(pVal a).natAbs) && !decide (big600≤(pVal b).natAbs)
set_option maxRecDepth 100000 in
set_option maxHeartbeats 4000000 in
theorem two_fnJ (a b:List UInt8) (ha:a.length≤1000000000) (hb:b.length≤1000000000) (k1 k2:Nat) (c1 c2:Array Value) (pe z:Int) (w:World) (B:Nat) (hB:B≤w.heap.size)
  (J0 J1:World→Prop) (hJ0:∀ w',Below w.heap.size w w'→J0 w') (hJ1:∀ w1 w2,J1 w1→Below w1.heap.size w1 w2→J1 w2)
  (eg1:∀ args w,(callFunc k1 args).run Tryz.prog w=.ok (.enter k1 args) w) (eg2:∀ args w,(callFunc k2 args).run Tryz.prog w=.ok (.enter k2 args) w)
  (hp:pOK a=true→pOK b=true→∀ w1 v u,Below w.heap.size w w1→PNum w1 v (pVal a)→PNum w1 u (pVal b)→Calls Tryz.prog k1 (#[v,u]++c1) w1 fun e w'=>e=.returned (.int .i64 pe)∧Below w1.heap.size w1 w')
  (hd:pOK a=true→pOK b=true→pe=0→(pVal a).natAbs<big600→(pVal b).natAbs<big600→∀ w1 v u,Below w.heap.size w w1→IntV w1 v (pVal a)→nlen (pVal a).natAbs≤1000→IntV w1 u (pVal b)→nlen (pVal b).natAbs≤1000→Calls Tryz.prog k2 (#[v,u]++c2) w1 fun e w'=>∃ u,e=.returned u∧RNum w' u z∧Below B w1 w'∧J1 w') :
  Calls Tryz.prog 196 #[.string ⟨a.toArray⟩,.string ⟨b.toArray⟩,.func (.func k1) #[] c1,.func (.func k2) #[] c2] w fun e w'=>e=.returned (.tuple #[.string ⟨(twoRes a b pe z).1.toArray⟩,.int .i64 (twoRes a b pe z).2])∧Below B w w'∧JIf (twoDone a b pe) (J1 w') (J0 w'):=by
 have hc:=hid (parse_fn a ha w)
 by_cases hok:pOK a=true∧pOK b=true
 ·have hP:=hid (hp hok.1 hok.2)
  have hD:=hid (hd hok.1 hok.2)
  have HR:=hid (show twoRes a b pe z=if pe≠0 then ([],pe) else if big600≤(pVal a).natAbs∨big600≤(pVal b).natAbs then ([],4) else resOf z by unfold twoRes;rw [if_pos hok])
  have HT:=hid (show twoDone a b pe=(decide (pe=0) && !decide (big600≤(pVal a).natAbs) && !decide (big600≤(pVal b).natAbs)) by unfold twoDone;rw [hok.1,hok.2];rfl)
  have HK:=hid hok
  unfold ParseP at hc
  rw [hok.1] at hc
  clear hp hd hok
  go_enter Tryz.func196,Tryz.ntmps196
  go_wp2_with fail
  (with_reducible refine hc.out.mono ?_);rintro e w1 ⟨v,rfl,hb1,hv,x1,x2,x3,g,h,rfl⟩
  have hv':=(hv (by first | rfl | trivial)).num
  obtain ⟨a0,n0,c0,he⟩:=(hv (by first | rfl | trivial)).shape
  simp only [Value.agg.injEq,Array.mk.injEq,List.cons.injEq,Value.slice.injEq,Value.bool.injEq,and_true] at he
  obtain ⟨-,hg,hh⟩:=he
  have HH:=hid hh
  clear hv a0 n0 c0 hg hh
  have kA:=Blk.new w1 #[.slice x1 x2 x3,.bool g,.bool h] 203
  have hbA:Below w.heap.size w (w1.alloc (.cells #[.slice x1 x2 x3,.bool g,.bool h] 203)):=hb1.alloc hb1.size _
  have hvA:=hv'.below ((Below.refl _ w1).alloc (Nat.le_refl _) (.cells #[.slice x1 x2 x3,.bool g,.bool h] 203))
  have hcb:=hid (parse_fn b hb (w1.alloc (.cells #[.slice x1 x2 x3,.bool g,.bool h] 203)))
  unfold ParseP at hcb
  rw [HK.out.2] at hcb
  go_wp2_with fail
  (with_reducible refine hcb.out.mono ?_);rintro e w2 ⟨v2,rfl,hb2,hv2,y1,y2,y3,g2,h2,rfl⟩
  have hu':=(hv2 (by first | rfl | trivial)).num
  obtain ⟨a0,n0,c0,he⟩:=(hv2 (by first | rfl | trivial)).shape
  simp only [Value.agg.injEq,Array.mk.injEq,List.cons.injEq,Value.slice.injEq,Value.bool.injEq,and_true] at he
  obtain ⟨-,hg,hh⟩:=he
  have HH2:=hid hh
  clear hv2 a0 n0 c0 hg hh
  have kA2:=(kA.later hb2).alloc (.cells #[.slice y1 y2 y3,.bool g2,.bool h2] 203)
  have kB:=Blk.new w2 #[.slice y1 y2 y3,.bool g2,.bool h2] 203
  have hbC:Below w2.heap.size w2 (w2.alloc (.cells #[.slice y1 y2 y3,.bool g2,.bool h2] 203)):=(Below.refl _ w2).alloc (Nat.le_refl _) _
  have hvC:=(hvA.below hb2).below hbC
  have huC:=hu'.below hbC
  have hbD:=(hbA.trans (hb2.mono hbA.size)).trans (hbC.mono (Nat.le_trans hbA.size hb2.size))
  obtain ⟨⟨p1,p2,p3⟩,p4,p5,p6⟩:=kA2.three
  have hpc:=hid (hP.out _ _ _ hbD hvC huC)
  go_wp2_with fail
  (with_reducible refine hpc.out.mono ?_);rintro e w3 ⟨rfl,hb3⟩
  have hvE:=hvC.below hb3
  have huE:=huC.below hb3
  have hbE:=hbD.trans (hb3.mono hbD.size)
  clear p1 p2 p3 p4 p5 p6
  obtain ⟨⟨p1,p2,p3⟩,p4,p5,p6⟩:=(kA2.later hb3).three
  obtain ⟨⟨q1,q2,q3⟩,q4,q5,q6⟩:=(kB.later hb3).three
  by_cases hpe:pe=0
  ·subst hpe
   cases h with
   | true=>
    have hbig:big600≤(pVal a).natAbs:=of_decide_eq_true HH.out.symm
    go_wp2
    go_ret2
    refine ⟨?_,hbE.mono hB,?_⟩
    ·rw [HR.out,if_neg (by simp),if_pos (.inl hbig)]
     rfl
    ·exact JIf.no (by rw [HT.out,decide_eq_true hbig];simp) (hJ0 _ hbE)
   | false=>
    have hsm:¬ big600≤(pVal a).natAbs:=of_decide_eq_false HH.out.symm
    cases h2 with
    | true=>
     have hbig:big600≤(pVal b).natAbs:=of_decide_eq_true HH2.out.symm
     go_wp2
     go_ret2
     refine ⟨?_,hbE.mono hB,?_⟩
     ·rw [HR.out,if_neg (by simp),if_pos (.inr hbig)]
      rfl
     ·exact JIf.no (by rw [HT.out,decide_eq_true hbig];simp) (hJ0 _ hbE)
    | false=>
     have hsm2:¬ big600≤(pVal b).natAbs:=of_decide_eq_false HH2.out.symm
     obtain ⟨hI,hn⟩:=hvE.int (by omega)
     obtain ⟨hI2,hn2⟩:=huE.int (by omega)
     have hdc:=hid (hD.out rfl (by omega) (by omega) _ _ _ hbE hI hn hI2 hn2)
     have HR2:=hid (show twoRes a b 0 z=resOf z by rw [HR.out,if_neg (by simp),if_neg (by omega)])
     have HT2:=hid (show twoDone a b 0=true by rw [HT.out,decide_eq_false hsm,decide_eq_false hsm2];rfl)
     clear hsm hsm2
     go_wp2_with fail
     (with_reducible refine hdc.out.mono ?_);rintro e w4 ⟨u,rfl,hu,hb4,hj4⟩
     have hrc:=hid (result_r hu)
     go_wp2_with fail
     (with_reducible refine hrc.out.mono ?_);rintro e w5 ⟨rfl,hb5⟩
     go_wp2
     go_ret2
     have h2:=hbE.mono hB
     refine ⟨by rw [HR2.out];rfl,(h2.trans hb4).trans (hb5.mono (by have:=hb4.size;have:=h2.size;omega)),?_⟩
     exact JIf.yes HT2.out (hJ1 _ _ hj4 hb5)
  ·have hpn:(pe == 0)=false:=by simpa using hpe
   have HR2:=hid (show twoRes a b pe z=([],pe) by rw [HR.out,if_pos hpe])
   have HT2:=hid (show twoDone a b pe=false by rw [HT.out,decide_eq_false hpe];rfl)
   go_wp2
   go_ret2
   refine ⟨by rw [HR2.out];rfl,hbE.mono hB,?_⟩
   exact JIf.no HT2.out (hJ0 _ hbE)
 ·have HR:=hid (show twoRes a b pe z=([],2) by unfold twoRes;rw [if_neg hok])
  have HT:=hid (show twoDone a b pe=false by unfold twoDone;cases h1:pOK a<;>cases h2:pOK b<;>simp_all)
  clear hp hd
  unfold ParseP at hc
  cases hoa:pOK a with
  | false=>
   rw [hoa] at hc
   clear hoa hok
   go_enter Tryz.func196,Tryz.ntmps196
   go_wp2_with fail
   (with_reducible refine hc.out.mono ?_);rintro e w1 ⟨v,rfl,hb1,hv,x1,x2,x3,g,h,rfl⟩
   have hbA:Below w.heap.size w (w1.alloc (.cells #[.slice x1 x2 x3,.bool g,.bool h] 203)):=hb1.alloc hb1.size _
   have hcb:=hid (parse_fn b hb (w1.alloc (.cells #[.slice x1 x2 x3,.bool g,.bool h] 203)))
   unfold ParseP at hcb
   generalize pOK b=ob at hcb
   go_wp2_with fail
   (with_reducible refine hcb.out.mono ?_);rintro e w2 ⟨v2,rfl,hb2,hv2,y1,y2,y3,g2,h2,rfl⟩
   have hbC:Below w2.heap.size w2 (w2.alloc (.cells #[.slice y1 y2 y3,.bool g2,.bool h2] 203)):=(Below.refl _ w2).alloc (Nat.le_refl _) _
   have hbD:=(hbA.trans (hb2.mono hbA.size)).trans (hbC.mono (Nat.le_trans hbA.size hb2.size))
   go_wp2
   go_ret2
   exact ⟨by rw [HR.out];rfl,hbD.mono hB,JIf.no HT.out (hJ0 _ hbD)⟩
  | true=>
   have hob:pOK b=false:=by
    cases h:pOK b
    ·rfl
    ·exact absurd ⟨hoa,h⟩ hok
   have HOB:=hid hob
   rw [hoa] at hc
   clear hoa hok hob
   go_enter Tryz.func196,Tryz.ntmps196
   go_wp2_with fail
   (with_reducible refine hc.out.mono ?_);rintro e w1 ⟨v,rfl,hb1,hv,x1,x2,x3,g,h,rfl⟩
   have hbA:Below w.heap.size w (w1.alloc (.cells #[.slice x1 x2 x3,.bool g,.bool h] 203)):=hb1.alloc hb1.size _
   have hcb:=hid (parse_fn b hb (w1.alloc (.cells #[.slice x1 x2 x3,.bool g,.bool h] 203)))
   unfold ParseP at hcb
   rw [HOB.out] at hcb
   go_wp2_with fail
   (with_reducible refine hcb.out.mono ?_);rintro e w2 ⟨v2,rfl,hb2,hv2,y1,y2,y3,g2,h2,rfl⟩
   have hbC:Below w2.heap.size w2 (w2.alloc (.cells #[.slice y1 y2 y3,.bool g2,.bool h2] 203)):=(Below.refl _ w2).alloc (Nat.le_refl _) _
   have hbD:=(hbA.trans (hb2.mono hbA.size)).trans (hbC.mono (Nat.le_trans hbA.size hb2.size))
   go_wp2
   go_ret2
   exact ⟨by rw [HR.out];rfl,hbD.mono hB,JIf.no HT.out (hJ0 _ hbD)⟩
theorem two_fn (a b:List UInt8) (ha:a.length≤1000000000) (hb:b.length≤1000000000) (k1 k2:Nat) (c1 c2:Array Value) (pe z:Int) (w:World)
  (eg1:∀ args w,(callFunc k1 args).run Tryz.prog w=.ok (.enter k1 args) w) (eg2:∀ args w,(callFunc k2 args).run Tryz.prog w=.ok (.enter k2 args) w)
  (hp:pOK a=true→pOK b=true→∀ w1 v u,Below w.heap.size w w1→PNum w1 v (pVal a)→PNum w1 u (pVal b)→Calls Tryz.prog k1 (#[v,u]++c1) w1 fun e w'=>e=.returned (.int .i64 pe)∧Below w1.heap.size w1 w')
  (hd:pOK a=true→pOK b=true→pe=0→(pVal a).natAbs<big600→(pVal b).natAbs<big600→∀ w1 v u,Below w.heap.size w w1→IntV w1 v (pVal a)→nlen (pVal a).natAbs≤1000→IntV w1 u (pVal b)→nlen (pVal b).natAbs≤1000→Calls Tryz.prog k2 (#[v,u]++c2) w1 fun e w'=>∃ u,e=.returned u∧RNum w' u z∧Below w1.heap.size w1 w') :
  Calls Tryz.prog 196 #[.string ⟨a.toArray⟩,.string ⟨b.toArray⟩,.func (.func k1) #[] c1,.func (.func k2) #[] c2] w fun e w'=>e=.returned (.tuple #[.string ⟨(twoRes a b pe z).1.toArray⟩,.int .i64 (twoRes a b pe z).2])∧Below w.heap.size w w':=by
 refine (two_fnJ a b ha hb k1 k2 c1 c2 pe z w w.heap.size (Nat.le_refl _) (fun _=>True) (fun _=>True) (fun _ _=>trivial) (fun _ _ _ _=>trivial) eg1 eg2 hp ?_).mono ?_
 ·intro h1 h2 h3 h4 h5 w1 v u h6 h7 h8 h9 h10
  refine (hd h1 h2 h3 h4 h5 w1 v u h6 h7 h8 h9 h10).mono ?_
  rintro e w' ⟨u,h11,h12,h13⟩
  exact ⟨u,h11,h12,h13.mono h6.size,trivial⟩
 ·rintro e w' ⟨h1,h2,_⟩
  exact ⟨h1,h2⟩
end Go.Proofs.YtihdndaibmgoiaaGreatDoor
namespace Go.Proofs.YtihdndaibmgoiaaGreatDoor
open Go.RowKit
def canRes (a:List UInt8):List UInt8×Int:=oneRes a 0 (pVal a)
theorem OwnInt.shape {w:World} {base:Nat} {v:Value} {z:Int} (h:OwnInt w base v z):∃ a c,v=.agg #[.slice a (nlen z.natAbs) c,.bool (decide (z<0)),.bool false]:=by
 obtain ⟨s,rfl,h1⟩:=h
 obtain ⟨a,c,rfl⟩:=h1.shape
 exact ⟨a,c,rfl⟩
end Go.Proofs.YtihdndaibmgoiaaGreatDoor
namespace Go.Proofs.YtihdndaibmgoiaaGreatDoor
open Go.RowKit
def negN (n k:Nat):Nat:=2 ^ (32*k)-n % 2 ^ (32*k)
def ncy (n i:Nat):Nat:=negN n i / 2 ^ (32*i)
theorem ncy_zero (n:Nat):ncy n 0=1:=by simp [ncy,negN,Nat.mod_one]
theorem ncy_le (n i:Nat):ncy n i≤1:=by
 unfold ncy
 have:negN n i / 2 ^ (32*i)<2:=by
  rw [Nat.div_lt_iff_lt_mul (pow32_pos i)]
  have:=pow32_pos i
  unfold negN;omega
 omega
def uC (n i:Nat):Nat:=ncy n i+(4294967295-D n i)
theorem uC_eq (n i:Nat):uC n i=negN n (i+1) / 2 ^ (32*i):=by
 have h1:=Nat.mod_lt n (pow32_pos i)
 have h2:=D_lt n i
 have e:negN n (i+1)=negN n i+2 ^ (32*i)*(4294967295-D n i):=by
  unfold negN
  rw [mod_split,pow32_succ,Nat.mul_sub]
  have h3:2 ^ (32*i)*D n i≤2 ^ (32*i)*4294967295:=Nat.mul_le_mul_left _ (by omega)
  omega
 rw [e,Nat.add_mul_div_left _ _ (pow32_pos i)]
 rfl
theorem uC_div (n i:Nat):uC n i / 4294967296=ncy n (i+1):=by
 rw [uC_eq,Nat.div_div_eq_div_mul]
 unfold ncy
 rw [pow32_succ]
theorem negN_mod (n i k:Nat) (h:i≤k):negN n k % 2 ^ (32*i)=negN n i % 2 ^ (32*i):=by
 have e:2 ^ (32*k)=2 ^ (32*i)*2 ^ (32*(k-i)):=by rw [← Nat.pow_add];congr 1;omega
 have h0:=Nat.mod_lt n (pow32_pos i)
 have h1:negN n k=negN n i+2 ^ (32*i)*(2 ^ (32*(k-i))-1-n / 2 ^ (32*i) % 2 ^ (32*(k-i))):=by
  unfold negN
  rw [e,Nat.mod_mul]
  have h2:=Nat.mod_lt (n / 2 ^ (32*i)) (pow32_pos (k-i))
  generalize n / 2 ^ (32*i) % 2 ^ (32*(k-i))=y at *
  generalize 2 ^ (32*(k-i))=K at *
  obtain ⟨z,rfl⟩:∃ z,K=y+1+z:=⟨K-(y+1),by omega⟩
  rw [show y+1+z-1-y=z by omega,Nat.mul_add,Nat.mul_add,Nat.mul_one]
  omega
 rw [h1,Nat.add_mul_mod_self_left]
theorem uC_mod (n i k:Nat) (h:i<k):uC n i % 4294967296=D (negN n k) i:=by
 rw [uC_eq]
 show D (negN n (i+1)) i=_
 apply D_congr
 rw [negN_mod n (i+1) k (by omega)]
theorem not_u32 (x:Nat) (h:x<4294967296):bits BinOp.xor IntKind.u32 (if IntKind.u32.signed=true then -1 else IntKind.u32.max) (x:Int)=4294967295-(x:Int):=by
 have e:(if IntKind.u32.signed=true then (-1:Int) else IntKind.u32.max)=((4294967295:Nat):Int):=by simp [IntKind.signed,IntKind.max,IntKind.bits]
 rw [e,u32_xor_nat _ _ (by decide) h]
 have h2:4294967295 ^^^ x=4294967295-x:=by
  have h3:(4294967295-x)+x=4294967295:=by omega
  apply Nat.eq_of_testBit_eq
  intro i
  rw [show (4294967295:Nat)=2 ^ 32-1 from rfl,Nat.testBit_xor,Nat.testBit_two_pow_sub_one,show 2 ^ 32-1-x=2 ^ 32-(x+1) by omega,Nat.testBit_two_pow_sub_succ h]
  by_cases hi:i<32
  ·simp [hi]
  ·have h4:x.testBit i=false:=Nat.testBit_lt_two_pow (Nat.lt_of_lt_of_le h (Nat.pow_le_pow_right (n:=2) (by decide) (show 32≤i by omega)))
   simp [hi,h4]
 rw [h2]
 omega
set_option maxRecDepth 100000 in
set_option maxHeartbeats 2000000 in
theorem complement_nat {v:Value} {n:Nat} {w:World} (h:NatRep w v n) (hl:nlen n≤10000000) (neg:Bool) (k:Nat) (hk:k≤10000000) :
    Calls Tryz.prog 216 #[v,.bool neg,.int .i64 k] w fun e w'=>(∃ u,e=.returned u∧Own .u32 97 w' w.heap.size u k (if neg then D (negN n k) else D n))∧Below w.heap.size w w':=by
  cases neg
  all_goals
    go_enter Tryz.func216,Tryz.ntmps216
    go_wp2_with (at_make;refine mk_u32 _ rfl _ _ rfl w.heap.size k _ _ rfl rfl rfl rfl (by omega) (Nat.le_refl _) ?_;intro w1 hown hb hz hb1)
  · go_loopw [8, 14] (fun carry i wr => ∃ j : Nat, i = .int .i64 j ∧ j ≤ k ∧ carry = .int .u64 1 ∧ Own .u32 97 wr w.heap.size (.slice (some ⟨w.heap.size, 0, none⟩) k k) k (fun t => if t < j then D n t else 0) ∧ Below w.heap.size w wr)
      (fun _ i _=>k-(intOf i).toNat)
    case atStart=>exact ⟨0,rfl,Nat.zero_le _,rfl,hown.congr (fun t _=>by rw [if_neg (by omega)]),hb⟩
    case round=>
      obtain ⟨j,rfl,hj,rfl,hown1,hbr⟩:=hrel
      clear hown hb hz hb1
      by_cases hlt:j<k
      · have hoc:=hown1.cell j hlt
        have hof:=hown1.free j
        go_wp2_with fail
        refine (at_nat (h.below hbr) (by omega) _ (by omega) (by omega)).mono ?_
        rintro e w' ⟨rfl,rfl⟩
        rw [Int.toNat_natCast]
        go_wp2
        go_roundw
        case rel=>
          refine ⟨j+1,by go_num,by omega,rfl,(hown1.store j _).congr ?_,hbr.setCell (Nat.le_refl _) _⟩
          intro t ht
          show (if t=j then _ else if t<j then _ else _)=_
          by_cases e:t=j
          · rw [if_pos e,if_pos (by omega),e]
          · rw [if_neg e]
            by_cases e2:t<j
            · rw [if_pos e2,if_pos (by omega)]
            · rw [if_neg e2,if_neg (by omega)]
        case measure=>simp [intOf]<;>omega
      · obtain rfl:j=k:=by omega
        go_wp2
        go_ret
        exact ⟨⟨_,rfl,hown1.congr (fun t ht=>by rw [if_pos ht])⟩,hbr⟩
  · go_loopw [8, 14] (fun carry i wr => ∃ j : Nat, i = .int .i64 j ∧ j ≤ k ∧ carry = .int .u64 (ncy n j) ∧ Own .u32 97 wr w.heap.size (.slice (some ⟨w.heap.size, 0, none⟩) k k) k (fun t => if t < j then D (negN n k) t else 0) ∧ Below w.heap.size w wr)
      (fun _ i _=>k-(intOf i).toNat)
    case atStart=>exact ⟨0,rfl,Nat.zero_le _,by rw [ncy_zero];rfl,hown.congr (fun t _=>by rw [if_neg (by omega)]),hb⟩
    case round=>
      obtain ⟨j,rfl,hj,rfl,hown1,hbr⟩:=hrel
      clear hown hb hz hb1
      have hcy:=ncy_le n j
      have hd:=D_lt n j
      by_cases hlt:j<k
      · have hoc:=hown1.cell j hlt
        have hof:=hown1.free j
        go_wp2_with fail
        refine (at_nat (h.below hbr) (by omega) _ (by omega) (by omega)).mono ?_
        rintro e w' ⟨rfl,rfl⟩
        rw [Int.toNat_natCast]
        have hs:=hown1.store j (D n j)
        have hsc:=hs.cell j hlt
        have hsf:=hs.free j
        have hbs:Below w.heap.size w _:=hbr.setCell (p:=⟨w.heap.size,j,none⟩) (Nat.le_refl _) (.int .u32 ((D n j:Nat):Int))
        have hw0:=not_u32 (D n j) hd
        have hw1:((ncy n j:Nat):Int)+(4294967295-((D n j:Nat):Int))=((uC n j:Nat):Int):=by unfold uC;omega
        have hw2:((uC n j:Nat):Int) % 4294967296=((D (negN n k) j:Nat):Int):=by rw [← uC_mod n j k hlt];omega
        have hw3:((uC n j:Nat):Int) / 4294967296=((ncy n (j+1):Nat):Int):=by rw [← uC_div];omega
        have hub:uC n j≤4294967296:=by unfold uC;omega
        have hcall:=hid (at_nat (h.below hbs) (by omega) (j:Int) (by omega) (by omega))
        go_wp2_with fail
        (with_reducible refine hcall.out.mono ?_);rintro e w' ⟨rfl,rfl⟩
        rw [Int.toNat_natCast]
        go_wp2
        go_roundw
        case rel=>
          refine ⟨j+1,by go_num,by omega,rfl,(hs.store j _).congr ?_,hbs.setCell (Nat.le_refl _) _⟩
          intro t ht
          show (if t=j then _ else if t=j then _ else if t<j then _ else _)=_
          by_cases e:t=j
          · rw [if_pos e,if_pos (by omega),e]
          · rw [if_neg e,if_neg e]
            by_cases e2:t<j
            · rw [if_pos e2,if_pos (by omega)]
            · rw [if_neg e2,if_neg (by omega)]
        case measure=>simp [intOf]<;>omega
      · obtain rfl:j=k:=by omega
        go_wp2
        go_ret
        exact ⟨⟨_,rfl,hown1.congr (fun t ht=>by rw [if_pos ht])⟩,hbr⟩
end Go.Proofs.YtihdndaibmgoiaaGreatDoor
namespace Go.Proofs.YtihdndaibmgoiaaGreatDoor
open Go.RowKit
theorem D_eq_mod (n i:Nat):D n i=n / 2 ^ (32*i) % 2 ^ 32:=rfl
theorem DB_and (x y i:Nat):D (x &&& y) i=D x i &&& D y i:=by
 rw [D_eq_mod,D_eq_mod,D_eq_mod]
 apply Nat.eq_of_testBit_eq
 intro j
 simp only [Nat.testBit_mod_two_pow,Nat.testBit_div_two_pow,Nat.testBit_and]
 cases decide (j<32)<;>simp
def BitLike (f:Nat→Nat→Nat):Prop:=(∀ x y i,D (f x y) i=f (D x i) (D y i))∧(∀ x y k,x<2 ^ k→y<2 ^ k→f x y<2 ^ k)∧(∀ x y i,f x y / 2 ^ i=f (x / 2 ^ i) (y / 2 ^ i))∧(∀ s t:Bool,(f (if s then 4294967295 else 0) (if t then 4294967295 else 0)=0∨f (if s then 4294967295 else 0) (if t then 4294967295 else 0)=4294967295))
theorem bl_and:BitLike (· &&& ·):=by
 refine ⟨DB_and,fun x y k hx _=>Nat.and_lt_two_pow x ‹_›,fun x y i=>?_,?_⟩
 ·apply Nat.eq_of_testBit_eq
  intro j
  simp [Nat.testBit_div_two_pow,Nat.testBit_and]
 ·intro s t;cases s<;>cases t<;>decide
def kOf (x y:Int):Nat:=max (nlen x.natAbs) (nlen y.natAbs)+1
def tcI (z:Int) (k:Nat):Nat:=if z<0 then negN z.natAbs k else z.natAbs
def ofTc (k n:Nat):Int:=if 2 ^ (32*k-1)≤n then -((negN n k:Nat):Int) else (n:Int)
def bitI (f:Nat→Nat→Nat) (x y:Int):Int:=ofTc (kOf x y) (f (tcI x (kOf x y)) (tcI y (kOf x y)))
theorem pow_split (j:Nat):2 ^ (32*(j+1))=2 ^ (32*j)*4294967296:=pow32_succ j
theorem tcI_parts (z:Int) (j:Nat) (h:nlen z.natAbs≤j):∃ s:Bool,(s=decide (z<0))∧tcI z (j+1)<2 ^ (32*(j+1))∧tcI z (j+1) / 2 ^ (32*j)=(if s then 4294967295 else 0)∧(z=(tcI z (j+1):Int)-(if s then ((2 ^ (32*(j+1)):Nat):Int) else 0))∧-((2 ^ (32*j):Nat):Int)≤z∧z<((2 ^ (32*j):Nat):Int):=by
 have h1:=(nlen_le_iff z.natAbs j).1 h
 have hp:=pow32_pos j
 have hs:=pow_split j
 refine ⟨decide (z<0),rfl,?_⟩
 unfold tcI
 rw [hs]
 by_cases hz:z<0
 ·rw [if_pos hz,decide_eq_true hz,if_pos rfl,if_pos rfl]
  unfold negN
  rw [hs,Nat.mod_eq_of_lt (by omega)]
  generalize 2 ^ (32*j)=p at *
  refine ⟨by omega,?_,by omega,by omega,by omega⟩
  have e:p*4294967296-z.natAbs=(p-z.natAbs)+p*4294967295:=by omega
  rw [e,Nat.add_mul_div_left _ _ hp,Nat.div_eq_of_lt (by omega)]
 ·rw [if_neg hz,decide_eq_false hz,if_neg (by decide),if_neg (by decide)]
  generalize 2 ^ (32*j)=p at *
  exact ⟨by omega,Nat.div_eq_of_lt h1,by omega,by omega,by omega⟩
theorem ofTc_parts (f:Nat→Nat→Nat) (hf:BitLike f) (x y:Int):∃ t:Bool,bitI f x y=(f (tcI x (kOf x y)) (tcI y (kOf x y)):Int)-(if t then ((2 ^ (32*kOf x y):Nat):Int) else 0)∧-((2 ^ (32*(kOf x y-1)):Nat):Int)≤bitI f x y∧bitI f x y<((2 ^ (32*(kOf x y-1)):Nat):Int)∧f (tcI x (kOf x y)) (tcI y (kOf x y))<2 ^ (32*kOf x y):=by
 obtain ⟨j,hj⟩:∃ j,kOf x y=j+1:=⟨_,rfl⟩
 have hjx:nlen x.natAbs≤j:=by unfold kOf at hj;omega
 have hjy:nlen y.natAbs≤j:=by unfold kOf at hj;omega
 obtain ⟨s1,-,a1,a2,_⟩:=tcI_parts x j hjx
 obtain ⟨s2,-,b1,b2,_⟩:=tcI_parts y j hjy
 obtain ⟨f1,f2,f3,f4⟩:=hf
 unfold bitI
 rw [hj,Nat.add_sub_cancel]
 have hlt:=f2 _ _ _ a1 b1
 have htop:=f3 (tcI x (j+1)) (tcI y (j+1)) (32*j)
 rw [a2,b2] at htop
 have h4:=f4 s1 s2
 generalize f (tcI x (j+1)) (tcI y (j+1))=Z at *
 generalize f (if s1=true then 4294967295 else 0) (if s2=true then 4294967295 else 0)=T at *
 have hp:=pow32_pos j
 have hs:=pow_split j
 have hs1:2 ^ (32*(j+1)-1)=2 ^ (32*j)*2147483648:=by
  rw [show 32*(j+1)-1=32*j+31 by omega,Nat.pow_add]
 unfold ofTc
 rw [hs1]
 have hneg:negN Z (j+1)=2 ^ (32*(j+1))-Z:=by unfold negN;rw [Nat.mod_eq_of_lt hlt]
 have hd:=Nat.div_add_mod Z (2 ^ (32*j))
 have hm:=Nat.mod_lt Z hp
 rw [htop] at hd
 rcases h4 with rfl | rfl
 ·refine ⟨false,?_⟩
  rw [if_neg (by generalize 2 ^ (32*j)=p at *;omega),if_neg (by decide)]
  refine ⟨by omega,by omega,?_,hlt⟩
  generalize 2 ^ (32*j)=p at *
  omega
 ·refine ⟨true,?_⟩
  rw [if_pos (by generalize 2 ^ (32*j)=p at *;omega),if_pos rfl,hneg,hs]
  rw [hs] at hlt
  generalize 2 ^ (32*j)=p at *
  refine ⟨by omega,by omega,by omega,hlt⟩
end Go.Proofs.YtihdndaibmgoiaaGreatDoor
namespace Go.Proofs.YtihdndaibmgoiaaGreatDoor
open Go.RowKit
theorem same_fn (m:Nat) (w:World):Calls Tryz.prog 201 #[.int .u32 m] w fun e w'=>e=.returned (.int .u32 m)∧w'=w:=by
 go_enter Tryz.func201,Tryz.ntmps201
 go_wp2
 go_ret
 exact ⟨rfl,rfl⟩
theorem Blk.set1_ne' {w:World} {b c:Nat} {cs:Array Value} {t:TypeId} (h:Blk w c cs t) (hne:c≠b) (o:Nat) (x:Value):Blk (w.setCell ⟨b,o,none⟩ x) c cs t:=
 (Below.heap_setCell _ _ _ _ hne).trans h
theorem top_bit (N k:Nat) (hk:0<k) (h:N<2 ^ (32*k)):(((D N (k-1):Nat):Int) / 2147483648 == 1)=decide (2 ^ (32*k-1)≤N):=by
 obtain ⟨j,rfl⟩:∃ j,k=j+1:=⟨k-1,by omega⟩
 rw [Nat.add_sub_cancel,D_eq N j h]
 have e:2 ^ (32*(j+1)-1)=2 ^ (32*j)*2147483648:=by
  rw [show 32*(j+1)-1=32*j+31 by omega,Nat.pow_add]
 rw [e]
 rw [pow32_succ] at h
 have hp:=pow32_pos j
 generalize 2 ^ (32*j)=p at *
 have hd:=Nat.div_add_mod N p
 have hm:=Nat.mod_lt N hp
 have hq:N / p<4294967296:=by rw [Nat.div_lt_iff_lt_mul hp];rw [Nat.mul_comm];exact h
 by_cases hle:p*2147483648≤N
 ·rw [decide_eq_true hle]
  have h1:2147483648≤N / p:=(Nat.le_div_iff_mul_le hp).2 (by rw [Nat.mul_comm];exact hle)
  rw [beq_iff_eq]
  omega
 ·rw [decide_eq_false hle]
  have h1:N / p<2147483648:=by rw [Nat.div_lt_iff_lt_mul hp];omega
  rw [beq_eq_false_iff_ne]
  omega
theorem nlen_top (N k:Nat) (hk:0<k) (h:N<2 ^ (32*k)) (ht:2 ^ (32*k-1)≤N):nlen N=k:=by
 have h1:=(nlen_le_iff N k).2 h
 have h2:¬ nlen N≤k-1:=by
  intro h3
  have h4:=(nlen_le_iff N (k-1)).1 h3
  have h5:2 ^ (32*(k-1))≤2 ^ (32*k-1):=Nat.pow_le_pow_right (by decide) (by omega)
  omega
 omega
theorem ofTc_neg (j N:Nat) (h:2 ^ (32*j-1)≤N):(true && decide (0<negN N j))=decide (ofTc j N<0)∧(ofTc j N).natAbs=negN N j:=by
 unfold ofTc
 rw [if_pos h,Bool.true_and]
 generalize negN N j=m
 exact ⟨decide_eq_decide.2 (by omega),by omega⟩
theorem ofTc_pos (j N:Nat) (h:¬ 2 ^ (32*j-1)≤N):(false && decide (0<N))=decide (ofTc j N<0)∧(ofTc j N).natAbs=N:=by
 unfold ofTc
 rw [if_neg h,Bool.false_and]
 exact ⟨(decide_eq_false (by omega)).symm,by omega⟩
theorem kOf_le (x y:Int) (hx:nlen x.natAbs≤1000) (hy:nlen y.natAbs≤1000):kOf x y≤1001:=by unfold kOf;omega
theorem tcI_digits (z:Int) (k:Nat):(if decide (z<0) then D (negN z.natAbs k) else D z.natAbs)=D (tcI z k):=by
 unfold tcI
 by_cases h:z<0
 ·rw [decide_eq_true h,if_pos rfl,if_pos h]
 ·rw [decide_eq_false h,if_neg (by decide),if_neg h]
set_option maxRecDepth 100000 in
set_option maxHeartbeats 2000000 in
theorem bitwise_fn {v u:Value} {x y:Int} {w:World} (kf:Nat) (f:Nat→Nat→Nat) (hf:BitLike f) (eg:∀ args w,(callFunc kf args).run Tryz.prog w=.ok (.enter kf args) w)
  (hput:∀ (m n:Nat) (w:World),m<4294967296→n<4294967296→Calls Tryz.prog kf #[.int .u32 m,.int .u32 n] w fun e w'=>e=.returned (.int .u32 (f m n))∧w'=w)
  (hv:IntV w v x) (hu:IntV w u y) (hx:nlen x.natAbs≤1000) (hy:nlen y.natAbs≤1000) :
  Calls Tryz.prog 199 #[v,u,.func (.func kf) #[] #[],.func (.func 201) #[] #[],.func (.func 201) #[] #[]] w (FreshInt (bitI f x y) w):=by
 have egs:=enters_of (P:=Tryz.prog) Tryz.func201 (by kernel_rfl) rfl
 obtain ⟨a1,c1,rfl,h1⟩:=hv.shape
 obtain ⟨a2,c2,rfl,h2⟩:=hu.shape
 have hk:=kOf_le x y hx hy
 have hkmax:max (nlen x.natAbs) (nlen y.natAbs)+1=kOf x y:=rfl
 have HD1:=hid (tcI_digits x (kOf x y))
 have HD2:=hid (tcI_digits y (kOf x y))
 have HLT:=hid ((ofTc_parts f hf x y).choose_spec.2.2.2)
 have HBI:=hid (show bitI f x y=ofTc (kOf x y) (f (tcI x (kOf x y)) (tcI y (kOf x y))) from rfl)
 generalize hs1:decide (x<0)=s1 at *
 generalize hs2:decide (y<0)=s2 at *
 have HF:=hid hf
 have HPUT:=hid hput
 clear hs1 hs2 hf hput hv hu
 have k1:=Blk.new w #[.slice a1 (nlen x.natAbs) c1,.bool s1,.bool false] 203
 have k2:=Blk.new (w.alloc (.cells #[.slice a1 (nlen x.natAbs) c1,.bool s1,.bool false] 203)) #[.slice a2 (nlen y.natAbs) c2,.bool s2,.bool false] 203
 have k3:=Blk.new ((w.alloc (.cells #[.slice a1 (nlen x.natAbs) c1,.bool s1,.bool false] 203)).alloc (.cells #[.slice a2 (nlen y.natAbs) c2,.bool s2,.bool false] 203)) #[.slice none 0 0,.bool false,.bool false] 203
 simp only [World.size_alloc] at k2 k3
 have k1:=(k1.alloc (.cells #[.slice a2 (nlen y.natAbs) c2,.bool s2,.bool false] 203)).alloc (.cells #[.slice none 0 0,.bool false,.bool false] 203)
 have k2:=k2.alloc (.cells #[.slice none 0 0,.bool false,.bool false] 203)
 have hb0:Below w.heap.size w (((w.alloc (.cells #[.slice a1 (nlen x.natAbs) c1,.bool s1,.bool false] 203)).alloc (.cells #[.slice a2 (nlen y.natAbs) c2,.bool s2,.bool false] 203)).alloc (.cells #[.slice none 0 0,.bool false,.bool false] 203)):=(((Below.refl _ _).alloc (Nat.le_refl _) _).alloc (by simp) _).alloc (by simp;omega) _
 have hmx:max ((nlen x.natAbs:Nat):Int) ((nlen y.natAbs:Nat):Int)+1=((kOf x y:Nat):Int):=by omega
 have HMX:=hid hmx
 clear hmx hkmax
 go_enter Tryz.func199,Tryz.ntmps199
 go_wp2_with fail
 generalize ((w.alloc (.cells #[.slice a1 (nlen x.natAbs) c1,.bool s1,.bool false] 203)).alloc (.cells #[.slice a2 (nlen y.natAbs) c2,.bool s2,.bool false] 203)).alloc (.cells #[.slice none 0 0,.bool false,.bool false] 203)=w0 at *
 obtain ⟨⟨p1,p2,p3⟩,_⟩:=k1.three
 obtain ⟨⟨p4,p5,p6⟩,_⟩:=k2.three
 go_wp2_with fail
 rw [HMX.out]
 clear p1 p2 p3 p4 p5 p6
 have kA:=k1.drew
 have kB:=k2.drew
 have k3:=k3.drew
 have hb:=hb0.drew
 have h1:=h1.below hb
 have h2:=h2.below hb
 refine U_begin (late:=fun i=>decide (14≤i)) (S:=fun u=>Blk u w.heap.size #[.slice a1 (nlen x.natAbs) c1,.bool s1,.bool false] 203∧Blk u (w.heap.size+1) #[.slice a2 (nlen y.natAbs) c2,.bool s2,.bool false] 203) (by kernel_rfl) ?_
 generalize w0.drew=wd at *
 clear hb0 k1 k2
 refine U_take (i:=0) (v:=.pointer (some ⟨w.heap.size,0,none⟩)) rfl (by kernel_rfl) (by kernel_rfl) (by kernel_rfl) (by kernel_rfl) (by kernel_rfl) (fun _ _ _ h=>h) (.inl ⟨rfl,fun u hu=>(by go_simp)⟩) ⟨kA,kB⟩ ?_
 refine U_take (i:=1) (v:=.slice a1 (nlen x.natAbs) c1) rfl (by kernel_rfl) (by kernel_rfl) (by kernel_rfl) (by kernel_rfl) (by kernel_rfl) (fun _ _ _ h=>h) (.inl ⟨rfl,fun u hu=>(by obtain ⟨⟨h1,h2,h3⟩,_⟩:=hu.1.three;go_simp)⟩) ⟨kA,kB⟩ ?_
 refine U_take (i:=2) (v:=.pointer (some ⟨w.heap.size,1,none⟩)) rfl (by kernel_rfl) (by kernel_rfl) (by kernel_rfl) (by kernel_rfl) (by kernel_rfl) (fun _ _ _ h=>h) (.inl ⟨rfl,fun u hu=>(by go_simp)⟩) ⟨kA,kB⟩ ?_
 refine U_take (i:=3) (v:=.bool s1) rfl (by kernel_rfl) (by kernel_rfl) (by kernel_rfl) (by kernel_rfl) (by kernel_rfl) (fun _ _ _ h=>h) (.inl ⟨rfl,fun u hu=>(by obtain ⟨⟨h1,h2,h3⟩,_⟩:=hu.1.three;go_simp)⟩) ⟨kA,kB⟩ ?_
 refine U_take (i:=4) (v:=.int .i64 (kOf x y)) rfl (by kernel_rfl) (by kernel_rfl) (by kernel_rfl) (by kernel_rfl) (by kernel_rfl) (fun _ _ _ h=>h) (.inl ⟨rfl,fun u hu=>(by go_simp)⟩) ⟨kA,kB⟩ ?_
 refine U_take (i:=6) (v:=.pointer (some ⟨w.heap.size+1,0,none⟩)) rfl (by kernel_rfl) (by kernel_rfl) (by kernel_rfl) (by kernel_rfl) (by kernel_rfl) (fun _ _ _ h=>h) (.inl ⟨rfl,fun u hu=>(by go_simp)⟩) ⟨kA,kB⟩ ?_
 refine U_take (i:=7) (v:=.slice a2 (nlen y.natAbs) c2) rfl (by kernel_rfl) (by kernel_rfl) (by kernel_rfl) (by kernel_rfl) (by kernel_rfl) (fun _ _ _ h=>h) (.inl ⟨rfl,fun u hu=>(by obtain ⟨⟨h1,h2,h3⟩,_⟩:=hu.2.three;go_simp)⟩) ⟨kA,kB⟩ ?_
 refine U_take (i:=8) (v:=.pointer (some ⟨w.heap.size+1,1,none⟩)) rfl (by kernel_rfl) (by kernel_rfl) (by kernel_rfl) (by kernel_rfl) (by kernel_rfl) (fun _ _ _ h=>h) (.inl ⟨rfl,fun u hu=>(by go_simp)⟩) ⟨kA,kB⟩ ?_
 refine U_take (i:=9) (v:=.bool s2) rfl (by kernel_rfl) (by kernel_rfl) (by kernel_rfl) (by kernel_rfl) (by kernel_rfl) (fun _ _ _ h=>h) (.inl ⟨rfl,fun u hu=>(by obtain ⟨⟨h1,h2,h3⟩,_⟩:=hu.2.three;go_simp)⟩) ⟨kA,kB⟩ ?_
 refine U_take (i:=10) (v:=.int .i64 (kOf x y)) rfl (by kernel_rfl) (by kernel_rfl) (by kernel_rfl) (by kernel_rfl) (by kernel_rfl) (fun _ _ _ h=>h) (.inl ⟨rfl,fun u hu=>(by go_simp)⟩) ⟨kA,kB⟩ ?_
 refine U_step (j:=5) (by kernel_rfl) rfl (fun K hK=>?_)
 go_simp
 have hc:=hid (complement_nat h1 (by omega) s1 (kOf x y) (by omega))
 rw [HD1.out] at hc
 (with_reducible refine hc.out.mono ?_);rintro e v1 ⟨⟨X,rfl,hX⟩,gg⟩
 clear hc
 have hb:=hb.trans (gg.mono hb.size)
 have kA:=kA.later gg
 have kB:=kB.later gg
 have k3:=k3.later gg
 have h2:=h2.below gg
 obtain ⟨xa,xc,rfl⟩:=hX.shape
 have hszd:=k3.lt
 refine hK.out _ _ (.inr ⟨kA,kB⟩) ?_
 clear hK K gg
 refine U_step (j:=11) (by kernel_rfl) rfl (fun K hK=>?_)
 go_simp
 have hc:=hid (complement_nat h2 (by omega) s2 (kOf x y) (by omega))
 rw [HD2.out] at hc
 (with_reducible refine hc.out.mono ?_);rintro e v2 ⟨⟨Y,rfl,hY⟩,gg⟩
 clear hc
 have hb:=hb.trans (gg.mono hb.size)
 have kA:=kA.later gg
 have kB:=kB.later gg
 have k3:=k3.later gg
 have hX:=hX.keep gg (Nat.le_refl _)
 obtain ⟨ya,yc,rfl⟩:=hY.shape
 refine hK.out _ _ (.inr ⟨kA,kB⟩) ?_
 clear hK K gg
 refine U_step (j:=12) (by kernel_rfl) rfl (fun K hK=>?_)
 go_simp
 refine hK.out _ _ (.inr ⟨kA,kB⟩) ?_
 clear hK K
 refine U_step (j:=13) (by kernel_rfl) rfl (fun K hK=>?_)
 go_simp
 refine hK.out _ _ (.inr ⟨kA,kB⟩) ?_
 clear hK K
 refine U_done (by kernel_rfl) ?_ _
 clear kA kB h1 h2
 have hk0:0<kOf x y:=by unfold kOf;omega
 obtain ⟨gx,rfl⟩:=hX.addr hk0
 obtain ⟨gy,rfl⟩:=hY.addr hk0
 have hgx:=hX.lt
 have hgy:=hY.lt
 have hbx:=hX.base_le
 have hby:=hY.base_le
 generalize kOf x y=k at *
 go_wp2_with (at_make;refine mk_u32 _ rfl _ _ rfl v2.heap.size k _ _ rfl rfl rfl rfl (by omega) (Nat.le_refl _) ?_;intro w3 hown hb3 hz hb3')
 generalize hgz:v2.heap.size=gz at *
 have hbv2:=hb.size
 have hX:=Own.keep hX hb3 (by omega)
 have hY:=Own.keep hY hb3 (by omega)
 have k3:=k3.below hb3 (by omega)
 have hb:=hb.trans (hb3.mono (by omega))
 have hgzw:w.heap.size≤gz:=by omega
 clear hb3 hb3' hgz
 generalize hX0:tcI x k=X0 at *
 generalize hY0:tcI y k=Y0 at *
 clear hX0 hY0 HD1 HD2
 generalize hbx0:wd.heap.size=bx0 at *
 generalize hby0:v1.heap.size=by0 at *
 clear hbx0 hby0
 go_wp2_with fail
 go_loopw [41] (fun iv wr=>∃ j:Nat,iv=.int .i64 j∧j≤k∧Own .u32 97 wr gz (.slice (some ⟨gz,0,none⟩) k k) k (fun t=>if t<j then D (f X0 Y0) t else 0)∧Own .u32 97 wr bx0 (.slice (some ⟨gx,0,none⟩) k xc) k (D X0)∧Own .u32 97 wr by0 (.slice (some ⟨gy,0,none⟩) k yc) k (D Y0)∧Blk wr (w.heap.size+1+1) #[.slice none 0 0,.bool false,.bool false] 203∧Below w.heap.size w wr) (fun iv _=>k-(intOf iv).toNat)
 case atStart=>exact ⟨0,rfl,Nat.zero_le _,hown.congr (fun t _=>by rw [if_neg (by omega)]),hX,hY,k3,hb⟩
 case round=>
  obtain ⟨j,rfl,hj,hq,hX,hY,k3,hb⟩:=hrel
  clear hown
  by_cases hlt:j<k
  ·have cx:=hX.cell j hlt
   have cy:=hY.cell j hlt
   have dx:=D_lt X0 j
   have dy:=D_lt Y0 j
   have HFD:=hid (HF.out.1 X0 Y0 j)
   have hXd:Own .u32 97 wr.drew bx0 (.slice (some ⟨gx,0,none⟩) k xc) k (D X0):=hX
   have hYd:Own .u32 97 wr.drew by0 (.slice (some ⟨gy,0,none⟩) k yc) k (D Y0):=hY
   have hqd:Own .u32 97 wr.drew gz (.slice (some ⟨gz,0,none⟩) k k) k (fun t=>if t<j then D (f X0 Y0) t else 0):=hq
   have k3:=k3.drew
   have hb:=hb.drew
   have cxd:wr.drew.cell? ⟨gx,j,none⟩=some (.int .u32 (D X0 j)):=cx
   have cyd:wr.drew.cell? ⟨gy,j,none⟩=some (.int .u32 (D Y0 j)):=cy
   have hqf:=hqd.free j
   have hqc:=hqd.cell j hlt
   rw [if_neg (by omega)] at hqc
   clear hX hY hq cx cy
   go_wp2_with fail
   refine U_begin (late:=fun i=>decide (19≤i)) (S:=fun u=>u.cell? ⟨gx,j,none⟩=some (.int .u32 (D X0 j))∧u.cell? ⟨gy,j,none⟩=some (.int .u32 (D Y0 j))) (by kernel_rfl) ?_
   generalize wr.drew=wd at *
   refine U_take (i:=0) (v:=.slice (some ⟨gz,0,none⟩) k k) rfl (by kernel_rfl) (by kernel_rfl) (by kernel_rfl) (by kernel_rfl) (by kernel_rfl) (fun _ _ _ h=>h) (.inl ⟨rfl,fun u hu=>(by go_simp)⟩) ⟨cxd,cyd⟩ ?_
   refine U_take (i:=1) (v:=.int .i64 j) rfl (by kernel_rfl) (by kernel_rfl) (by kernel_rfl) (by kernel_rfl) (by kernel_rfl) (fun _ _ _ h=>h) (.inl ⟨rfl,fun u hu=>(by go_simp)⟩) ⟨cxd,cyd⟩ ?_
   refine U_take (i:=2) (v:=.func (.func 201) #[] #[]) rfl (by kernel_rfl) (by kernel_rfl) (by kernel_rfl) (by kernel_rfl) (by kernel_rfl) (fun _ _ _ h=>h) (.inl ⟨rfl,fun u hu=>(by go_simp)⟩) ⟨cxd,cyd⟩ ?_
   refine U_take (i:=3) (v:=.func (.func kf) #[] #[]) rfl (by kernel_rfl) (by kernel_rfl) (by kernel_rfl) (by kernel_rfl) (by kernel_rfl) (fun _ _ _ h=>h) (.inl ⟨rfl,fun u hu=>(by go_simp)⟩) ⟨cxd,cyd⟩ ?_
   refine U_take (i:=4) (v:=.func (.func 201) #[] #[]) rfl (by kernel_rfl) (by kernel_rfl) (by kernel_rfl) (by kernel_rfl) (by kernel_rfl) (fun _ _ _ h=>h) (.inl ⟨rfl,fun u hu=>(by go_simp)⟩) ⟨cxd,cyd⟩ ?_
   refine U_take (i:=5) (v:=.slice (some ⟨gx,0,none⟩) k xc) rfl (by kernel_rfl) (by kernel_rfl) (by kernel_rfl) (by kernel_rfl) (by kernel_rfl) (fun _ _ _ h=>h) (.inl ⟨rfl,fun u hu=>(by go_simp)⟩) ⟨cxd,cyd⟩ ?_
   refine U_take (i:=6) (v:=.int .i64 j) rfl (by kernel_rfl) (by kernel_rfl) (by kernel_rfl) (by kernel_rfl) (by kernel_rfl) (fun _ _ _ h=>h) (.inl ⟨rfl,fun u hu=>(by go_simp)⟩) ⟨cxd,cyd⟩ ?_
   refine U_take (i:=7) (v:=.pointer (some ⟨gx,j,none⟩)) rfl (by kernel_rfl) (by kernel_rfl) (by kernel_rfl) (by kernel_rfl) (by kernel_rfl) (fun _ _ _ h=>h) (.inl ⟨rfl,fun u hu=>(by go_simp)⟩) ⟨cxd,cyd⟩ ?_
   refine U_take (i:=8) (v:=.int .u32 (D X0 j)) rfl (by kernel_rfl) (by kernel_rfl) (by kernel_rfl) (by kernel_rfl) (by kernel_rfl) (fun _ _ _ h=>h) (.inl ⟨rfl,fun u hu=>(by obtain ⟨h1,h2⟩:=hu;go_simp)⟩) ⟨cxd,cyd⟩ ?_
   refine U_take (i:=10) (v:=.func (.func 201) #[] #[]) rfl (by kernel_rfl) (by kernel_rfl) (by kernel_rfl) (by kernel_rfl) (by kernel_rfl) (fun _ _ _ h=>h) (.inl ⟨rfl,fun u hu=>(by go_simp)⟩) ⟨cxd,cyd⟩ ?_
   refine U_take (i:=11) (v:=.slice (some ⟨gy,0,none⟩) k yc) rfl (by kernel_rfl) (by kernel_rfl) (by kernel_rfl) (by kernel_rfl) (by kernel_rfl) (fun _ _ _ h=>h) (.inl ⟨rfl,fun u hu=>(by go_simp)⟩) ⟨cxd,cyd⟩ ?_
   refine U_take (i:=12) (v:=.int .i64 j) rfl (by kernel_rfl) (by kernel_rfl) (by kernel_rfl) (by kernel_rfl) (by kernel_rfl) (fun _ _ _ h=>h) (.inl ⟨rfl,fun u hu=>(by go_simp)⟩) ⟨cxd,cyd⟩ ?_
   refine U_take (i:=13) (v:=.pointer (some ⟨gy,j,none⟩)) rfl (by kernel_rfl) (by kernel_rfl) (by kernel_rfl) (by kernel_rfl) (by kernel_rfl) (fun _ _ _ h=>h) (.inl ⟨rfl,fun u hu=>(by go_simp)⟩) ⟨cxd,cyd⟩ ?_
   refine U_take (i:=14) (v:=.int .u32 (D Y0 j)) rfl (by kernel_rfl) (by kernel_rfl) (by kernel_rfl) (by kernel_rfl) (by kernel_rfl) (fun _ _ _ h=>h) (.inl ⟨rfl,fun u hu=>(by obtain ⟨h1,h2⟩:=hu;go_simp)⟩) ⟨cxd,cyd⟩ ?_
   refine U_step (j:=9) (by kernel_rfl) rfl (fun K hK=>?_)
   go_simp
   (with_reducible refine (same_fn _ _).mono ?_);rintro e w' ⟨rfl,rfl⟩
   refine hK.out _ _ (.inr ⟨cxd,cyd⟩) ?_
   clear hK K
   refine U_step (j:=15) (by kernel_rfl) rfl (fun K hK=>?_)
   go_simp
   (with_reducible refine (same_fn _ _).mono ?_);rintro e w' ⟨rfl,rfl⟩
   refine hK.out _ _ (.inr ⟨cxd,cyd⟩) ?_
   clear hK K
   refine U_step (j:=16) (by kernel_rfl) rfl (fun K hK=>?_)
   go_simp
   (with_reducible refine (HPUT.out _ _ _ dx dy).mono ?_);rintro e w' ⟨rfl,rfl⟩
   refine hK.out _ _ (.inr ⟨cxd,cyd⟩) ?_
   clear hK K
   refine U_step (j:=17) (by kernel_rfl) rfl (fun K hK=>?_)
   go_simp
   (with_reducible refine (same_fn _ _).mono ?_);rintro e w' ⟨rfl,rfl⟩
   refine hK.out _ _ (.inr ⟨cxd,cyd⟩) ?_
   clear hK K
   refine U_step (j:=18) (by kernel_rfl) rfl (fun K hK=>?_)
   go_simp
   refine hK.out _ _ (.inr ⟨cxd,cyd⟩) ?_
   clear hK K
   refine U_step (j:=19) (by kernel_rfl) rfl (fun K hK=>?_)
   go_simp
   refine hK.out _ _ (.inl rfl) ?_
   clear hK K
   refine U_done (by kernel_rfl) ?_ _
   have hXs:=hXd.other ⟨gz,j,none⟩ (.int .u32 ((f (D X0 j) (D Y0 j):Nat):Int)) (by simp;omega)
   have hYs:=hYd.other ⟨gz,j,none⟩ (.int .u32 ((f (D X0 j) (D Y0 j):Nat):Int)) (by simp;omega)
   have hqs:=hqd.store j (f (D X0 j) (D Y0 j))
   have k3s:=k3.set1_ne' (b:=gz) (by omega) j (.int .u32 ((f (D X0 j) (D Y0 j):Nat):Int))
   have hbs:=hb.setCell (p:=⟨gz,j,none⟩) (by simp;omega) (.int .u32 ((f (D X0 j) (D Y0 j):Nat):Int))
   go_wp2
   go_roundw
   case rel=>
    refine ⟨j+1,by go_num,by omega,hqs.congr (fun t _=>?_),hXs,hYs,k3s,hbs⟩
    by_cases h1:t=j
    ·subst h1;rw [if_pos rfl,if_pos (by omega),HFD.out]
    ·rw [if_neg h1]
     by_cases h2:t<j
     ·rw [if_pos h2,if_pos (by omega)]
     ·rw [if_neg h2,if_neg (by omega)]
   case measure=>simp [intOf]<;>omega
  ·obtain rfl:j=k:=by omega
   have hk0':0<j:=hk0
   have hszq:=k3.lt
   have hb0w:=hb.size
   have hZlt:f X0 Y0<2 ^ (32*j):=HLT.out
   have hqf:=hq.congr (g:=D (f X0 Y0)) (fun t ht=>by rw [if_pos ht])
   generalize hZ:f X0 Y0=N at *
   have HZ:=hid hZ
   clear hZ
   have cq:=hqf.cell (j-1) (by omega)
   have hj1:((j:Int)-1)=((j-1:Nat):Int):=by omega
   have hdl:=D_lt N (j-1)
   have HTOP:=hid (top_bit N j hk0' hZlt)
   by_cases hneg:2 ^ (32*j-1)≤N
   ·have ht1:(((D N (j-1):Nat):Int) / 2147483648 == 1)=true:=by rw [HTOP.out];exact decide_eq_true hneg
    have hnl:nlen N=j:=nlen_top N j hk0' hZlt hneg
    have HNL:=hid hnl
    have hrep:NatRep wr (.slice (some ⟨gz,0,none⟩) j j) N:=by
     unfold NatRep
     rw [HNL.out]
     exact hqf.row
    have hc1:Hid (Calls Tryz.prog 216 #[.slice (some ⟨gz,0,none⟩) j j,.bool true,.int .i64 j] wr fun e w'=>(∃ u,e=.returned u∧Own .u32 97 w' wr.heap.size u j (D (negN N j)))∧Below wr.heap.size wr w'):=hid (complement_nat hrep (by rw [HNL.out];omega) true j (by omega))
    have hnb:negN N j<2 ^ (32*j):=by
     have h5:=Nat.two_pow_pos (32*j-1)
     unfold negN
     rw [Nat.mod_eq_of_lt hZlt]
     omega
    obtain ⟨hG0,hNA0⟩:=ofTc_neg j N hneg
    have hG:=hid hG0
    have hNA:=hid hNA0
    clear hG0 hNA0
    generalize hMM:negN N j=M at *
    clear hMM
    clear hneg hnl
    go_wp2_with fail
    (with_reducible refine hc1.out.mono ?_);rintro e u1 ⟨⟨v1,rfl,hv1⟩,gg1⟩
    obtain ⟨va,vc,rfl⟩:=hv1.shape
    have hv1:Own .u32 97 u1 wr.heap.size (.slice va j vc) j (D M):=hv1
    have hc2:=hid (trimmed_own hv1 (by omega) hnb)
    go_wp2_with fail
    (with_reducible refine hc2.out.mono ?_);rintro e u2 ⟨⟨v2',rfl,hv2⟩,rfl⟩
    obtain ⟨vb,vd,rfl⟩:=hv2.shape
    have hc3:=hid (of_nat hv2.nat true (by have:=(nlen_le_iff M j).2 hnb;omega))
    go_wp2_with fail
    (with_reducible refine hc3.out.mono ?_);rintro e u3 ⟨rfl,gg3⟩
    have k3:=(k3.later gg1).later gg3
    have hb:=(hb.trans (gg1.mono hb.size)).trans (gg3.mono (Nat.le_trans hb.size gg1.size))
    have hv3:=Own.keep hv2 gg3 (Nat.le_refl _)
    obtain ⟨⟨r1,r2,r3⟩,r4,r5,r6⟩:=k3.three
    generalize (true && decide (0<M))=G at *
    go_wp2
    have k3:=k3.set3 (.slice vb (nlen M) vd) (.bool G) (.bool false)
    obtain ⟨⟨z1,z2,z3⟩,_⟩:=k3.three
    have hvF:=own_set3 hv3 (b:=w.heap.size+1+1) (.slice vb (nlen M) vd) (.bool G) (.bool false) (by omega)
    have hbF:=((hb.setCell (p:=⟨w.heap.size+1+1,0,none⟩) (by simp;omega) (.slice vb (nlen M) vd)).setCell (p:=⟨w.heap.size+1+1,1,none⟩) (by simp;omega) (.bool G)).setCell (p:=⟨w.heap.size+1+1,2,none⟩) (by simp;omega) (.bool false)
    refine bodyPost_ret (v:=.agg #[.slice vb (nlen M) vd,.bool G,.bool false]) (by simp [results,Tryz.results199,go_sem,z1,z2,z3]) rfl ⟨_,rfl,?_,hbF⟩
    rw [HBI.out]
    exact OwnInt.mk (hvF.mono (by have:=hb0w;omega)) hNA.out.symm hG.out
   ·have ht1:(((D N (j-1):Nat):Int) / 2147483648 == 1)=false:=by rw [HTOP.out];exact decide_eq_false hneg
    obtain ⟨hG0,hNA0⟩:=ofTc_pos j N hneg
    have hG:=hid hG0
    have hNA:=hid hNA0
    clear hG0 hNA0 hneg
    have hc2:=hid (trimmed_own hqf (by omega) hZlt)
    go_wp2_with fail
    (with_reducible refine hc2.out.mono ?_);rintro e u2 ⟨⟨v2',rfl,hv2⟩,rfl⟩
    obtain ⟨vb,vd,rfl⟩:=hv2.shape
    have hc3:=hid (of_nat hv2.nat false (by have:=(nlen_le_iff N j).2 hZlt;omega))
    generalize (false && decide (0<N))=G at *
    go_wp2_with fail
    (with_reducible refine hc3.out.mono ?_);rintro e u3 ⟨rfl,gg3⟩
    have k3:=k3.later gg3
    have hb:=hb.trans (gg3.mono hb.size)
    have hv3:=Own.keep hv2 gg3 (Nat.le_refl _)
    obtain ⟨⟨r1,r2,r3⟩,r4,r5,r6⟩:=k3.three
    go_wp2
    have k3:=k3.set3 (.slice vb (nlen N) vd) (.bool G) (.bool false)
    obtain ⟨⟨z1,z2,z3⟩,_⟩:=k3.three
    have hvF:=own_set3 hv3 (b:=w.heap.size+1+1) (.slice vb (nlen N) vd) (.bool G) (.bool false) (by omega)
    have hbF:=((hb.setCell (p:=⟨w.heap.size+1+1,0,none⟩) (by simp;omega) (.slice vb (nlen N) vd)).setCell (p:=⟨w.heap.size+1+1,1,none⟩) (by simp;omega) (.bool G)).setCell (p:=⟨w.heap.size+1+1,2,none⟩) (by simp;omega) (.bool false)
    refine bodyPost_ret (v:=.agg #[.slice vb (nlen N) vd,.bool G,.bool false]) (by simp [results,Tryz.results199,go_sem,z1,z2,z3]) rfl ⟨_,rfl,?_,hbF⟩
    rw [HBI.out]
    exact OwnInt.mk (hvF.mono (by have:=hb0w;omega)) hNA.out.symm hG.out
end Go.Proofs.YtihdndaibmgoiaaGreatDoor
namespace Go.Proofs.YtihdndaibmgoiaaGreatDoor
open Go.RowKit
theorem bitI_nlen (f:Nat→Nat→Nat) (hf:BitLike f) (x y:Int) (hx:nlen x.natAbs≤1000) (hy:nlen y.natAbs≤1000):nlen (bitI f x y).natAbs≤1000000:=by
 obtain ⟨t,_,l,u,_⟩:=ofTc_parts f hf x y
 have hk:=kOf_le x y hx hy
 obtain ⟨K,hK⟩:∃ K,K=1000:=⟨_,rfl⟩
 have h1:2 ^ (32*(kOf x y-1))≤2 ^ (32*K):=Nat.pow_le_pow_right (by decide) (by omega)
 have h2:nlen (bitI f x y).natAbs≤K+1:=(nlen_le_iff _ _).2 (by
  have h3:2 ^ (32*K)<2 ^ (32*(K+1)):=Nat.pow_lt_pow_right (by decide) (by omega)
  generalize 2 ^ (32*(K+1))=M at *
  generalize 2 ^ (32*K)=N at *
  omega)
 omega
theorem put_and (m n:Nat) (w:World) (hm:m<4294967296) (hn:n<4294967296):Calls Tryz.prog 200 #[.int .u32 m,.int .u32 n] w fun e w'=>e=.returned (.int .u32 ((m &&& n:Nat):Int))∧w'=w:=by
 have HL:=hid (u32_and_nat m n hm hn)
 go_enter Tryz.func200,Tryz.ntmps200
 go_wp2
 go_ret
 exact ⟨by rw [← HL.out];rfl,rfl⟩
set_option maxRecDepth 100000 in
set_option maxHeartbeats 2000000 in
theorem and1 {v u:Value} {x y:Int} {w:World} (hv:IntV w v x) (hu:IntV w u y) (hx:nlen x.natAbs≤1000) (hy:nlen y.natAbs≤1000):Calls Tryz.prog 198 #[v,u] w (RetInt (bitI (· &&& ·) x y) w):=by
 obtain ⟨a1,c1,rfl,h1⟩:=hv.shape
 obtain ⟨a2,c2,rfl,h2⟩:=hu.shape
 generalize hs1:decide (x<0)=s1 at *
 generalize hs2:decide (y<0)=s2 at *
 clear hs1 hs2
 generalize hn1:nlen x.natAbs=n1 at *
 generalize hn2:nlen y.natAbs=n2 at *
 have k1:=Blk.new w #[.slice a1 n1 c1,.bool s1,.bool false] 203
 have k2:=Blk.new (w.alloc (.cells #[.slice a1 n1 c1,.bool s1,.bool false] 203)) #[.slice a2 n2 c2,.bool s2,.bool false] 203
 have k3:=Blk.new ((w.alloc (.cells #[.slice a1 n1 c1,.bool s1,.bool false] 203)).alloc (.cells #[.slice a2 n2 c2,.bool s2,.bool false] 203)) #[.slice none 0 0,.bool false,.bool false] 203
 simp only [World.size_alloc] at k2 k3
 have k1:=(k1.alloc (.cells #[.slice a2 n2 c2,.bool s2,.bool false] 203)).alloc (.cells #[.slice none 0 0,.bool false,.bool false] 203)
 have k2:=k2.alloc (.cells #[.slice none 0 0,.bool false,.bool false] 203)
 have hb0:Below w.heap.size w (((w.alloc (.cells #[.slice a1 n1 c1,.bool s1,.bool false] 203)).alloc (.cells #[.slice a2 n2 c2,.bool s2,.bool false] 203)).alloc (.cells #[.slice none 0 0,.bool false,.bool false] 203)):=(((Below.refl _ _).alloc (Nat.le_refl _) _).alloc (by simp) _).alloc (by simp;omega) _
 have hv:=hv.below hb0
 have hu:=hu.below hb0
 have HC:=hid (bitwise_fn 200 (· &&& ·) bl_and (enters_of Tryz.func200 (by kernel_rfl) rfl) (fun m n w hm hn=>put_and m n w hm hn) hv hu (by omega) (by omega))
 clear hn1 hn2 hv hu h1 h2
 generalize bitI (· &&& ·) x y=R at *
 go_enter Tryz.func198,Tryz.ntmps198
 go_wp2_with fail
 generalize ((w.alloc (.cells #[.slice a1 n1 c1,.bool s1,.bool false] 203)).alloc (.cells #[.slice a2 n2 c2,.bool s2,.bool false] 203)).alloc (.cells #[.slice none 0 0,.bool false,.bool false] 203)=w0 at *
 obtain ⟨⟨p1,p2,p3⟩,_⟩:=k1.three
 obtain ⟨⟨p4,p5,p6⟩,_⟩:=k2.three
 go_wp2_with fail
 (with_reducible refine HC.out.mono ?_);rintro e w1 ⟨s,rfl,hs,hb1⟩
 obtain ⟨ra,rn,rc,rb,rfl⟩:=hs.shape4
 have hlt3:=k3.lt
 have k3:=k3.later hb1
 obtain ⟨⟨r1,r2,r3⟩,r4,r5,r6⟩:=k3.three
 have hb:=hb0.trans (hb1.mono hb0.size)
 clear p1 p2 p3 p4 p5 p6
 go_wp2
 have k3:=k3.set3 (.slice ra rn rc) (.bool rb) (.bool false)
 obtain ⟨⟨z1,z2,z3⟩,_⟩:=k3.three
 have hbF:=((hb.setCell (p:=⟨w.heap.size+1+1,0,none⟩) (by simp;omega) (.slice ra rn rc)).setCell (p:=⟨w.heap.size+1+1,1,none⟩) (by simp;omega) (.bool rb)).setCell (p:=⟨w.heap.size+1+1,2,none⟩) (by simp;omega) (.bool false)
 have hF:=hs.set3 (b:=w.heap.size+1+1) hlt3 (.slice ra rn rc) (.bool rb) (.bool false)
 exact bodyPost_ret (v:=.agg #[.slice ra rn rc,.bool rb,.bool false]) (by simp [results,Tryz.results198,go_sem,z1,z2,z3]) rfl ⟨_,rfl,hF.int,hbF⟩
def andRes (a b:List UInt8):List UInt8×Int:=twoRes a b 0 (bitI (· &&& ·) (pVal a) (pVal b))
theorem and_fn (a b:List UInt8) (ha:a.length≤1000000000) (hb:b.length≤1000000000) (w:World) :
  Calls Tryz.prog 179 #[.string ⟨a.toArray⟩,.string ⟨b.toArray⟩] w fun e w'=>e=.returned (.tuple #[.string ⟨(andRes a b).1.toArray⟩,.int .i64 (andRes a b).2])∧Below w.heap.size w w':=by
 have hc:=hid (two_fn a b ha hb 197 198 #[] #[] 0 (bitI (· &&& ·) (pVal a) (pVal b)) w (enters_of Tryz.func197 (by kernel_rfl) rfl) (enters_of Tryz.func198 (by kernel_rfl) rfl)
  (fun _ _ w1 v u _ h1 h2=>by
   obtain ⟨n,lg,h1,_⟩:=h1
   obtain ⟨m,lg',h2,_⟩:=h2
   exact neither_fn h1 h2)
  (fun _ _ _ s1 s2 w1 v u _ h1 h2 h3 h4=>(and1 h1 h3 h2 h4).mono fun e w' h=>by
   obtain ⟨s,rfl,hs,hb⟩:=h
   refine ⟨s,rfl,RNum.of_int hs ?_,hb⟩
   exact bitI_nlen _ bl_and _ _ h2 h4))
 go_enter Tryz.func179,Tryz.ntmps179
 go_wp2_with fail
 (with_reducible refine hc.out.mono ?_);rintro e w1 ⟨rfl,hb1⟩
 go_wp2
 go_ret2
 exact ⟨rfl,hb1⟩
end Go.Proofs.YtihdndaibmgoiaaGreatDoor
