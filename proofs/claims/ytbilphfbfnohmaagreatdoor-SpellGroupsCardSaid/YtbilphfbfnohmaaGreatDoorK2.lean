/-
  Part K2 of the proofs of this seat, merged by a program out of 27 texts; remarks are struck.
-/
import Derived.Lib.Strings
import Derived.Lib.Slices
import Derived.Lib.TrimByte
import Derived.Laws.Strings3
import Derived.Deep.CutBlock
import Derived.Deep.DeepCutAuto
import Derived.Outline
import Derived.BigQuiet
import Derived.Laws.AppendOwnNone
import Derived.Deep.LoopGhost
import Derived.Test.YtbilphfbfnohmaaGreatDoorK1
namespace Go.Proofs.YtbilphfbfnohmaaGreatDoor
open Go.RowKit
def isWh (c:UInt8):Bool:=(decide (9≤c.toNat) && decide (c.toNat≤13)) || decide (c.toNat=32)
def valOf (c:UInt8):Nat:=
 if 48≤c.toNat∧c.toNat≤57 then c.toNat-48
 else if 97≤c.toNat∧c.toNat≤122 then c.toNat-97+10
 else if 65≤c.toNat∧c.toNat≤90 then c.toNat-65+10
 else 36
theorem valOf_le (c:UInt8):valOf c≤36:=by unfold valOf;split;omega;split;omega;split<;>omega
theorem white_fn (c:UInt8) (w:World):Calls Tryz.prog 190 #[.int .u8 c.toNat] w fun e w'=>e=.returned (.bool (isWh c))∧w'=w:=by
 have hw:isWh c=((decide (9≤c.toNat) && decide (c.toNat≤13)) || decide (c.toNat=32)):=rfl
 have hW:=hid hw
 clear hw
 have hl:c.toNat<256:=c.toNat_lt
 generalize isWh c=W at hW ⊢
 generalize c.toNat=x at hl hW ⊢
 go_enter Tryz.func190,Tryz.ntmps190
 by_cases h1:9≤x
 ·by_cases h2:x≤13
  ·go_wp2
   go_ret
   exact ⟨by rw [hW.out,decide_eq_true h1,decide_eq_true h2];rfl,rfl⟩
  ·have h2':¬ (x:Int)≤13:=by omega
   by_cases h3:x=32
   ·subst h3
    go_wp2
    go_ret
    exact ⟨by rw [hW.out];rfl,rfl⟩
   ·have h4:((x:Int) == 32)=false:=by simp;omega
    go_wp2
    go_ret
    refine ⟨?_,rfl⟩
    rw [hW.out,decide_eq_false h2,decide_eq_false h3]
    simp
 ·go_wp2
  go_ret
  refine ⟨?_,rfl⟩
  rw [hW.out,decide_eq_false h1]
  have h3:¬ x=32:=by omega
  have:¬ (x:Int)=32:=by omega
  simp [this,h3]
theorem value_fn (c:UInt8) (w:World):Calls Tryz.prog 208 #[.int .u8 c.toNat] w fun e w'=>e=.returned (.int .i64 (valOf c))∧w'=w:=by
  have hw:valOf c=if 48≤c.toNat∧c.toNat≤57 then c.toNat-48
    else if 97≤c.toNat∧c.toNat≤122 then c.toNat-97+10
    else if 65≤c.toNat∧c.toNat≤90 then c.toNat-65+10
    else 36:=rfl
  have hW:=hid hw
  clear hw
  have hl:c.toNat<256:=c.toNat_lt
  generalize valOf c=W at hW ⊢
  generalize c.toNat=x at hl hW ⊢
  go_enter Tryz.func208,Tryz.ntmps208
  by_cases h1:48≤x∧x≤57
  · obtain ⟨a1,a2⟩:=h1
    go_wp2
    go_ret
    refine ⟨?_,rfl⟩
    have:=hW.out
    rw [if_pos ⟨a1,a2⟩] at this
    rw [this,show ((x-48:Nat):Int)=(x:Int)-48 by omega]
    rfl
  · by_cases h2:97≤x∧x≤122
    · obtain ⟨a1,a2⟩:=h2
      have b1:¬ x≤57:=by omega
      go_wp2
      go_ret
      refine ⟨?_,rfl⟩
      have:=hW.out
      rw [if_neg h1,if_pos ⟨a1,a2⟩] at this
      rw [this,show ((x-97+10:Nat):Int)=(x:Int)-97+10 by omega]
      rfl
    · by_cases h3:65≤x∧x≤90
      · obtain ⟨a1,a2⟩:=h3
        have b1:¬ x≤57:=by omega
        have b2:¬ 97≤x:=by omega
        go_wp2
        go_ret
        refine ⟨?_,rfl⟩
        have:=hW.out
        rw [if_neg h1,if_neg h2,if_pos ⟨a1,a2⟩] at this
        rw [this,show ((x-65+10:Nat):Int)=(x:Int)-65+10 by omega]
        rfl
      · have hWW : W = 36 := by
          have:=hW.out
          rw [if_neg h1,if_neg h2,if_neg h3] at this
          exact this
        subst hWW
        by_cases c1:48≤x
        · have d1:¬ x≤57:=fun h=>h1 ⟨c1,h⟩
          by_cases c2:97≤x
          · have d2:¬ x≤122:=fun h=>h2 ⟨c2,h⟩
            have d3:¬ x≤90:=by omega
            go_wp2
            go_ret
            exact ⟨rfl,rfl⟩
          · by_cases c3:65≤x
            · have d3:¬ x≤90:=fun h=>h3 ⟨c3,h⟩
              go_wp2
              go_ret
              exact ⟨rfl,rfl⟩
            · go_wp2
              go_ret
              exact ⟨rfl,rfl⟩
        · go_wp2
          go_ret
          exact ⟨rfl,rfl⟩
theorem hasPrefix_sl (s p:List UInt8) (_hs:s.length≤1000000000) (_hp:p.length≤1000000000) (w:World):Calls Tryz.prog 128 #[.string ⟨s.toArray⟩,.string ⟨p.toArray⟩] w fun e w'=>e=.returned (.bool (p.isPrefixOf s))∧w'=w:=by
 have h1:(⟨s.toArray⟩:ByteArray).size=s.length:=Lib.size_mk _
 have h2:(⟨p.toArray⟩:ByteArray).size=p.length:=Lib.size_mk _
 have hpre:=hid (Lib.hasPrefix_of_take s p)
 go_enter Tryz.func128,Tryz.ntmps128
 by_cases hl:p.length≤s.length
 ·go_wp2
  go_ret
  refine ⟨?_,rfl⟩
  have h3:=hpre.out
  rw [decide_eq_true hl,Bool.true_and] at h3
  show Ending.returned (Value.bool (((⟨s.toArray⟩:ByteArray).extract 0 p.length).toList == p))=_
  rw [Lib.extract_mk,ByteArray.toList_mk]
  exact congrArg _ (congrArg _ h3)
 ·go_wp2
  go_ret
  refine ⟨?_,rfl⟩
  have h3:=hpre.out
  rw [decide_eq_false hl,Bool.false_and] at h3
  exact congrArg _ (congrArg _ h3)
theorem hasPrefix_fn (s p:List UInt8) (hs:s.length≤1000000000) (hp:p.length≤1000000000) (w:World):Calls Tryz.prog 75 #[.string ⟨s.toArray⟩,.string ⟨p.toArray⟩] w fun e w'=>e=.returned (.bool (p.isPrefixOf s))∧w'=w:=by
 have hc:=hid (hasPrefix_sl s p hs hp w)
 go_enter Tryz.func75,Tryz.ntmps75
 go_wp2_with fail
 (with_reducible refine hc.out.mono ?_);rintro e w' ⟨rfl,rfl⟩
 go_wp2
 go_ret
 exact ⟨rfl,rfl⟩
theorem cutPrefix_sl (s p:List UInt8) (hs:s.length≤1000000000) (hp:p.length≤1000000000) (w:World):Calls Tryz.prog 114 #[.string ⟨s.toArray⟩,.string ⟨p.toArray⟩] w fun e w'=>e=.returned (if p.isPrefixOf s then .tuple #[.string ⟨(s.drop p.length).toArray⟩,.bool true] else .tuple #[.string ⟨s.toArray⟩,.bool false])∧w'=w:=by
 have h1:(⟨s.toArray⟩:ByteArray).size=s.length:=Lib.size_mk _
 have h2:(⟨p.toArray⟩:ByteArray).size=p.length:=Lib.size_mk _
 have hc:=hid (hasPrefix_sl s p hs hp w)
 go_enter Tryz.func114,Tryz.ntmps114
 go_wp2_with fail
 (with_reducible refine hc.out.mono ?_);rintro e w' ⟨rfl,rfl⟩
 have hle:p.isPrefixOf s=true→p.length≤s.length:=fun h=>(List.isPrefixOf_iff_prefix.1 h).length_le
 cases hpre:p.isPrefixOf s
 ·clear hle
  go_wp2
  all_goals (go_ret2;exact ⟨rfl,rfl⟩)
 ·have hle':=hle hpre
  clear hle
  have e1:(⟨s.toArray⟩:ByteArray).extract p.length s.length=⟨(s.drop p.length).toArray⟩:=by
   rw [Lib.extract_mk,List.take_of_length_le (by simp)]
  go_wp2
  go_ret2
  exact ⟨rfl,rfl⟩
theorem cutPrefix_fn (s p:List UInt8) (hs:s.length≤1000000000) (hp:p.length≤1000000000) (w:World):Calls Tryz.prog 61 #[.string ⟨s.toArray⟩,.string ⟨p.toArray⟩] w fun e w'=>e=.returned (if p.isPrefixOf s then .tuple #[.string ⟨(s.drop p.length).toArray⟩,.bool true] else .tuple #[.string ⟨s.toArray⟩,.bool false])∧w'=w:=by
 have hc:=hid (cutPrefix_sl s p hs hp w)
 cases hpre:p.isPrefixOf s
 ·rw [hpre] at hc
  have hc:=hid hc.out
  go_enter Tryz.func61,Tryz.ntmps61
  go_wp2_with fail
  (with_reducible refine hc.out.mono ?_);rintro e w' ⟨rfl,rfl⟩
  go_wp2
  go_ret2
  exact ⟨rfl,rfl⟩
 ·rw [hpre] at hc
  have hc:=hid hc.out
  go_enter Tryz.func61,Tryz.ntmps61
  go_wp2_with fail
  (with_reducible refine hc.out.mono ?_);rintro e w' ⟨rfl,rfl⟩
  go_wp2
  go_ret2
  exact ⟨rfl,rfl⟩
theorem trimLeft1 (s:List UInt8) (hs:s.length≤1000000000) (c:UInt8) (w:World):Calls Tryz.prog 221 #[.string ⟨s.toArray⟩,.int .u8 c.toNat] w fun e w'=>e=.returned (.string ⟨(s.dropWhile (· == c)).toArray⟩)∧w'=w:=by
  go_enter Tryz.func221,Tryz.ntmps221
  go_wp2
  go_loop [0] (fun v=>∃ l:List UInt8,l.length≤1000000000∧v=.string ⟨l.toArray⟩∧l.dropWhile (· == c)=s.dropWhile (· == c)) (fun v=>Lib.strSize v)
  case atStart=>exact ⟨s,hs,rfl,rfl⟩
  case round=>
    obtain ⟨l,hl,rfl,he⟩:=hrel
    have hE:=hid he
    clear he
    cases l with
    | nil=>
      have h1:(⟨([]:List UInt8).toArray⟩:ByteArray).size=0:=rfl
      go_wp2
      go_ret
      exact ⟨by rw [← hE.out];rfl,rfl⟩
    | cons x l=>
      have h1:(⟨(x::l).toArray⟩:ByteArray).size=l.length+1:=by rw [Lib.size_mk];simp
      have h2:(⟨(x::l).toArray⟩:ByteArray).extract 1 (l.length+1)=⟨l.toArray⟩:=by
        rw [Lib.extract_mk];simp
      have hx:∀ h,(⟨(x::l).toArray⟩:ByteArray)[0]'h=x:=fun h=>rfl
      have hl':l.length≤999999999:=by simpa using hl
      clear hl
      by_cases hc:x=c
      · subst hc
        have hd:(x::l).dropWhile (· == x)=l.dropWhile (· == x):=by simp
        go_wp2
        refine ⟨⟨l,by omega,rfl,by rw [← hE.out,hd]⟩,?_⟩
        rw [Lib.strSize_string,Lib.strSize_string,h1,Lib.size_mk]
        omega
      · have hne : (((x.toNat : Nat) : Int) == ((c.toNat : Nat) : Int)) = false := by
          have:x.toNat≠c.toNat:=fun e=>hc (UInt8.toNat_inj.1 e)
          rw [beq_eq_false_iff_ne]
          omega
        have hd:(x::l).dropWhile (· == c)=x::l:=by
          rw [List.dropWhile_cons,if_neg (by simpa using hc)]
        go_wp2
        go_ret
        exact ⟨by rw [← hE.out,hd];rfl,rfl⟩
theorem trimLeft_fn (s:List UInt8) (hs:s.length≤1000000000) (w:World):Calls Tryz.prog 209 #[.string ⟨s.toArray⟩,.string ⟨#[48]⟩] w fun e w'=>e=.returned (.string ⟨(s.dropWhile (· == 48)).toArray⟩)∧w'=w:=by
 have hc:Calls Tryz.prog 221 #[.string ⟨s.toArray⟩,.int .u8 48] w fun e w'=>e=.returned (.string ⟨(s.dropWhile (· == 48)).toArray⟩)∧w'=w:=trimLeft1 s hs 48 w
 have hc:=hid hc
 go_enter Tryz.func209,Tryz.ntmps209
 cases s with
 | nil=>
  go_wp2
  go_ret
  exact ⟨rfl,rfl⟩
 | cons x l=>
  have hne:(x::l == ([]:List UInt8))=false:=rfl
  have hx:∀ h,(⟨#[48]⟩:ByteArray)[0]'h=48:=fun h=>rfl
  go_wp2_with fail
  (with_reducible refine hc.out.mono ?_);rintro e w' ⟨rfl,rfl⟩
  go_wp2
  go_ret
  exact ⟨rfl,rfl⟩
end Go.Proofs.YtbilphfbfnohmaaGreatDoor
namespace Go.Proofs.YtbilphfbfnohmaaGreatDoor
open Go.RowKit
def rOK (b:Nat) (l:List UInt8):Bool:=!l.isEmpty && l.all (fun c=>decide (valOf c<b))
def numFrom (b n:Nat) (l:List UInt8):Nat:=l.foldl (fun n c=>n*b+valOf c) n
def numOf (b:Nat) (l:List UInt8):Nat:=numFrom b 0 l
def PNum (w:World) (v:Value) (z:Int):Prop:=∃ n lg,NumV w v n (decide (z<0)) lg∧(lg=false→n=z.natAbs)∧lg=decide (big600≤z.natAbs)∧nlen n≤1000
def PNumO (w:World) (base:Nat) (v:Value) (z:Int):Prop:=∃ s n lg,v=.agg #[s,.bool (decide (z<0)),.bool lg]∧Own .u32 173 w base s (nlen n) (D n)∧(lg=false→n=z.natAbs)∧lg=decide (big600≤z.natAbs)∧nlen n≤1000
theorem PNumO.num {w:World} {base:Nat} {v:Value} {z:Int} (h:PNumO w base v z):PNum w v z:=by
 obtain ⟨s,n,lg,h0,h1,h2,h3,h4⟩:=h
 exact ⟨n,lg,⟨s,h0,h1.nat⟩,h2,h3,h4⟩
theorem PNumO.mono {w:World} {base base':Nat} {v:Value} {z:Int} (h:PNumO w base v z) (hb:base'≤base):PNumO w base' v z:=by
 obtain ⟨s,n,lg,h0,h1,h2,h3,h4⟩:=h
 exact ⟨s,n,lg,h0,h1.mono hb,h2,h3,h4⟩
theorem PNumO.set3 {w:World} {base b:Nat} {v:Value} {z:Int} (h:PNumO w base v z) (hb:b<base) (x y t:Value):PNumO (((w.setCell ⟨b,0,none⟩ x).setCell ⟨b,1,none⟩ y).setCell ⟨b,2,none⟩ t) base v z:=by
 obtain ⟨s,n,lg,h0,h1,h2,h3,h4⟩:=h
 exact ⟨s,n,lg,h0,own_set3 h1 x y t hb,h2,h3,h4⟩
theorem PNum.below {w w':World} {v:Value} {z:Int} (h:PNum w v z) (hb:Below w.heap.size w w'):PNum w' v z:=by
 obtain ⟨n,lg,h1,h2,h3,h4⟩:=h
 exact ⟨n,lg,h1.below hb,h2,h3,h4⟩
theorem PNum.int {w:World} {v:Value} {z:Int} (h:PNum w v z) (hz:z.natAbs<big600):IntV w v z∧nlen z.natAbs≤1000:=by
 obtain ⟨n,lg,h1,h2,h3,h4⟩:=h
 have h5:lg=false:=by rw [h3];exact decide_eq_false (by omega)
 have h6:=h2 h5
 subst h6
 rw [h5] at h1
 exact ⟨h1,h4⟩
theorem numFrom_ge (b:Nat) (hb:2≤b) (l:List UInt8) (n:Nat):n*2 ^ l.length≤numFrom b n l:=by
 induction l generalizing n with
 | nil=>simp [numFrom]
 | cons c l ih=>
  have h1:=ih (n*b+valOf c)
  have h2:n*2≤n*b+valOf c:=Nat.le_trans (Nat.mul_le_mul_left n hb) (Nat.le_add_right _ _)
  have h3:=Nat.mul_le_mul_right (2 ^ l.length) h2
  have e:n*2 ^ (c::l).length=n*2*2 ^ l.length:=by
   rw [List.length_cons,Nat.pow_succ,Nat.mul_assoc,Nat.mul_comm 2]
  rw [e]
  exact Nat.le_trans h3 h1
theorem numFrom_mono (b:Nat) (hb:2≤b) (l:List UInt8) (n:Nat):n≤numFrom b n l:=by
 have h1:=numFrom_ge b hb l n
 have h2:n*1≤n*2 ^ l.length:=Nat.mul_le_mul_left n Nat.one_le_two_pow
 omega
theorem valOf_zero:valOf 48=0:=by decide
theorem numOf_trim (b:Nat) (l:List UInt8):numOf b (l.dropWhile (· == 48))=numOf b l:=by
 induction l with
 | nil=>rfl
 | cons c l ih=>
  by_cases h:c=48
  ·subst h
   rw [List.dropWhile_cons,if_pos (by simp),ih]
   simp [numOf,numFrom,valOf_zero]
  ·rw [List.dropWhile_cons,if_neg (by simpa using h)]
theorem valOf_eq_zero (c:UInt8) (h:valOf c=0):c=48:=by
 unfold valOf at h
 have h2:c.toNat=48:=by
  split at h
  ·omega
  ·split at h
   ·omega
   ·split at h<;>omega
 exact UInt8.toNat_inj.1 (by rw [h2];rfl)
theorem numOf_long (b:Nat) (hb:2≤b) (l:List UInt8):2 ^ (l.dropWhile (· == 48)).length≤2*numOf b l∨l.dropWhile (· == 48)=[]:=by
 rw [← numOf_trim]
 cases h:l.dropWhile (· == 48) with
 | nil=>exact .inr rfl
 | cons c t=>
  left
  have hne:c≠48:=by
   have:=List.head?_dropWhile_not (fun x=>x == 48) l
   rw [h] at this
   simpa using this
  have h1:1≤valOf c:=by
   rcases Nat.eq_zero_or_pos (valOf c) with h0 | h0
   ·exact absurd (valOf_eq_zero c h0) hne
   ·exact h0
  have h2:numOf b (c::t)=numFrom b (valOf c) t:=by simp [numOf,numFrom]
  have h3:=numFrom_ge b hb t (valOf c)
  have h4:=Nat.mul_le_mul_right (2 ^ t.length) h1
  rw [h2,List.length_cons,Nat.pow_succ]
  omega
theorem numOf_take_succ (b:Nat) (l:List UInt8) (i:Nat) (h:i<l.length):numOf b (l.take (i+1))=numOf b (l.take i)*b+valOf (l[i]'h):=by
 rw [List.take_add_one,List.getElem?_eq_getElem h]
 unfold numOf numFrom
 rw [List.foldl_append]
 rfl
theorem numOf_take_le (b:Nat) (hb:2≤b) (l:List UInt8) (i:Nat):numOf b (l.take i)≤numOf b l:=by
 have e:numOf b l=numFrom b (numOf b (l.take i)) (l.drop i):=by
  conv=>lhs;rw [← List.take_append_drop i l]
  unfold numOf numFrom
  rw [List.foldl_append]
 rw [e]
 exact numFrom_mono b hb _ _
end Go.Proofs.YtbilphfbfnohmaaGreatDoor
namespace Go.Proofs.YtbilphfbfnohmaaGreatDoor
open Go.RowKit
set_option maxRecDepth 100000 in
set_option maxHeartbeats 1000000 in
theorem small_nat {v:Value} {n:Nat} {w:World} (h:NatRep w v n) (hl:nlen n≤100000000) (k c:Nat) (hk:k<4294967296) (hc:c<4294967296) :
    Calls Tryz.prog 210 #[v,.int .u32 k,.int .u32 c] w (Fresh (n*k+c) w):=by
  obtain ⟨a,cap,rfl⟩:=h.shape
  go_enter Tryz.func210,Tryz.ntmps210
  go_wp2
  go_loopw [7, 8, 10, 15] (fun out carry _ i wr => ∃ j : Nat, i = .int .i64 j ∧ j ≤ nlen n ∧ Own .u32 173 wr w.heap.size out j (D (n * k + c)) ∧ carry = .int .u64 (cySmall n k c j) ∧ Below w.heap.size w wr)
     (fun _ _ _ i _ => nlen n - (intOf i).toNat)
  case atStart=>exact ⟨0,rfl,Nat.zero_le _,Own.nil,by rw [cySmall_zero],Below.refl _ _⟩
  case round=>
    obtain ⟨j,rfl,hj,hown,rfl,hb⟩:=hrel
    have hcy:=cySmall_lt n k c j hk hc
    by_cases hlt:j<nlen n
    · obtain ⟨a',cap',hv,_,hcell⟩:=h.below hb
      simp only [Value.slice.injEq,true_and] at hv
      obtain ⟨rfl,rfl⟩:=hv
      obtain ⟨b,off,rfl,_,hc0⟩:=hcell (by omega)
      have hcj:=hc0 j hlt
      have hd:=D_lt n j
      have hw1:=tSmall_mul n k j hk
      have hw2:=tSmall_wrap n k c j hk hc
      have hw3:=tSmall_mod n k c j
      have hw4:=tSmall_div n k c j
      have hsz:=hb.size
      go_wp2_with (at_builtin;refine app_u32 rfl _ _ rfl w.heap.size _ j _ rfl hown _ rfl rfl (by omega) hsz ?_;intro v' w1 hown1 hb1)
      go_roundw
      case rel=>exact ⟨j+1,by go_num,by omega,hown1,rfl,hb.trans (hb1.mono (by omega))⟩
      case measure=>simp [intOf]<;>omega
    · obtain rfl:j=nlen n:=by omega
      have hw3:=hid (cySmall_last n k c hk hc)
      have hsz:=hb.size
      go_wp2_with (at_builtin;refine app_u32 rfl _ _ rfl w.heap.size _ (nlen n) _ rfl hown _ rfl hw3.out (by omega) hsz ?_;intro v' w1 hown1 hb1)
      refine (trimmed_own hown1 (by omega) (small_lt n k c hk hc)).mono ?_
      rintro e w2 ⟨⟨v2,rfl,hown2⟩,rfl⟩
      go_wp2
      go_ret
      exact ⟨v2,rfl,hown2,hb.trans (hb1.mono (by omega))⟩
end Go.Proofs.YtbilphfbfnohmaaGreatDoor
namespace Go.Proofs.YtbilphfbfnohmaaGreatDoor
open Go.RowKit
def ReadP (b:Nat) (l:List UInt8) (neg:Bool) (w:World) (e:Ending) (w':World):Prop:=
 ∃ v,e=.returned (.tuple #[v,.bool (rOK b l)])∧Below w.heap.size w w'∧(rOK b l=true→PNumO w' w.heap.size v (sgnInt neg (numOf b l)))∧(∃ a n c g h,v=.agg #[.slice a n c,.bool g,.bool h])
theorem sgnInt_abs (neg:Bool) (n:Nat):(sgnInt neg n).natAbs=n:=by cases neg<;>simp [sgnInt]
theorem sgnInt_neg (neg:Bool) (n:Nat):decide (sgnInt neg n<0)=(neg && decide (0<n)):=by
 cases neg
 ·simp [sgnInt]
 ·by_cases h:0<n
  ·simp [sgnInt,h]
  ·have:n=0:=by omega
   subst this;rfl
theorem nlen_of_bits (n e:Nat) (h:nbits n≤e):nlen n≤e / 32+1:=by
 rw [nlen_le_iff]
 have h1:=(nbits_le_iff n e).1 h
 exact Nat.lt_of_lt_of_le h1 (Nat.pow_le_pow_right (by decide) (by omega))
theorem bits_small (n b c e:Nat) (h:nbits n≤e) (hb:b≤36) (hc:c≤36):nbits (n*b+c)≤e+6:=by
 rw [nbits_le_iff]
 have h1:=(nbits_le_iff n e).1 h
 have h2:=Nat.mul_le_mul_left n hb
 rw [Nat.pow_add]
 generalize 2 ^ e=X at h1 ⊢
 omega
theorem big_of_bits (m:Nat) (h:¬ nbits m≤2010):big600≤m:=by
 rcases Nat.lt_or_ge m big600 with h1 | h1
 ·exact absurd (bits_2010 m h1) h
 ·exact h1
theorem big_of_len (n k e:Nat) (hk:e<k) (h:2 ^ k≤2*n) (he:big600≤2 ^ e):big600≤n:=by
 have h1:2 ^ (e+1)≤2 ^ k:=Nat.pow_le_pow_right (by decide) hk
 rw [Nat.pow_succ] at h1
 generalize 2 ^ k=X at *
 generalize 2 ^ e=Y at *
 omega
theorem big600_pos:0<big600:=by
 unfold big600
 exact Nat.pow_pos (Nat.pow_pos (Nat.pow_pos (by decide)))
theorem PNum.mkLong {w:World} {base:Nat} {neg:Bool} {N:Nat} (h:big600≤N):PNumO w base (.agg #[.slice none 0 0,.bool neg,.bool true]) (sgnInt neg N):=by
 refine ⟨_,0,true,?_,Own.nil,fun h=>(by cases h),?_,by decide⟩
 ·have:=big600_pos
  rw [sgnInt_neg,decide_eq_true (show 0<N by omega),Bool.and_true]
 ·rw [sgnInt_abs,decide_eq_true h]
theorem rOK_bad (b:Nat) (l:List UInt8) (i:Nat) (h:i<l.length) (hv:¬ valOf (l[i]'h)<b):rOK b l=false:=by
 unfold rOK
 have:l.all (fun c=>decide (valOf c<b))=false:=by
  rw [List.all_eq_false]
  exact ⟨l[i]'h,List.getElem_mem h,by simpa using hv⟩
 rw [this,Bool.and_false]
theorem rOK_good (b:Nat) (l:List UInt8) (h:∀ i (h:i<l.length),valOf (l[i]'h)<b) (h0:l≠[]):rOK b l=true:=by
 unfold rOK
 have h1:l.all (fun c=>decide (valOf c<b))=true:=by
  rw [List.all_eq_true]
  intro c hc
  obtain ⟨i,hi,rfl⟩:=List.getElem_of_mem hc
  exact decide_eq_true (h i hi)
 rw [h1,Bool.and_true]
 cases l with
 | nil=>exact absurd rfl h0
 | cons=>rfl
set_option maxRecDepth 100000 in
set_option maxHeartbeats 4000000 in
theorem read_fn (l:List UInt8) (hl:l.length≤1000000000) (b:Nat) (hb2:2≤b) (hb36:b≤36) (neg:Bool) (w:World) :
    Calls Tryz.prog 188 #[.string ⟨l.toArray⟩,.int .i64 b,.bool neg] w (ReadP b l neg w):=by
  have hsz:(⟨l.toArray⟩:ByteArray).size=l.length:=Lib.size_mk _
  have k0:=Blk.new w #[.slice none 0 0,.bool false,.bool false] 156
  have hb0:Below w.heap.size w (w.alloc (.cells #[.slice none 0 0,.bool false,.bool false] 156)):=(Below.refl _ _).alloc (Nat.le_refl _) _
  have hsz0:(w.alloc (.cells #[.slice none 0 0,.bool false,.bool false] 156)).heap.size=w.heap.size+1:=by simp
  go_enter Tryz.func188,Tryz.ntmps188
  go_wp2
  generalize w.alloc (.cells #[.slice none 0 0,.bool false,.bool false] 156)=W at *
  go_loop [14] (fun iv=>∃ i:Nat,iv=.int .i64 i∧i≤l.length∧∀ j (h:j<l.length),j<i→valOf (l[j]'h)<b) (fun iv=>l.length-(intOf iv).toNat)
  case atStart=>exact ⟨0,rfl,Nat.zero_le _,fun j _ h=>absurd h (Nat.not_lt_zero _)⟩
  case round=>
    obtain ⟨i,rfl,hi,hall⟩:=hrel
    have hA:=hid hall
    clear hall
    obtain ⟨⟨p1,p2,p3⟩,q1,q2,q3⟩:=k0.three
    by_cases hlt:i<l.length
    · have hx:∀ h,(⟨l.toArray⟩:ByteArray)[i]'h=l[i]'hlt:=fun h=>rfl
      have hc:=hid (value_fn (l[i]'hlt) W)
      by_cases hv:valOf (l[i]'hlt)<b
      · go_wp2_with fail
        (with_reducible refine hc.out.mono ?_);rintro e w' ⟨rfl,rfl⟩
        go_wp2
        refine ⟨⟨i+1,by go_num,by omega,fun j h hj=>?_⟩,?_⟩
        · rcases Nat.lt_or_ge j i with h1 | h1
          · exact hA.out j h h1
          · obtain rfl:j=i:=by omega
            exact hv
        · simp [intOf]<;>omega
      · have hbad:=rOK_bad b l i hlt hv
        go_wp2_with fail
        (with_reducible refine hc.out.mono ?_);rintro e w' ⟨rfl,rfl⟩
        go_wp2
        refine bodyPost_ret (v:=.tuple #[.agg #[.slice none 0 0,.bool false,.bool false],.bool false]) (by simp [results,Tryz.results188,go_sem,p1,p2,p3]) rfl ⟨_,by rw [hbad],?_,fun h=>absurd h (by rw [hbad];decide),⟨_,_,_,_,_,rfl⟩⟩
        exact ((hb0.setCell (p:=⟨w.heap.size,0,none⟩) (by simp) _).setCell (p:=⟨w.heap.size,1,none⟩) (by simp) _).setCell (p:=⟨w.heap.size,2,none⟩) (by simp) _
    · obtain rfl:i=l.length:=by omega
      have hgood:l≠[]→rOK b l=true:=rOK_good b l (fun j h=>hA.out j h h)
      have hG:=hid hgood
      clear hgood hA
      have hc:=hid (trimLeft_fn l hl W)
      have hlong:=hid (numOf_long b hb2 l)
      have htr:=hid (numOf_trim b l)
      have htl:(l.dropWhile (· == 48)).length≤1000000000:=Nat.le_trans (List.dropWhile_sublist _).length_le hl
      generalize ht:l.dropWhile (· == 48)=t at *
      clear ht
      have htsz:(⟨t.toArray⟩:ByteArray).size=t.length:=Lib.size_mk _
      cases hle:l == ([]:List UInt8)
      · have hgood:=hG.out (fun e=>by rw [e] at hle;exact absurd hle (by decide))
        go_wp2_with fail
        (with_reducible refine hc.out.mono ?_);rintro e w' ⟨rfl,rfl⟩
        by_cases hlen:t.length≤2010
        · go_wp2
          go_loopw [9,37] (fun sv iv wr=>∃ i:Nat,iv=.int .i64 i∧i≤t.length∧Own .u32 173 wr (w.heap.size+1) sv (nlen (numOf b (t.take i))) (D (numOf b (t.take i)))∧nbits (numOf b (t.take i))≤2010∧Below w.heap.size w wr∧Blk wr w.heap.size #[.slice none 0 0,.bool false,.bool false] 156) (fun _ iv _=>t.length-(intOf iv).toNat)
          case atStart=>exact ⟨0,rfl,Nat.zero_le _,Own.nil,by show nbits 0≤2010;decide,hb0,k0⟩
          case round=>
            obtain ⟨i,rfl,hi,hov,hbi,hbr,kr⟩:=hrel
            have hsv:=hov.nat
            obtain ⟨a,cap,rfl⟩:=hsv.shape
            have hnl:=nlen_of_bits _ _ hbi
            by_cases hlt:i<t.length
            · have hx:∀ h,(⟨t.toArray⟩:ByteArray)[i]'h=t[i]'hlt:=fun h=>rfl
              have hcv:=hid (value_fn (t[i]'hlt) wr)
              have hv36:=valOf_le (t[i]'hlt)
              have hbw:IntKind.u32.wrap (b:Int)=b:=by rw [wrap_u32_nat,Nat.mod_eq_of_lt (by omega)]
              have hvw:IntKind.u32.wrap (valOf (t[i]'hlt):Int)=valOf (t[i]'hlt):=by rw [wrap_u32_nat,Nat.mod_eq_of_lt (by omega)]
              have hcs:=hid (small_nat hsv (by omega) b (valOf (t[i]'hlt)) (by omega) (by omega))
              have hbs:=bits_small _ b (valOf (t[i]'hlt)) _ hbi hb36 hv36
              have hstep:=numOf_take_succ b t i hlt
              rw [← hstep] at hcs hbs
              have hnl2:=nlen_of_bits _ _ hbs
              have hTL:=hid (numOf_take_le b hb2 t (i+1))
              clear hstep hbs
              go_wp2_with fail
              (with_reducible refine hcv.out.mono ?_);rintro e w' ⟨rfl,rfl⟩
              go_wp2_with fail
              (with_reducible refine hcs.out.mono ?_);rintro e w1 ⟨u,rfl,hu,hb1⟩
              obtain ⟨ua,uc,rfl⟩:=hu.shape
              have hcb:=hid (bits_nat hu.nat (by omega))
              have hbw1:=hbr.trans (hb1.mono hbr.size)
              have k1:=kr.later hb1
              obtain ⟨⟨p1,p2,p3⟩,q1,q2,q3⟩:=k1.three
              go_wp2_with fail
              (with_reducible refine hcb.out.mono ?_);rintro e w' ⟨rfl,rfl⟩
              by_cases hbits:nbits (numOf b (t.take (i+1)))≤2010
              · go_wp2
                go_roundw
                case rel=>exact ⟨i+1,by go_num,by omega,hu.mono kr.lt,hbits,hbw1,k1⟩
                case measure=>simp [intOf]<;>omega
              · have hbig : big600 ≤ numOf b l := by
                  have h1:=big_of_bits _ hbits
                  have h2:=hTL.out
                  rw [htr.out] at h2
                  omega
                have hbits':2010<nbits (numOf b (t.take (i+1))):=by omega
                clear hbits
                go_wp2
                refine bodyPost_ret (v:=.tuple #[.agg #[.slice none 0 0,.bool neg,.bool true],.bool true]) (by simp [results,Tryz.results188,go_sem,p1,p2,p3]) rfl ⟨_,by rw [hgood],?_,fun _=>PNum.mkLong hbig,⟨_,_,_,_,_,rfl⟩⟩
                exact ((hbw1.setCell (p:=⟨w.heap.size,0,none⟩) (by simp) _).setCell (p:=⟨w.heap.size,1,none⟩) (by simp) _).setCell (p:=⟨w.heap.size,2,none⟩) (by simp) _
            · obtain rfl:i=t.length:=by omega
              rw [List.take_length,htr.out] at hsv hbi hov
              rw [List.take_length,htr.out] at hnl
              clear hlong hc
              have hcc:¬ t.length<t.length:=by omega
              rw [List.take_length,htr.out]
              generalize hN:numOf b l=N at *
              have HN:=hid hN
              clear hN
              have hco:=hid (of_nat hsv neg (by omega))
              go_wp2_with fail
              (with_reducible refine hco.out.mono ?_);rintro e w1 ⟨rfl,hb1⟩
              have hbw1:=hbr.trans (hb1.mono hbr.size)
              have k1:=kr.later hb1
              obtain ⟨⟨p1,p2,p3⟩,q1,q2,q3⟩:=k1.three
              have hs1:=hsv.below hb1
              have kA:=Blk.new w1 #[.slice a (nlen N) cap,.bool (neg && decide (0<N)),.bool false] 156
              have hbA:Below w1.heap.size w1 (w1.alloc (.cells #[.slice a (nlen N) cap,.bool (neg && decide (0<N)),.bool false] 156)):=(Below.refl _ _).alloc (Nat.le_refl _) _
              have hs2:=hs1.below hbA
              have hcd:=hid (decimal_nat hs2 (by omega))
              have hdsz:(⟨(strOf 10 N).toArray⟩:ByteArray).size=dlen 10 N:=by rw [Lib.size_mk,strOf_length]
              have hdb:=dlen_bound 10 N (by decide)
              have hdb2:dlen 10 N≤100000:=by omega
              clear hdb
              go_wp2_with fail
              (with_reducible refine hcd.out.mono ?_);rintro e w2 ⟨rfl,hb2⟩
              have hs3:=hs2.below hb2
              have kA2:=kA.later hb2
              have kR2:=(k1.alloc (.cells #[.slice a (nlen N) cap,.bool (neg && decide (0<N)),.bool false] 156)).later hb2
              obtain ⟨⟨a1,a2,a3⟩,a4,a5,a6⟩:=kA2.three
              obtain ⟨⟨r1,r2,r3⟩,r4,r5,r6⟩:=kR2.three
              clear p1 p2 p3 q1 q2 q3
              have hlt1:=k1.lt
              have hbw2:Below w.heap.size w w2:=hbw1.trans ((hbA.mono hbw1.size).trans (hb2.mono (by simp;have:=hbw1.size;omega)))
              go_wp2
              have hbZ:Below w1.heap.size w1 (w2.setCell ⟨w1.heap.size,2,none⟩ (.bool (decide ((600:Int)<(dlen 10 N:Nat))))):=(hbA.trans (hb2.mono (by simp))).setCell (p:=⟨w1.heap.size,2,none⟩) (Nat.le_refl _) _
              have hov1:=hov.keep hb1 (Nat.le_refl _)
              have hovZ:=own_set3 (hov1.keep hbZ (Nat.le_refl _)) (.slice a (nlen N) cap) (.bool (neg && decide (0<N))) (.bool (decide ((600:Int)<(dlen 10 N:Nat)))) (b:=w.heap.size) (by omega)
              have hbF:=(((hbw1.trans (hbZ.mono hbw1.size)).setCell (p:=⟨w.heap.size,0,none⟩) (Nat.le_refl _) (.slice a (nlen N) cap)).setCell (p:=⟨w.heap.size,1,none⟩) (Nat.le_refl _) (.bool (neg && decide (0<N)))).setCell (p:=⟨w.heap.size,2,none⟩) (Nat.le_refl _) (.bool (decide ((600:Int)<(dlen 10 N:Nat))))
              refine bodyPost_ret (v:=.tuple #[.agg #[.slice a (nlen N) cap,.bool (neg && decide (0<N)),.bool (decide ((600:Int)<(dlen 10 N:Nat)))],.bool true]) (by simp [results,Tryz.results188,go_sem,r1,r2,r3]) rfl ⟨_,by rw [hgood],hbF,fun _=>?_,⟨_,_,_,_,_,rfl⟩⟩
              rw [HN.out]
              refine ⟨_,N,_,by rw [sgnInt_neg],hovZ.mono (by omega),fun _=>(sgnInt_abs neg N).symm,?_,by omega⟩
              rw [sgnInt_abs]
              have h1:=digits_600 N
              by_cases h2:N<big600
              · have h3:=h1.2 h2
                rw [decide_eq_false (by omega),decide_eq_false (by omega)]
              · have h3:¬ dlen 10 N≤600:=fun h=>h2 (h1.1 h)
                rw [decide_eq_true (by omega),decide_eq_true (by omega)]
        · have hbig : big600 ≤ numOf b l := by
            rcases hlong.out with h1 | h1
            · exact big_of_len _ _ 2010 (by omega) h1 big600_le
            · rw [h1] at hlen;simp at hlen
          go_wp2
          refine bodyPost_ret (v:=.tuple #[.agg #[.slice none 0 0,.bool neg,.bool true],.bool true]) (by simp [results,Tryz.results188,go_sem,p1,p2,p3]) rfl ⟨_,by rw [hgood],?_,fun _=>PNum.mkLong hbig,⟨_,_,_,_,_,rfl⟩⟩
          exact ((hb0.setCell (p:=⟨w.heap.size,0,none⟩) (by simp) _).setCell (p:=⟨w.heap.size,1,none⟩) (by simp) _).setCell (p:=⟨w.heap.size,2,none⟩) (by simp) _
      · have hnil:l=[]:=by simpa using hle
        subst hnil
        have hbad:rOK b []=false:=rfl
        go_wp2
        refine bodyPost_ret (v:=.tuple #[.agg #[.slice none 0 0,.bool false,.bool false],.bool false]) (by simp [results,Tryz.results188,go_sem,p1,p2,p3]) rfl ⟨_,by rw [hbad],?_,fun h=>absurd h (by rw [hbad];decide),⟨_,_,_,_,_,rfl⟩⟩
        exact ((hb0.setCell (p:=⟨w.heap.size,0,none⟩) (by simp) _).setCell (p:=⟨w.heap.size,1,none⟩) (by simp) _).setCell (p:=⟨w.heap.size,2,none⟩) (by simp) _
end Go.Proofs.YtbilphfbfnohmaaGreatDoor
namespace Go.Proofs.YtbilphfbfnohmaaGreatDoor
open Go.RowKit
def strip (l:List UInt8):List UInt8:=((l.dropWhile isWh).reverse.dropWhile isWh).reverse
def pNeg (s:List UInt8):Bool:=([45]:List UInt8).isPrefixOf s
def pRest (s:List UInt8):List UInt8:=if ([45]:List UInt8).isPrefixOf s || ([43]:List UInt8).isPrefixOf s then s.tail else s
def pBase (s:List UInt8):Nat:=if ([48,120]:List UInt8).isPrefixOf s then 16 else if ([48,111]:List UInt8).isPrefixOf s then 8 else if ([48,98]:List UInt8).isPrefixOf s then 2 else 10
def pBody (s:List UInt8):List UInt8:=if ([48,120]:List UInt8).isPrefixOf s || ([48,111]:List UInt8).isPrefixOf s || ([48,98]:List UInt8).isPrefixOf s then s.drop 2 else s
def pOK (l:List UInt8):Bool:=rOK (pBase (pRest (strip l))) (pBody (pRest (strip l)))
def pVal (l:List UInt8):Int:=sgnInt (pNeg (strip l)) (numOf (pBase (pRest (strip l))) (pBody (pRest (strip l))))
theorem nil_or_snoc (t:List UInt8):t=[]∨∃ u x,t=u++[x]:=by
 rcases List.eq_nil_or_concat t with h | ⟨u,x,h⟩
 ·exact .inl h
 ·exact .inr ⟨u,x,by rw [h,List.concat_eq_append]⟩
theorem read_at (T:List UInt8) (hT:T.length≤1000000000) (b:Nat) (B:Int) (hB:B=(b:Int)) (hb2:2≤b) (hb36:b≤36) (neg:Bool) (w:World) :
  Calls Tryz.prog 188 #[.string ⟨T.toArray⟩,.int .i64 B,.bool neg] w (ReadP b T neg w):=by
 subst hB
 exact read_fn T hT b hb2 hb36 neg w
theorem strip_len (l:List UInt8):(strip l).length≤l.length:=by
 unfold strip
 rw [List.length_reverse]
 refine Nat.le_trans (List.dropWhile_sublist _).length_le ?_
 rw [List.length_reverse]
 exact (List.dropWhile_sublist _).length_le
theorem sign_cases (S:List UInt8):∃ T,pRest S=T∧(S=45::T∧pNeg S=true∨S=43::T∧pNeg S=false∧([45]:List UInt8).isPrefixOf S=false∧([43]:List UInt8).isPrefixOf S=true∨S=T∧pNeg S=false∧([45]:List UInt8).isPrefixOf S=false∧([43]:List UInt8).isPrefixOf S=false):=by
 refine ⟨_,rfl,?_⟩
 cases S with
 | nil=>right;right;exact ⟨rfl,rfl,rfl,rfl⟩
 | cons x S=>
  by_cases h1:x=45
  ·subst h1
   left
   exact ⟨by simp [pRest,List.isPrefixOf],by simp [pNeg,List.isPrefixOf]⟩
  ·by_cases h2:x=43
   ·subst h2
    right;left
    exact ⟨by simp [pRest,List.isPrefixOf],by simp [pNeg,List.isPrefixOf],by simp [List.isPrefixOf],by simp [List.isPrefixOf]⟩
   ·right;right
    have e1:(45 == x)=false:=by simpa using fun h=>h1 h.symm
    have e2:(43 == x)=false:=by simpa using fun h=>h2 h.symm
    exact ⟨by simp [pRest,List.isPrefixOf,e1,e2],by simp [pNeg,List.isPrefixOf,e1],by simp [List.isPrefixOf,e1],by simp [List.isPrefixOf,e2]⟩
theorem cut2 (T:List UInt8) (p q:UInt8) (hT:T.length≤1000000000) (w:World) (b:Bool) (hb:([p,q]:List UInt8).isPrefixOf T=b):Calls Tryz.prog 61 #[.string ⟨T.toArray⟩,.string ⟨#[p,q]⟩] w fun e w'=>e=.returned (if b then .tuple #[.string ⟨(T.drop 2).toArray⟩,.bool true] else .tuple #[.string ⟨T.toArray⟩,.bool false])∧w'=w:=by
 have h:=cutPrefix_fn T [p,q] hT (by simp) w
 rw [hb] at h
 exact h
theorem pre1 (S:List UInt8) (p:UInt8) (hS:S.length≤1000000000) (w:World) (b:Bool) (hb:([p]:List UInt8).isPrefixOf S=b):Calls Tryz.prog 75 #[.string ⟨S.toArray⟩,.string ⟨#[p]⟩] w fun e w'=>e=.returned (.bool b)∧w'=w:=by
 have h:=hasPrefix_fn S [p] hS (by simp) w
 rw [hb] at h
 exact h
theorem ix0 (w:World):(Instr.index 204 (.agg #[.string ⟨#[48,120]⟩,.int .i64 16,.string ⟨#[48,111]⟩,.int .i64 8,.string ⟨#[48,98]⟩,.int .i64 2]) (.int .i64 0)).run Tryz.prog w=.ok (.agg #[.string ⟨#[48,120]⟩,.int .i64 16]) w:=by kernel_rfl
theorem ix1 (w:World):(Instr.index 204 (.agg #[.string ⟨#[48,120]⟩,.int .i64 16,.string ⟨#[48,111]⟩,.int .i64 8,.string ⟨#[48,98]⟩,.int .i64 2]) (.int .i64 1)).run Tryz.prog w=.ok (.agg #[.string ⟨#[48,111]⟩,.int .i64 8]) w:=by kernel_rfl
theorem ix2 (w:World):(Instr.index 204 (.agg #[.string ⟨#[48,120]⟩,.int .i64 16,.string ⟨#[48,111]⟩,.int .i64 8,.string ⟨#[48,98]⟩,.int .i64 2]) (.int .i64 2)).run Tryz.prog w=.ok (.agg #[.string ⟨#[48,98]⟩,.int .i64 2]) w:=by kernel_rfl
def ParseP (l:List UInt8) (w:World) (e:Ending) (w':World):Prop:=
 ∃ v,e=.returned (.tuple #[v,.bool (pOK l)])∧Below w.heap.size w w'∧(pOK l=true→PNumO w' w.heap.size v (pVal l))∧(∃ a n c g h,v=.agg #[.slice a n c,.bool g,.bool h])
set_option maxRecDepth 100000 in
set_option maxHeartbeats 4000000 in
theorem parse_fn (l:List UInt8) (hl:l.length≤1000000000) (w:World) :
  Calls Tryz.prog 152 #[.string ⟨l.toArray⟩] w (ParseP l w):=by
 have k0:=Blk.new w #[.slice none 0 0,.bool false,.bool false] 156
 have hb0:Below w.heap.size w (w.alloc (.cells #[.slice none 0 0,.bool false,.bool false] 156)):=(Below.refl _ _).alloc (Nat.le_refl _) _
 have hsz0:(w.alloc (.cells #[.slice none 0 0,.bool false,.bool false] 156)).heap.size=w.heap.size+1:=by simp
 go_enter Tryz.func152,Tryz.ntmps152
 go_upto_block 0 with fail
 generalize w.alloc (.cells #[.slice none 0 0,.bool false,.bool false] 156)=W at *
 go_cut [0] from 9 to 17 (fun v wx=>v=.string ⟨(l.dropWhile isWh).toArray⟩∧W=wx)
 case first=>
  go_wp2_with fail
  go_loop [0] (fun v=>∃ t:List UInt8,t.length≤1000000000∧v=.string ⟨t.toArray⟩∧t.dropWhile isWh=l.dropWhile isWh) (fun v=>Lib.strSize v)
  case atStart=>exact ⟨l,hl,rfl,rfl⟩
  case round=>
   obtain ⟨t,ht,rfl,he⟩:=hrel
   have hE:=hid he
   clear he
   cases t with
   | cons x t=>
    have h1:(⟨(x::t).toArray⟩:ByteArray).size=t.length+1:=by rw [Lib.size_mk];simp
    have h2:(⟨(x::t).toArray⟩:ByteArray).extract 1 (t.length+1)=⟨t.toArray⟩:=by
     rw [Lib.extract_mk];simp
    have hx:∀ h,(⟨(x::t).toArray⟩:ByteArray)[0]'h=x:=fun h=>rfl
    have hne:(x::t == ([]:List UInt8))=false:=rfl
    have hl':t.length≤999999999:=by simpa using ht
    have hc:=hid (white_fn x W)
    clear ht
    go_wp2_with fail
    (with_reducible refine hc.out.mono ?_);rintro e w' ⟨rfl,rfl⟩
    cases hw:isWh x
    ·have hd:(x::t).dropWhile isWh=x::t:=by rw [List.dropWhile_cons,hw];rfl
     go_wp2
     go_meet
     case rel=>exact ⟨by rw [← hE.out,hd],rfl⟩
    ·have hd:(x::t).dropWhile isWh=t.dropWhile isWh:=by rw [List.dropWhile_cons,hw];rfl
     go_wp2
     refine ⟨⟨t,by omega,rfl,by rw [← hE.out,hd]⟩,?_⟩
     rw [Lib.strSize_string,Lib.strSize_string,h1,Lib.size_mk]
     omega
   | nil=>
    have h1:(⟨([]:List UInt8).toArray⟩:ByteArray).size=0:=rfl
    go_wp2
    go_meet
    case rel=>exact ⟨by rw [← hE.out];rfl,rfl⟩
 case rest=>
  obtain ⟨rfl,rfl⟩:=hcut
  have hL:(l.dropWhile isWh).length≤1000000000:=Nat.le_trans (List.dropWhile_sublist _).length_le hl
  go_upto_block 2 with fail
  go_cut [0] from 18 to 32 (fun v wx=>v=.string ⟨(strip l).toArray⟩∧W=wx)
  case first=>
   go_wp2_with fail
   go_loop [0] (fun v=>∃ t:List UInt8,t.length≤1000000000∧v=.string ⟨t.toArray⟩∧(t.reverse.dropWhile isWh).reverse=strip l) (fun v=>Lib.strSize v)
   case atStart=>exact ⟨_,hL,rfl,rfl⟩
   case round=>
    obtain ⟨t,ht,rfl,he⟩:=hrel
    have hE:=hid he
    clear he
    rcases nil_or_snoc t with rfl | ⟨t,x,rfl⟩
    ·have h1:(⟨([]:List UInt8).toArray⟩:ByteArray).size=0:=rfl
     go_wp2
     go_meet
     case rel=>exact ⟨by rw [← hE.out];rfl,rfl⟩
    ·have hre:(t++[x]).reverse=x::t.reverse:=by simp
     rw [hre] at hE
     have hE:=hid hE.out
     clear hre
     have h1:(⟨(t++[x]).toArray⟩:ByteArray).size=t.length+1:=by rw [Lib.size_mk];simp
     have h2:(⟨(t++[x]).toArray⟩:ByteArray).extract 0 t.length=⟨t.toArray⟩:=by
      rw [Lib.extract_mk];simp
     have hx:∀ h,(⟨(t++[x]).toArray⟩:ByteArray)[t.length]'h=x:=by
      intro h
      show (t++[x])[t.length]=x
      simp
     have hne:((t++[x]) == ([]:List UInt8))=false:=by cases t<;>rfl
     have hl':t.length≤999999999:=by simpa using ht
     have hc:=hid (white_fn x W)
     clear ht
     generalize hT:t++[x]=T at *
     have HT:=hid hT
     clear hT
     go_wp2_with fail
     (with_reducible refine hc.out.mono ?_);rintro e w' ⟨rfl,rfl⟩
     cases hw:isWh x
     ·have hd:(x::t.reverse).dropWhile isWh=x::t.reverse:=by rw [List.dropWhile_cons,hw];rfl
      go_wp2
      go_meet
      case rel=>exact ⟨by rw [← hE.out,hd];simp [HT.out],rfl⟩
     ·have hd:(x::t.reverse).dropWhile isWh=t.reverse.dropWhile isWh:=by rw [List.dropWhile_cons,hw];rfl
      go_wp2
      refine ⟨⟨t,by omega,rfl,by rw [← hE.out,hd]⟩,?_⟩
      rw [Lib.strSize_string,Lib.strSize_string,h1,Lib.size_mk]
      omega
  case rest=>
   obtain ⟨rfl,rfl⟩:=hcut
   have hS:(strip l).length≤1000000000:=Nat.le_trans (strip_len l) hl
   clear hL
   have hok:pOK l=rOK (pBase (pRest (strip l))) (pBody (pRest (strip l))):=rfl
   have hval:pVal l=sgnInt (pNeg (strip l)) (numOf (pBase (pRest (strip l))) (pBody (pRest (strip l)))):=rfl
   generalize strip l=S at *
   obtain ⟨T,hT,hcase⟩:=sign_cases S
   rw [hT] at hok hval
   clear hT
   have HOK:=hid hok
   have HVAL:=hid hval
   clear hok hval
   rcases hcase with ⟨rfl,hn⟩ | ⟨rfl,hn,hm,hp⟩ | ⟨hST,hn,hm,hp⟩
   ·rw [hn] at HVAL
    have hc1:=hid (pre1 _ 45 hS W true rfl)
    have h1:(⟨(45::T).toArray⟩:ByteArray).size=T.length+1:=by rw [Lib.size_mk];simp
    have h2:(⟨(45::T).toArray⟩:ByteArray).extract 1 (T.length+1)=⟨T.toArray⟩:=by rw [Lib.extract_mk];simp
    have hT':T.length≤999999999:=by simpa using hS
    go_upto_block 4 with (first | fail|(with_reducible refine hc1.out.mono ?_);rintro e w' ⟨rfl,rfl⟩)
    clear hc1 h1 h2 hS
    go_wp2_with fail
    go_loopw [46] (fun iv wr=>∃ i:Nat,iv=.int .i64 i∧i≤3∧(0<i→([48,120]:List UInt8).isPrefixOf T=false)∧(1<i→([48,111]:List UInt8).isPrefixOf T=false)∧(2<i→([48,98]:List UInt8).isPrefixOf T=false)∧Below w.heap.size w wr∧Blk wr w.heap.size #[.slice none 0 0,.bool false,.bool false] 156) (fun iv _=>3-(intOf iv).toNat)
    case atStart=>exact ⟨0,rfl,by decide,fun h=>absurd h (by decide),fun h=>absurd h (by decide),fun h=>absurd h (by decide),hb0,k0⟩
    case round=>
     obtain ⟨i,rfl,hi,n1,n2,n3,hbr,kr⟩:=hrel
     clear k0 hb0 hsz0
     have x0:=ix0
     have x1:=ix1
     have x2:=ix2
     have hd2:(T.drop 2).length≤1000000000:=by rw [List.length_drop];omega
     obtain rfl | rfl | rfl | rfl:i=0∨i=1∨i=2∨i=3:=by omega
     ·cases hpre:([48,120]:List UInt8).isPrefixOf T
      ·have hc:=hid (cut2 T 48 120 (by omega) (wr.alloc (.cells #[.string ⟨#[48,120]⟩,.int .i64 16] 203)) false hpre)
       have hbn:Below w.heap.size w (wr.alloc (.cells #[.string ⟨#[48,120]⟩,.int .i64 16] 203)):=hbr.alloc hbr.size _
       have kn:=kr.alloc (.cells #[.string ⟨#[48,120]⟩,.int .i64 16] 203)
       go_wp2_with fail
       (with_reducible refine hc.out.mono ?_);rintro e w' ⟨rfl,rfl⟩
       go_wp2
       go_roundw
       case rel=>exact ⟨1,rfl,by decide,(by first | trivial | exact fun _=>hpre),fun h=>absurd h (by decide),fun h=>absurd h (by decide),hbn,kn⟩
       case measure=>simp [intOf]
      ·have hc:=hid (cut2 T 48 120 (by omega) (wr.alloc (.cells #[.string ⟨#[48,120]⟩,.int .i64 16] 203)) true hpre)
       have hcr:=hid (read_at (T.drop 2) hd2 16 16 rfl (by decide) (by decide) true (wr.alloc (.cells #[.string ⟨#[48,120]⟩,.int .i64 16] 203)))
       have e1:pBase T=16:=by simp [pBase,hpre]
       have e2:pBody T=T.drop 2:=by simp [pBody,hpre]
       rw [e1,e2] at HOK HVAL
       have HOK:=hid HOK.out
       have HVAL:=hid HVAL.out
       clear e1 e2
       have hbn:Below w.heap.size w (wr.alloc (.cells #[.string ⟨#[48,120]⟩,.int .i64 16] 203)):=hbr.alloc hbr.size _
       have kn:=kr.alloc (.cells #[.string ⟨#[48,120]⟩,.int .i64 16] 203)
       go_wp2_with fail
       (with_reducible refine hc.out.mono ?_);rintro e w' ⟨rfl,rfl⟩
       go_wp2_with fail
       (with_reducible refine hcr.out.mono ?_);rintro e w4 ⟨v,rfl,hb4,hp4,x1,x2,x3,y,z,rfl⟩
       obtain ⟨⟨r1,r2,r3⟩,r4,r5,r6⟩:=(kn.later hb4).three
       have hlt:=kn.lt
       go_wp2
       have hbF:=(((hbn.trans (hb4.mono hbn.size)).setCell (p:=⟨w.heap.size,0,none⟩) (Nat.le_refl _) (.slice x1 x2 x3)).setCell (p:=⟨w.heap.size,1,none⟩) (Nat.le_refl _) (.bool y)).setCell (p:=⟨w.heap.size,2,none⟩) (Nat.le_refl _) (.bool z)
       try simp only [Exit.inBlock,Exit.then]
       refine bodyPost_ret (v:=.tuple #[.agg #[.slice x1 x2 x3,.bool y,.bool z],.bool (rOK 16 (T.drop 2))]) (by simp [results,Tryz.results152,go_sem,r1,r2,r3]) rfl ⟨_,by rw [HOK.out],hbF,fun h=>?_,⟨_,_,_,_,_,rfl⟩⟩
       rw [HVAL.out]
       exact (((hp4 (by rw [← HOK.out];exact h)).set3 hlt (.slice x1 x2 x3) (.bool y) (.bool z)).mono (Nat.le_of_lt hlt))
     ·have m1:=n1 (by decide)
      cases hpre:([48,111]:List UInt8).isPrefixOf T
      ·have hc:=hid (cut2 T 48 111 (by omega) (wr.alloc (.cells #[.string ⟨#[48,111]⟩,.int .i64 8] 203)) false hpre)
       have hbn:Below w.heap.size w (wr.alloc (.cells #[.string ⟨#[48,111]⟩,.int .i64 8] 203)):=hbr.alloc hbr.size _
       have kn:=kr.alloc (.cells #[.string ⟨#[48,111]⟩,.int .i64 8] 203)
       go_wp2_with fail
       (with_reducible refine hc.out.mono ?_);rintro e w' ⟨rfl,rfl⟩
       go_wp2
       go_roundw
       case rel=>exact ⟨2,rfl,by decide,(by first | trivial | exact fun _=>m1),(by first | trivial | exact fun _=>hpre),fun h=>absurd h (by decide),hbn,kn⟩
       case measure=>simp [intOf]
      ·have hc:=hid (cut2 T 48 111 (by omega) (wr.alloc (.cells #[.string ⟨#[48,111]⟩,.int .i64 8] 203)) true hpre)
       have hcr:=hid (read_at (T.drop 2) hd2 8 8 rfl (by decide) (by decide) true (wr.alloc (.cells #[.string ⟨#[48,111]⟩,.int .i64 8] 203)))
       have e1:pBase T=8:=by simp [pBase,m1,hpre]
       have e2:pBody T=T.drop 2:=by simp [pBody,hpre]
       rw [e1,e2] at HOK HVAL
       have HOK:=hid HOK.out
       have HVAL:=hid HVAL.out
       clear e1 e2
       have hbn:Below w.heap.size w (wr.alloc (.cells #[.string ⟨#[48,111]⟩,.int .i64 8] 203)):=hbr.alloc hbr.size _
       have kn:=kr.alloc (.cells #[.string ⟨#[48,111]⟩,.int .i64 8] 203)
       go_wp2_with fail
       (with_reducible refine hc.out.mono ?_);rintro e w' ⟨rfl,rfl⟩
       go_wp2_with fail
       (with_reducible refine hcr.out.mono ?_);rintro e w4 ⟨v,rfl,hb4,hp4,x1,x2,x3,y,z,rfl⟩
       obtain ⟨⟨r1,r2,r3⟩,r4,r5,r6⟩:=(kn.later hb4).three
       have hlt:=kn.lt
       go_wp2
       have hbF:=(((hbn.trans (hb4.mono hbn.size)).setCell (p:=⟨w.heap.size,0,none⟩) (Nat.le_refl _) (.slice x1 x2 x3)).setCell (p:=⟨w.heap.size,1,none⟩) (Nat.le_refl _) (.bool y)).setCell (p:=⟨w.heap.size,2,none⟩) (Nat.le_refl _) (.bool z)
       try simp only [Exit.inBlock,Exit.then]
       refine bodyPost_ret (v:=.tuple #[.agg #[.slice x1 x2 x3,.bool y,.bool z],.bool (rOK 8 (T.drop 2))]) (by simp [results,Tryz.results152,go_sem,r1,r2,r3]) rfl ⟨_,by rw [HOK.out],hbF,fun h=>?_,⟨_,_,_,_,_,rfl⟩⟩
       rw [HVAL.out]
       exact (((hp4 (by rw [← HOK.out];exact h)).set3 hlt (.slice x1 x2 x3) (.bool y) (.bool z)).mono (Nat.le_of_lt hlt))
     ·have m1:=n1 (by decide)
      have m2:=n2 (by decide)
      cases hpre:([48,98]:List UInt8).isPrefixOf T
      ·have hc:=hid (cut2 T 48 98 (by omega) (wr.alloc (.cells #[.string ⟨#[48,98]⟩,.int .i64 2] 203)) false hpre)
       have hbn:Below w.heap.size w (wr.alloc (.cells #[.string ⟨#[48,98]⟩,.int .i64 2] 203)):=hbr.alloc hbr.size _
       have kn:=kr.alloc (.cells #[.string ⟨#[48,98]⟩,.int .i64 2] 203)
       go_wp2_with fail
       (with_reducible refine hc.out.mono ?_);rintro e w' ⟨rfl,rfl⟩
       go_wp2
       go_roundw
       case rel=>exact ⟨3,rfl,by decide,(by first | trivial | exact fun _=>m1),(by first | trivial | exact fun _=>m2),(by first | trivial | exact fun _=>hpre),hbn,kn⟩
       case measure=>simp [intOf]
      ·have hc:=hid (cut2 T 48 98 (by omega) (wr.alloc (.cells #[.string ⟨#[48,98]⟩,.int .i64 2] 203)) true hpre)
       have hcr:=hid (read_at (T.drop 2) hd2 2 2 rfl (by decide) (by decide) true (wr.alloc (.cells #[.string ⟨#[48,98]⟩,.int .i64 2] 203)))
       have e1:pBase T=2:=by simp [pBase,m1,m2,hpre]
       have e2:pBody T=T.drop 2:=by simp [pBody,hpre]
       rw [e1,e2] at HOK HVAL
       have HOK:=hid HOK.out
       have HVAL:=hid HVAL.out
       clear e1 e2
       have hbn:Below w.heap.size w (wr.alloc (.cells #[.string ⟨#[48,98]⟩,.int .i64 2] 203)):=hbr.alloc hbr.size _
       have kn:=kr.alloc (.cells #[.string ⟨#[48,98]⟩,.int .i64 2] 203)
       go_wp2_with fail
       (with_reducible refine hc.out.mono ?_);rintro e w' ⟨rfl,rfl⟩
       go_wp2_with fail
       (with_reducible refine hcr.out.mono ?_);rintro e w4 ⟨v,rfl,hb4,hp4,x1,x2,x3,y,z,rfl⟩
       obtain ⟨⟨r1,r2,r3⟩,r4,r5,r6⟩:=(kn.later hb4).three
       have hlt:=kn.lt
       go_wp2
       have hbF:=(((hbn.trans (hb4.mono hbn.size)).setCell (p:=⟨w.heap.size,0,none⟩) (Nat.le_refl _) (.slice x1 x2 x3)).setCell (p:=⟨w.heap.size,1,none⟩) (Nat.le_refl _) (.bool y)).setCell (p:=⟨w.heap.size,2,none⟩) (Nat.le_refl _) (.bool z)
       try simp only [Exit.inBlock,Exit.then]
       refine bodyPost_ret (v:=.tuple #[.agg #[.slice x1 x2 x3,.bool y,.bool z],.bool (rOK 2 (T.drop 2))]) (by simp [results,Tryz.results152,go_sem,r1,r2,r3]) rfl ⟨_,by rw [HOK.out],hbF,fun h=>?_,⟨_,_,_,_,_,rfl⟩⟩
       rw [HVAL.out]
       exact (((hp4 (by rw [← HOK.out];exact h)).set3 hlt (.slice x1 x2 x3) (.bool y) (.bool z)).mono (Nat.le_of_lt hlt))
     ·have m1:=n1 (by decide)
      have m2:=n2 (by decide)
      have m3:=n3 (by decide)
      have hcr:=hid (read_at T (by omega) 10 10 rfl (by decide) (by decide) true wr)
      have e1:pBase T=10:=by simp [pBase,m1,m2,m3]
      have e2:pBody T=T:=by simp [pBody,m1,m2,m3]
      rw [e1,e2] at HOK HVAL
      have HOK:=hid HOK.out
      have HVAL:=hid HVAL.out
      clear e1 e2
      go_wp2_with fail
      (with_reducible refine hcr.out.mono ?_);rintro e w4 ⟨v,rfl,hb4,hp4,x1,x2,x3,y,z,rfl⟩
      obtain ⟨⟨r1,r2,r3⟩,r4,r5,r6⟩:=(kr.later hb4).three
      have hlt:=kr.lt
      go_wp2
      have hbF:=(((hbr.trans (hb4.mono hbr.size)).setCell (p:=⟨w.heap.size,0,none⟩) (Nat.le_refl _) (.slice x1 x2 x3)).setCell (p:=⟨w.heap.size,1,none⟩) (Nat.le_refl _) (.bool y)).setCell (p:=⟨w.heap.size,2,none⟩) (Nat.le_refl _) (.bool z)
      try simp only [Exit.inBlock,Exit.then]
      refine bodyPost_ret (v:=.tuple #[.agg #[.slice x1 x2 x3,.bool y,.bool z],.bool (rOK 10 T)]) (by simp [results,Tryz.results152,go_sem,r1,r2,r3]) rfl ⟨_,by rw [HOK.out],hbF,fun h=>?_,⟨_,_,_,_,_,rfl⟩⟩
      rw [HVAL.out]
      exact (((hp4 (by rw [← HOK.out];exact h)).set3 hlt (.slice x1 x2 x3) (.bool y) (.bool z)).mono (Nat.le_of_lt hlt))
   ·rw [hn] at HVAL
    have hc1:=hid (pre1 _ 45 hS W false hm)
    have hc2:=hid (pre1 _ 43 hS W true hp)
    have h1:(⟨(43::T).toArray⟩:ByteArray).size=T.length+1:=by rw [Lib.size_mk];simp
    have h2:(⟨(43::T).toArray⟩:ByteArray).extract 1 (T.length+1)=⟨T.toArray⟩:=by rw [Lib.extract_mk];simp
    have hT':T.length≤999999999:=by simpa using hS
    clear hn hm hp
    go_upto_block 4 with (first | fail|(with_reducible refine hc1.out.mono ?_);rintro e w' ⟨rfl,rfl⟩|(with_reducible refine hc2.out.mono ?_);rintro e w' ⟨rfl,rfl⟩)
    clear hc1 hc2 h1 h2 hS
    go_wp2_with fail
    go_loopw [46] (fun iv wr=>∃ i:Nat,iv=.int .i64 i∧i≤3∧(0<i→([48,120]:List UInt8).isPrefixOf T=false)∧(1<i→([48,111]:List UInt8).isPrefixOf T=false)∧(2<i→([48,98]:List UInt8).isPrefixOf T=false)∧Below w.heap.size w wr∧Blk wr w.heap.size #[.slice none 0 0,.bool false,.bool false] 156) (fun iv _=>3-(intOf iv).toNat)
    case atStart=>exact ⟨0,rfl,by decide,fun h=>absurd h (by decide),fun h=>absurd h (by decide),fun h=>absurd h (by decide),hb0,k0⟩
    case round=>
     obtain ⟨i,rfl,hi,n1,n2,n3,hbr,kr⟩:=hrel
     clear k0 hb0 hsz0
     have x0:=ix0
     have x1:=ix1
     have x2:=ix2
     have hd2:(T.drop 2).length≤1000000000:=by rw [List.length_drop];omega
     obtain rfl | rfl | rfl | rfl:i=0∨i=1∨i=2∨i=3:=by omega
     ·cases hpre:([48,120]:List UInt8).isPrefixOf T
      ·have hc:=hid (cut2 T 48 120 (by omega) (wr.alloc (.cells #[.string ⟨#[48,120]⟩,.int .i64 16] 203)) false hpre)
       have hbn:Below w.heap.size w (wr.alloc (.cells #[.string ⟨#[48,120]⟩,.int .i64 16] 203)):=hbr.alloc hbr.size _
       have kn:=kr.alloc (.cells #[.string ⟨#[48,120]⟩,.int .i64 16] 203)
       go_wp2_with fail
       (with_reducible refine hc.out.mono ?_);rintro e w' ⟨rfl,rfl⟩
       go_wp2
       go_roundw
       case rel=>exact ⟨1,rfl,by decide,(by first | trivial | exact fun _=>hpre),fun h=>absurd h (by decide),fun h=>absurd h (by decide),hbn,kn⟩
       case measure=>simp [intOf]
      ·have hc:=hid (cut2 T 48 120 (by omega) (wr.alloc (.cells #[.string ⟨#[48,120]⟩,.int .i64 16] 203)) true hpre)
       have hcr:=hid (read_at (T.drop 2) hd2 16 16 rfl (by decide) (by decide) false (wr.alloc (.cells #[.string ⟨#[48,120]⟩,.int .i64 16] 203)))
       have e1:pBase T=16:=by simp [pBase,hpre]
       have e2:pBody T=T.drop 2:=by simp [pBody,hpre]
       rw [e1,e2] at HOK HVAL
       have HOK:=hid HOK.out
       have HVAL:=hid HVAL.out
       clear e1 e2
       have hbn:Below w.heap.size w (wr.alloc (.cells #[.string ⟨#[48,120]⟩,.int .i64 16] 203)):=hbr.alloc hbr.size _
       have kn:=kr.alloc (.cells #[.string ⟨#[48,120]⟩,.int .i64 16] 203)
       go_wp2_with fail
       (with_reducible refine hc.out.mono ?_);rintro e w' ⟨rfl,rfl⟩
       go_wp2_with fail
       (with_reducible refine hcr.out.mono ?_);rintro e w4 ⟨v,rfl,hb4,hp4,x1,x2,x3,y,z,rfl⟩
       obtain ⟨⟨r1,r2,r3⟩,r4,r5,r6⟩:=(kn.later hb4).three
       have hlt:=kn.lt
       go_wp2
       have hbF:=(((hbn.trans (hb4.mono hbn.size)).setCell (p:=⟨w.heap.size,0,none⟩) (Nat.le_refl _) (.slice x1 x2 x3)).setCell (p:=⟨w.heap.size,1,none⟩) (Nat.le_refl _) (.bool y)).setCell (p:=⟨w.heap.size,2,none⟩) (Nat.le_refl _) (.bool z)
       try simp only [Exit.inBlock,Exit.then]
       refine bodyPost_ret (v:=.tuple #[.agg #[.slice x1 x2 x3,.bool y,.bool z],.bool (rOK 16 (T.drop 2))]) (by simp [results,Tryz.results152,go_sem,r1,r2,r3]) rfl ⟨_,by rw [HOK.out],hbF,fun h=>?_,⟨_,_,_,_,_,rfl⟩⟩
       rw [HVAL.out]
       exact (((hp4 (by rw [← HOK.out];exact h)).set3 hlt (.slice x1 x2 x3) (.bool y) (.bool z)).mono (Nat.le_of_lt hlt))
     ·have m1:=n1 (by decide)
      cases hpre:([48,111]:List UInt8).isPrefixOf T
      ·have hc:=hid (cut2 T 48 111 (by omega) (wr.alloc (.cells #[.string ⟨#[48,111]⟩,.int .i64 8] 203)) false hpre)
       have hbn:Below w.heap.size w (wr.alloc (.cells #[.string ⟨#[48,111]⟩,.int .i64 8] 203)):=hbr.alloc hbr.size _
       have kn:=kr.alloc (.cells #[.string ⟨#[48,111]⟩,.int .i64 8] 203)
       go_wp2_with fail
       (with_reducible refine hc.out.mono ?_);rintro e w' ⟨rfl,rfl⟩
       go_wp2
       go_roundw
       case rel=>exact ⟨2,rfl,by decide,(by first | trivial | exact fun _=>m1),(by first | trivial | exact fun _=>hpre),fun h=>absurd h (by decide),hbn,kn⟩
       case measure=>simp [intOf]
      ·have hc:=hid (cut2 T 48 111 (by omega) (wr.alloc (.cells #[.string ⟨#[48,111]⟩,.int .i64 8] 203)) true hpre)
       have hcr:=hid (read_at (T.drop 2) hd2 8 8 rfl (by decide) (by decide) false (wr.alloc (.cells #[.string ⟨#[48,111]⟩,.int .i64 8] 203)))
       have e1:pBase T=8:=by simp [pBase,m1,hpre]
       have e2:pBody T=T.drop 2:=by simp [pBody,hpre]
       rw [e1,e2] at HOK HVAL
       have HOK:=hid HOK.out
       have HVAL:=hid HVAL.out
       clear e1 e2
       have hbn:Below w.heap.size w (wr.alloc (.cells #[.string ⟨#[48,111]⟩,.int .i64 8] 203)):=hbr.alloc hbr.size _
       have kn:=kr.alloc (.cells #[.string ⟨#[48,111]⟩,.int .i64 8] 203)
       go_wp2_with fail
       (with_reducible refine hc.out.mono ?_);rintro e w' ⟨rfl,rfl⟩
       go_wp2_with fail
       (with_reducible refine hcr.out.mono ?_);rintro e w4 ⟨v,rfl,hb4,hp4,x1,x2,x3,y,z,rfl⟩
       obtain ⟨⟨r1,r2,r3⟩,r4,r5,r6⟩:=(kn.later hb4).three
       have hlt:=kn.lt
       go_wp2
       have hbF:=(((hbn.trans (hb4.mono hbn.size)).setCell (p:=⟨w.heap.size,0,none⟩) (Nat.le_refl _) (.slice x1 x2 x3)).setCell (p:=⟨w.heap.size,1,none⟩) (Nat.le_refl _) (.bool y)).setCell (p:=⟨w.heap.size,2,none⟩) (Nat.le_refl _) (.bool z)
       try simp only [Exit.inBlock,Exit.then]
       refine bodyPost_ret (v:=.tuple #[.agg #[.slice x1 x2 x3,.bool y,.bool z],.bool (rOK 8 (T.drop 2))]) (by simp [results,Tryz.results152,go_sem,r1,r2,r3]) rfl ⟨_,by rw [HOK.out],hbF,fun h=>?_,⟨_,_,_,_,_,rfl⟩⟩
       rw [HVAL.out]
       exact (((hp4 (by rw [← HOK.out];exact h)).set3 hlt (.slice x1 x2 x3) (.bool y) (.bool z)).mono (Nat.le_of_lt hlt))
     ·have m1:=n1 (by decide)
      have m2:=n2 (by decide)
      cases hpre:([48,98]:List UInt8).isPrefixOf T
      ·have hc:=hid (cut2 T 48 98 (by omega) (wr.alloc (.cells #[.string ⟨#[48,98]⟩,.int .i64 2] 203)) false hpre)
       have hbn:Below w.heap.size w (wr.alloc (.cells #[.string ⟨#[48,98]⟩,.int .i64 2] 203)):=hbr.alloc hbr.size _
       have kn:=kr.alloc (.cells #[.string ⟨#[48,98]⟩,.int .i64 2] 203)
       go_wp2_with fail
       (with_reducible refine hc.out.mono ?_);rintro e w' ⟨rfl,rfl⟩
       go_wp2
       go_roundw
       case rel=>exact ⟨3,rfl,by decide,(by first | trivial | exact fun _=>m1),(by first | trivial | exact fun _=>m2),(by first | trivial | exact fun _=>hpre),hbn,kn⟩
       case measure=>simp [intOf]
      ·have hc:=hid (cut2 T 48 98 (by omega) (wr.alloc (.cells #[.string ⟨#[48,98]⟩,.int .i64 2] 203)) true hpre)
       have hcr:=hid (read_at (T.drop 2) hd2 2 2 rfl (by decide) (by decide) false (wr.alloc (.cells #[.string ⟨#[48,98]⟩,.int .i64 2] 203)))
       have e1:pBase T=2:=by simp [pBase,m1,m2,hpre]
       have e2:pBody T=T.drop 2:=by simp [pBody,hpre]
       rw [e1,e2] at HOK HVAL
       have HOK:=hid HOK.out
       have HVAL:=hid HVAL.out
       clear e1 e2
       have hbn:Below w.heap.size w (wr.alloc (.cells #[.string ⟨#[48,98]⟩,.int .i64 2] 203)):=hbr.alloc hbr.size _
       have kn:=kr.alloc (.cells #[.string ⟨#[48,98]⟩,.int .i64 2] 203)
       go_wp2_with fail
       (with_reducible refine hc.out.mono ?_);rintro e w' ⟨rfl,rfl⟩
       go_wp2_with fail
       (with_reducible refine hcr.out.mono ?_);rintro e w4 ⟨v,rfl,hb4,hp4,x1,x2,x3,y,z,rfl⟩
       obtain ⟨⟨r1,r2,r3⟩,r4,r5,r6⟩:=(kn.later hb4).three
       have hlt:=kn.lt
       go_wp2
       have hbF:=(((hbn.trans (hb4.mono hbn.size)).setCell (p:=⟨w.heap.size,0,none⟩) (Nat.le_refl _) (.slice x1 x2 x3)).setCell (p:=⟨w.heap.size,1,none⟩) (Nat.le_refl _) (.bool y)).setCell (p:=⟨w.heap.size,2,none⟩) (Nat.le_refl _) (.bool z)
       try simp only [Exit.inBlock,Exit.then]
       refine bodyPost_ret (v:=.tuple #[.agg #[.slice x1 x2 x3,.bool y,.bool z],.bool (rOK 2 (T.drop 2))]) (by simp [results,Tryz.results152,go_sem,r1,r2,r3]) rfl ⟨_,by rw [HOK.out],hbF,fun h=>?_,⟨_,_,_,_,_,rfl⟩⟩
       rw [HVAL.out]
       exact (((hp4 (by rw [← HOK.out];exact h)).set3 hlt (.slice x1 x2 x3) (.bool y) (.bool z)).mono (Nat.le_of_lt hlt))
     ·have m1:=n1 (by decide)
      have m2:=n2 (by decide)
      have m3:=n3 (by decide)
      have hcr:=hid (read_at T (by omega) 10 10 rfl (by decide) (by decide) false wr)
      have e1:pBase T=10:=by simp [pBase,m1,m2,m3]
      have e2:pBody T=T:=by simp [pBody,m1,m2,m3]
      rw [e1,e2] at HOK HVAL
      have HOK:=hid HOK.out
      have HVAL:=hid HVAL.out
      clear e1 e2
      go_wp2_with fail
      (with_reducible refine hcr.out.mono ?_);rintro e w4 ⟨v,rfl,hb4,hp4,x1,x2,x3,y,z,rfl⟩
      obtain ⟨⟨r1,r2,r3⟩,r4,r5,r6⟩:=(kr.later hb4).three
      have hlt:=kr.lt
      go_wp2
      have hbF:=(((hbr.trans (hb4.mono hbr.size)).setCell (p:=⟨w.heap.size,0,none⟩) (Nat.le_refl _) (.slice x1 x2 x3)).setCell (p:=⟨w.heap.size,1,none⟩) (Nat.le_refl _) (.bool y)).setCell (p:=⟨w.heap.size,2,none⟩) (Nat.le_refl _) (.bool z)
      try simp only [Exit.inBlock,Exit.then]
      refine bodyPost_ret (v:=.tuple #[.agg #[.slice x1 x2 x3,.bool y,.bool z],.bool (rOK 10 T)]) (by simp [results,Tryz.results152,go_sem,r1,r2,r3]) rfl ⟨_,by rw [HOK.out],hbF,fun h=>?_,⟨_,_,_,_,_,rfl⟩⟩
      rw [HVAL.out]
      exact (((hp4 (by rw [← HOK.out];exact h)).set3 hlt (.slice x1 x2 x3) (.bool y) (.bool z)).mono (Nat.le_of_lt hlt))
   ·have hST':=hST.symm
    subst hST'
    rw [hn] at HVAL
    have hc1:=hid (pre1 _ 45 hS W false hm)
    have hc2:=hid (pre1 _ 43 hS W false hp)
    have hT':=hS
    clear hn hm hp
    go_upto_block 4 with (first | fail|(with_reducible refine hc1.out.mono ?_);rintro e w' ⟨rfl,rfl⟩|(with_reducible refine hc2.out.mono ?_);rintro e w' ⟨rfl,rfl⟩)
    clear hc1 hc2 hS
    go_wp2_with fail
    go_loopw [46] (fun iv wr=>∃ i:Nat,iv=.int .i64 i∧i≤3∧(0<i→([48,120]:List UInt8).isPrefixOf T=false)∧(1<i→([48,111]:List UInt8).isPrefixOf T=false)∧(2<i→([48,98]:List UInt8).isPrefixOf T=false)∧Below w.heap.size w wr∧Blk wr w.heap.size #[.slice none 0 0,.bool false,.bool false] 156) (fun iv _=>3-(intOf iv).toNat)
    case atStart=>exact ⟨0,rfl,by decide,fun h=>absurd h (by decide),fun h=>absurd h (by decide),fun h=>absurd h (by decide),hb0,k0⟩
    case round=>
     obtain ⟨i,rfl,hi,n1,n2,n3,hbr,kr⟩:=hrel
     clear k0 hb0 hsz0
     have x0:=ix0
     have x1:=ix1
     have x2:=ix2
     have hd2:(T.drop 2).length≤1000000000:=by rw [List.length_drop];omega
     obtain rfl | rfl | rfl | rfl:i=0∨i=1∨i=2∨i=3:=by omega
     ·cases hpre:([48,120]:List UInt8).isPrefixOf T
      ·have hc:=hid (cut2 T 48 120 (by omega) (wr.alloc (.cells #[.string ⟨#[48,120]⟩,.int .i64 16] 203)) false hpre)
       have hbn:Below w.heap.size w (wr.alloc (.cells #[.string ⟨#[48,120]⟩,.int .i64 16] 203)):=hbr.alloc hbr.size _
       have kn:=kr.alloc (.cells #[.string ⟨#[48,120]⟩,.int .i64 16] 203)
       go_wp2_with fail
       (with_reducible refine hc.out.mono ?_);rintro e w' ⟨rfl,rfl⟩
       go_wp2
       go_roundw
       case rel=>exact ⟨1,rfl,by decide,(by first | trivial | exact fun _=>hpre),fun h=>absurd h (by decide),fun h=>absurd h (by decide),hbn,kn⟩
       case measure=>simp [intOf]
      ·have hc:=hid (cut2 T 48 120 (by omega) (wr.alloc (.cells #[.string ⟨#[48,120]⟩,.int .i64 16] 203)) true hpre)
       have hcr:=hid (read_at (T.drop 2) hd2 16 16 rfl (by decide) (by decide) false (wr.alloc (.cells #[.string ⟨#[48,120]⟩,.int .i64 16] 203)))
       have e1:pBase T=16:=by simp [pBase,hpre]
       have e2:pBody T=T.drop 2:=by simp [pBody,hpre]
       rw [e1,e2] at HOK HVAL
       have HOK:=hid HOK.out
       have HVAL:=hid HVAL.out
       clear e1 e2
       have hbn:Below w.heap.size w (wr.alloc (.cells #[.string ⟨#[48,120]⟩,.int .i64 16] 203)):=hbr.alloc hbr.size _
       have kn:=kr.alloc (.cells #[.string ⟨#[48,120]⟩,.int .i64 16] 203)
       go_wp2_with fail
       (with_reducible refine hc.out.mono ?_);rintro e w' ⟨rfl,rfl⟩
       go_wp2_with fail
       (with_reducible refine hcr.out.mono ?_);rintro e w4 ⟨v,rfl,hb4,hp4,x1,x2,x3,y,z,rfl⟩
       obtain ⟨⟨r1,r2,r3⟩,r4,r5,r6⟩:=(kn.later hb4).three
       have hlt:=kn.lt
       go_wp2
       have hbF:=(((hbn.trans (hb4.mono hbn.size)).setCell (p:=⟨w.heap.size,0,none⟩) (Nat.le_refl _) (.slice x1 x2 x3)).setCell (p:=⟨w.heap.size,1,none⟩) (Nat.le_refl _) (.bool y)).setCell (p:=⟨w.heap.size,2,none⟩) (Nat.le_refl _) (.bool z)
       try simp only [Exit.inBlock,Exit.then]
       refine bodyPost_ret (v:=.tuple #[.agg #[.slice x1 x2 x3,.bool y,.bool z],.bool (rOK 16 (T.drop 2))]) (by simp [results,Tryz.results152,go_sem,r1,r2,r3]) rfl ⟨_,by rw [HOK.out],hbF,fun h=>?_,⟨_,_,_,_,_,rfl⟩⟩
       rw [HVAL.out]
       exact (((hp4 (by rw [← HOK.out];exact h)).set3 hlt (.slice x1 x2 x3) (.bool y) (.bool z)).mono (Nat.le_of_lt hlt))
     ·have m1:=n1 (by decide)
      cases hpre:([48,111]:List UInt8).isPrefixOf T
      ·have hc:=hid (cut2 T 48 111 (by omega) (wr.alloc (.cells #[.string ⟨#[48,111]⟩,.int .i64 8] 203)) false hpre)
       have hbn:Below w.heap.size w (wr.alloc (.cells #[.string ⟨#[48,111]⟩,.int .i64 8] 203)):=hbr.alloc hbr.size _
       have kn:=kr.alloc (.cells #[.string ⟨#[48,111]⟩,.int .i64 8] 203)
       go_wp2_with fail
       (with_reducible refine hc.out.mono ?_);rintro e w' ⟨rfl,rfl⟩
       go_wp2
       go_roundw
       case rel=>exact ⟨2,rfl,by decide,(by first | trivial | exact fun _=>m1),(by first | trivial | exact fun _=>hpre),fun h=>absurd h (by decide),hbn,kn⟩
       case measure=>simp [intOf]
      ·have hc:=hid (cut2 T 48 111 (by omega) (wr.alloc (.cells #[.string ⟨#[48,111]⟩,.int .i64 8] 203)) true hpre)
       have hcr:=hid (read_at (T.drop 2) hd2 8 8 rfl (by decide) (by decide) false (wr.alloc (.cells #[.string ⟨#[48,111]⟩,.int .i64 8] 203)))
       have e1:pBase T=8:=by simp [pBase,m1,hpre]
       have e2:pBody T=T.drop 2:=by simp [pBody,hpre]
       rw [e1,e2] at HOK HVAL
       have HOK:=hid HOK.out
       have HVAL:=hid HVAL.out
       clear e1 e2
       have hbn:Below w.heap.size w (wr.alloc (.cells #[.string ⟨#[48,111]⟩,.int .i64 8] 203)):=hbr.alloc hbr.size _
       have kn:=kr.alloc (.cells #[.string ⟨#[48,111]⟩,.int .i64 8] 203)
       go_wp2_with fail
       (with_reducible refine hc.out.mono ?_);rintro e w' ⟨rfl,rfl⟩
       go_wp2_with fail
       (with_reducible refine hcr.out.mono ?_);rintro e w4 ⟨v,rfl,hb4,hp4,x1,x2,x3,y,z,rfl⟩
       obtain ⟨⟨r1,r2,r3⟩,r4,r5,r6⟩:=(kn.later hb4).three
       have hlt:=kn.lt
       go_wp2
       have hbF:=(((hbn.trans (hb4.mono hbn.size)).setCell (p:=⟨w.heap.size,0,none⟩) (Nat.le_refl _) (.slice x1 x2 x3)).setCell (p:=⟨w.heap.size,1,none⟩) (Nat.le_refl _) (.bool y)).setCell (p:=⟨w.heap.size,2,none⟩) (Nat.le_refl _) (.bool z)
       try simp only [Exit.inBlock,Exit.then]
       refine bodyPost_ret (v:=.tuple #[.agg #[.slice x1 x2 x3,.bool y,.bool z],.bool (rOK 8 (T.drop 2))]) (by simp [results,Tryz.results152,go_sem,r1,r2,r3]) rfl ⟨_,by rw [HOK.out],hbF,fun h=>?_,⟨_,_,_,_,_,rfl⟩⟩
       rw [HVAL.out]
       exact (((hp4 (by rw [← HOK.out];exact h)).set3 hlt (.slice x1 x2 x3) (.bool y) (.bool z)).mono (Nat.le_of_lt hlt))
     ·have m1:=n1 (by decide)
      have m2:=n2 (by decide)
      cases hpre:([48,98]:List UInt8).isPrefixOf T
      ·have hc:=hid (cut2 T 48 98 (by omega) (wr.alloc (.cells #[.string ⟨#[48,98]⟩,.int .i64 2] 203)) false hpre)
       have hbn:Below w.heap.size w (wr.alloc (.cells #[.string ⟨#[48,98]⟩,.int .i64 2] 203)):=hbr.alloc hbr.size _
       have kn:=kr.alloc (.cells #[.string ⟨#[48,98]⟩,.int .i64 2] 203)
       go_wp2_with fail
       (with_reducible refine hc.out.mono ?_);rintro e w' ⟨rfl,rfl⟩
       go_wp2
       go_roundw
       case rel=>exact ⟨3,rfl,by decide,(by first | trivial | exact fun _=>m1),(by first | trivial | exact fun _=>m2),(by first | trivial | exact fun _=>hpre),hbn,kn⟩
       case measure=>simp [intOf]
      ·have hc:=hid (cut2 T 48 98 (by omega) (wr.alloc (.cells #[.string ⟨#[48,98]⟩,.int .i64 2] 203)) true hpre)
       have hcr:=hid (read_at (T.drop 2) hd2 2 2 rfl (by decide) (by decide) false (wr.alloc (.cells #[.string ⟨#[48,98]⟩,.int .i64 2] 203)))
       have e1:pBase T=2:=by simp [pBase,m1,m2,hpre]
       have e2:pBody T=T.drop 2:=by simp [pBody,hpre]
       rw [e1,e2] at HOK HVAL
       have HOK:=hid HOK.out
       have HVAL:=hid HVAL.out
       clear e1 e2
       have hbn:Below w.heap.size w (wr.alloc (.cells #[.string ⟨#[48,98]⟩,.int .i64 2] 203)):=hbr.alloc hbr.size _
       have kn:=kr.alloc (.cells #[.string ⟨#[48,98]⟩,.int .i64 2] 203)
       go_wp2_with fail
       (with_reducible refine hc.out.mono ?_);rintro e w' ⟨rfl,rfl⟩
       go_wp2_with fail
       (with_reducible refine hcr.out.mono ?_);rintro e w4 ⟨v,rfl,hb4,hp4,x1,x2,x3,y,z,rfl⟩
       obtain ⟨⟨r1,r2,r3⟩,r4,r5,r6⟩:=(kn.later hb4).three
       have hlt:=kn.lt
       go_wp2
       have hbF:=(((hbn.trans (hb4.mono hbn.size)).setCell (p:=⟨w.heap.size,0,none⟩) (Nat.le_refl _) (.slice x1 x2 x3)).setCell (p:=⟨w.heap.size,1,none⟩) (Nat.le_refl _) (.bool y)).setCell (p:=⟨w.heap.size,2,none⟩) (Nat.le_refl _) (.bool z)
       try simp only [Exit.inBlock,Exit.then]
       refine bodyPost_ret (v:=.tuple #[.agg #[.slice x1 x2 x3,.bool y,.bool z],.bool (rOK 2 (T.drop 2))]) (by simp [results,Tryz.results152,go_sem,r1,r2,r3]) rfl ⟨_,by rw [HOK.out],hbF,fun h=>?_,⟨_,_,_,_,_,rfl⟩⟩
       rw [HVAL.out]
       exact (((hp4 (by rw [← HOK.out];exact h)).set3 hlt (.slice x1 x2 x3) (.bool y) (.bool z)).mono (Nat.le_of_lt hlt))
     ·have m1:=n1 (by decide)
      have m2:=n2 (by decide)
      have m3:=n3 (by decide)
      have hcr:=hid (read_at T (by omega) 10 10 rfl (by decide) (by decide) false wr)
      have e1:pBase T=10:=by simp [pBase,m1,m2,m3]
      have e2:pBody T=T:=by simp [pBody,m1,m2,m3]
      rw [e1,e2] at HOK HVAL
      have HOK:=hid HOK.out
      have HVAL:=hid HVAL.out
      clear e1 e2
      go_wp2_with fail
      (with_reducible refine hcr.out.mono ?_);rintro e w4 ⟨v,rfl,hb4,hp4,x1,x2,x3,y,z,rfl⟩
      obtain ⟨⟨r1,r2,r3⟩,r4,r5,r6⟩:=(kr.later hb4).three
      have hlt:=kr.lt
      go_wp2
      have hbF:=(((hbr.trans (hb4.mono hbr.size)).setCell (p:=⟨w.heap.size,0,none⟩) (Nat.le_refl _) (.slice x1 x2 x3)).setCell (p:=⟨w.heap.size,1,none⟩) (Nat.le_refl _) (.bool y)).setCell (p:=⟨w.heap.size,2,none⟩) (Nat.le_refl _) (.bool z)
      try simp only [Exit.inBlock,Exit.then]
      refine bodyPost_ret (v:=.tuple #[.agg #[.slice x1 x2 x3,.bool y,.bool z],.bool (rOK 10 T)]) (by simp [results,Tryz.results152,go_sem,r1,r2,r3]) rfl ⟨_,by rw [HOK.out],hbF,fun h=>?_,⟨_,_,_,_,_,rfl⟩⟩
      rw [HVAL.out]
      exact (((hp4 (by rw [← HOK.out];exact h)).set3 hlt (.slice x1 x2 x3) (.bool y) (.bool z)).mono (Nat.le_of_lt hlt))
end Go.Proofs.YtbilphfbfnohmaaGreatDoor
namespace Go.Proofs.YtbilphfbfnohmaaGreatDoor
open Go.RowKit
def RNum (w:World) (v:Value) (z:Int):Prop:=∃ n neg lg,NumV w v n neg lg∧(lg=false→n=z.natAbs∧neg=decide (z<0))∧(lg=true→big600≤z.natAbs)∧nlen n≤1000000
theorem RNum.of_int {w:World} {v:Value} {z:Int} (h:IntV w v z) (hl:nlen z.natAbs≤1000000):RNum w v z:=⟨_,_,_,h,fun _=>⟨rfl,rfl⟩,(fun h=>by cases h),hl⟩
theorem result_r {v:Value} {z:Int} {w:World} (h:RNum w v z) :
  Calls Tryz.prog 168 #[v] w fun e w'=>e=.returned (.tuple #[.string ⟨(resOf z).1.toArray⟩,.int .i64 (resOf z).2])∧Below w.heap.size w w':=by
 obtain ⟨n,neg,lg,h,h1,h2,h3⟩:=h
 cases lg with
 | false=>
  obtain ⟨rfl,rfl⟩:=h1 rfl
  exact result_int h h3
 | true=>
  have hr:resOf z=([],4):=by
   unfold resOf
   rw [if_neg (by have:=h2 rfl;omega)]
  rw [hr]
  exact result_long h
theorem never_fn {v:Value} {n:Nat} {neg lg:Bool} {w:World} (hv:NumV w v n neg lg):Calls Tryz.prog 122 #[v] w fun e w'=>e=.returned (.int .i64 0)∧Below w.heap.size w w':=by
 obtain ⟨s,rfl,h⟩:=hv
 obtain ⟨a,cap,rfl⟩:=h.shape
 go_enter Tryz.func122,Tryz.ntmps122
 go_wp2
 go_ret
 exact ⟨rfl,(Below.refl _ _).alloc (Nat.le_refl _) _⟩
theorem PNumO.shape {w:World} {base:Nat} {v:Value} {z:Int} (h:PNumO w base v z):∃ a n c,v=.agg #[.slice a n c,.bool (decide (z<0)),.bool (decide (big600≤z.natAbs))]:=by
 obtain ⟨s,n,lg,rfl,h1,h2,rfl,h4⟩:=h
 obtain ⟨a,c,rfl⟩:=h1.shape
 exact ⟨a,_,c,rfl⟩
def oneRes (a:List UInt8) (pe:Int) (z:Int):List UInt8×Int:=
 if pOK a=true then if pe≠0 then ([],pe) else if big600≤(pVal a).natAbs then ([],4) else resOf z else ([],2)
set_option maxRecDepth 100000 in
set_option maxHeartbeats 4000000 in
theorem one_fn (a:List UInt8) (ha:a.length≤1000000000) (k1 k2:Nat) (c1 c2:Array Value) (pe z:Int) (w:World) (B:Nat) (hB:B≤w.heap.size)
  (eg1:∀ args w,(callFunc k1 args).run Tryz.prog w=.ok (.enter k1 args) w) (eg2:∀ args w,(callFunc k2 args).run Tryz.prog w=.ok (.enter k2 args) w)
  (hp:pOK a=true→∀ w1 v,Below w.heap.size w w1→PNum w1 v (pVal a)→Calls Tryz.prog k1 (#[v]++c1) w1 fun e w'=>e=.returned (.int .i64 pe)∧Below w1.heap.size w1 w')
  (hd:pOK a=true→pe=0→(pVal a).natAbs<big600→∀ w1 v,Below w.heap.size w w1→IntV w1 v (pVal a)→nlen (pVal a).natAbs≤1000→Calls Tryz.prog k2 (#[v]++c2) w1 fun e w'=>∃ u,e=.returned u∧RNum w' u z∧Below B w1 w') :
  Calls Tryz.prog 121 #[.string ⟨a.toArray⟩,.func (.func k1) #[] c1,.func (.func k2) #[] c2] w fun e w'=>e=.returned (.tuple #[.string ⟨(oneRes a pe z).1.toArray⟩,.int .i64 (oneRes a pe z).2])∧Below B w w':=by
 have hc:=hid (parse_fn a ha w)
 cases hok:pOK a with
 | false=>
  have hr:oneRes a pe z=([],2):=by unfold oneRes;rw [hok];rfl
  have HR:=hid hr
  unfold ParseP at hc
  rw [hok] at hc
  clear hp hd hok hr
  go_enter Tryz.func121,Tryz.ntmps121
  go_wp2_with fail
  (with_reducible refine hc.out.mono ?_);rintro e w1 ⟨v,rfl,hb1,hv,x1,x2,x3,g,h,rfl⟩
  go_wp2
  go_ret2
  exact ⟨by rw [HR.out];rfl,(hb1.alloc hb1.size _).mono hB⟩
 | true=>
  have hP:=hid (hp hok)
  have hD:=hid (hd hok)
  have HR:=hid (show oneRes a pe z=if pe≠0 then ([],pe) else if big600≤(pVal a).natAbs then ([],4) else resOf z by unfold oneRes;rw [if_pos hok])
  unfold ParseP at hc
  rw [hok] at hc
  clear hp hd hok
  go_enter Tryz.func121,Tryz.ntmps121
  go_wp2_with fail
  (with_reducible refine hc.out.mono ?_);rintro e w1 ⟨v,rfl,hb1,hv,x1,x2,x3,g,h,rfl⟩
  have hv':=(hv (by first | rfl | trivial)).num
  obtain ⟨a0,n0,c0,he⟩:=(hv (by first | rfl | trivial)).shape
  simp only [Value.agg.injEq,Array.mk.injEq,List.cons.injEq,Value.slice.injEq,Value.bool.injEq,and_true] at he
  obtain ⟨-,hg,hh⟩:=he
  have HH:=hid hh
  clear hv a0 n0 c0 hg hh
  have kA:=Blk.new w1 #[.slice x1 x2 x3,.bool g,.bool h] 156
  have hbA:Below w.heap.size w (w1.alloc (.cells #[.slice x1 x2 x3,.bool g,.bool h] 156)):=hb1.alloc hb1.size _
  have hvA:=hv'.below ((Below.refl _ w1).alloc (Nat.le_refl _) (.cells #[.slice x1 x2 x3,.bool g,.bool h] 156))
  have hpc:=hid (hP.out _ _ hbA hvA)
  go_wp2_with fail
  (with_reducible refine hpc.out.mono ?_);rintro e w2 ⟨rfl,hb2⟩
  have hv2:=hvA.below hb2
  have hbB:=hbA.trans (hb2.mono hbA.size)
  obtain ⟨⟨r1,r2,r3⟩,r4,r5,r6⟩:=(kA.later hb2).three
  by_cases hpe:pe=0
  ·subst hpe
   cases h with
   | true=>
    have hbig:big600≤(pVal a).natAbs:=of_decide_eq_true HH.out.symm
    go_wp2
    go_ret2
    refine ⟨?_,hbB.mono hB⟩
    rw [HR.out,if_neg (by simp),if_pos hbig]
    rfl
   | false=>
    have hsm:¬ big600≤(pVal a).natAbs:=of_decide_eq_false HH.out.symm
    obtain ⟨hI,hn⟩:=hv2.int (by omega)
    have hdc:=hid (hD.out rfl (by omega) _ _ hbB hI hn)
    have HR2:=hid (show oneRes a 0 z=resOf z by rw [HR.out,if_neg (by simp),if_neg hsm])
    clear hsm
    go_wp2_with fail
    (with_reducible refine hdc.out.mono ?_);rintro e w3 ⟨u,rfl,hu,hb3⟩
    have hrc:=hid (result_r hu)
    go_wp2_with fail
    (with_reducible refine hrc.out.mono ?_);rintro e w4 ⟨rfl,hb4⟩
    go_wp2
    go_ret2
    have h2:=hbB.mono hB
    exact ⟨by rw [HR2.out];rfl,(h2.trans hb3).trans (hb4.mono (by have:=hb3.size;have:=h2.size;omega))⟩
  ·have hpn:(pe == 0)=false:=by simpa using hpe
   have HR2:=hid (show oneRes a pe z=([],pe) by rw [HR.out,if_pos hpe])
   go_wp2
   go_ret2
   exact ⟨by rw [HR2.out];rfl,hbB.mono hB⟩
end Go.Proofs.YtbilphfbfnohmaaGreatDoor
namespace Go.Proofs.YtbilphfbfnohmaaGreatDoor
open Go.RowKit
def canRes (a:List UInt8):List UInt8×Int:=oneRes a 0 (pVal a)
set_option maxRecDepth 100000 in
set_option maxHeartbeats 2000000 in
theorem canonical1 {v:Value} {z:Int} {w:World} (hv:IntV w v z):Calls Tryz.prog 123 #[v] w fun e w'=>∃ u,e=.returned u∧IntV w' u z∧Below w.heap.size w w':=by
 obtain ⟨a,cap,rfl,h⟩:=hv.shape
 have hb:Below w.heap.size w ((w.alloc (.cells #[.slice a (nlen z.natAbs) cap,.bool (decide (z<0)),.bool false] 156)).alloc (.cells #[.slice none 0 0,.bool false,.bool false] 156)):=((Below.refl _ _).alloc (Nat.le_refl _) _).alloc (by simp) _
 go_enter Tryz.func123,Tryz.ntmps123
 go_wp2
 exact bodyPost_ret (v:=.agg #[.slice a (nlen z.natAbs) cap,.bool (decide (z<0)),.bool false]) (by simp [results,Tryz.results123,go_sem]) rfl ⟨_,rfl,hv.below ((Below.refl _ _).alloc (Nat.le_refl _) _ |>.alloc (by simp) _),(Below.refl _ _).alloc (Nat.le_refl _) _ |>.alloc (by simp) _⟩
theorem OwnInt.shape {w:World} {base:Nat} {v:Value} {z:Int} (h:OwnInt w base v z):∃ a c,v=.agg #[.slice a (nlen z.natAbs) c,.bool (decide (z<0)),.bool false]:=by
 obtain ⟨s,rfl,h1⟩:=h
 obtain ⟨a,c,rfl⟩:=h1.shape
 exact ⟨a,c,rfl⟩
theorem can_fn (a:List UInt8) (ha:a.length≤1000000000) (w:World) :
  Calls Tryz.prog 71 #[.string ⟨a.toArray⟩] w fun e w'=>e=.returned (.tuple #[.string ⟨(canRes a).1.toArray⟩,.int .i64 (canRes a).2])∧Below w.heap.size w w':=by
 have hc:=hid (one_fn a ha 122 123 #[] #[] 0 (pVal a) w w.heap.size (Nat.le_refl _) (enters_of Tryz.func122 (by kernel_rfl) rfl) (enters_of Tryz.func123 (by kernel_rfl) rfl)
  (fun _ w1 v _ h1=>by
   obtain ⟨n,lg,h1,_⟩:=h1
   exact never_fn h1)
  (fun _ _ _ w1 v hb h1 h2=>(canonical1 h1).mono fun e w' h=>by
   obtain ⟨u,rfl,h3,h4⟩:=h
   exact ⟨u,rfl,RNum.of_int h3 (by omega),h4.mono hb.size⟩))
 go_enter Tryz.func71,Tryz.ntmps71
 go_wp2_with fail
 (with_reducible refine hc.out.mono ?_);rintro e w1 ⟨rfl,hb1⟩
 go_wp2
 go_ret2
 exact ⟨rfl,hb1⟩
end Go.Proofs.YtbilphfbfnohmaaGreatDoor
namespace Go.Proofs.YtbilphfbfnohmaaGreatDoor
open Go.RowKit
theorem far_fn (B:Int) (w:World):Calls Tryz.prog 153 #[.int .i64 B] w fun e w'=>e=.returned (.bool (decide (B<2) || decide (36<B)))∧w'=w:=by
 by_cases h1:B<2
 ·have HE:=hid (show (decide (B<2) || decide (36<B))=true by rw [decide_eq_true h1];rfl)
  go_enter Tryz.func153,Tryz.ntmps153
  go_wp2
  go_ret
  exact ⟨by rw [HE.out];rfl,rfl⟩
 ·have HE:=hid (show (decide (B<2) || decide (36<B))=decide (36<B) by rw [decide_eq_false h1];rfl)
  go_enter Tryz.func153,Tryz.ntmps153
  go_wp2
  go_ret
  exact ⟨by rw [HE.out];rfl,rfl⟩
def baseRes (a:List UInt8) (B:Int):List UInt8×Int:=
 if pOK a=true then if B<2∨36<B then ([],7) else if big600≤(pVal a).natAbs then ([],4) else (numText B.toNat (pVal a).natAbs (decide (pVal a<0)),0) else ([],2)
set_option maxRecDepth 100000 in
set_option maxHeartbeats 2000000 in
theorem base_fn (a:List UInt8) (ha:a.length≤1000000000) (B:Int) (w:World) :
  Calls Tryz.prog 106 #[.string ⟨a.toArray⟩,.int .i64 B] w fun e w'=>e=.returned (.tuple #[.string ⟨(baseRes a B).1.toArray⟩,.int .i64 (baseRes a B).2])∧Below w.heap.size w w':=by
 have hc:=hid (parse_fn a ha w)
 have hf:=fun w=>hid (far_fn B w)
 unfold ParseP at hc
 cases hok:pOK a with
 | false=>
  have HR:=hid (show baseRes a B=([],2) by unfold baseRes;rw [hok];rfl)
  rw [hok] at hc
  clear hok
  go_enter Tryz.func106,Tryz.ntmps106
  go_wp2_with fail
  (with_reducible refine hc.out.mono ?_);rintro e w1 ⟨v,rfl,hb1,hv,x1,x2,x3,g,h,rfl⟩
  go_wp2
  go_ret2
  exact ⟨by rw [HR.out];rfl,hb1.alloc hb1.size _⟩
 | true=>
  have HR:=hid (show baseRes a B=if B<2∨36<B then ([],7) else if big600≤(pVal a).natAbs then ([],4) else (numText B.toNat (pVal a).natAbs (decide (pVal a<0)),0) by unfold baseRes;rw [if_pos hok])
  rw [hok] at hc
  clear hok
  by_cases hfar:B<2∨36<B
  ·have HR2:=hid (show baseRes a B=([],7) by rw [HR.out,if_pos hfar])
   have hfb:(decide (B<2) || decide (36<B))=true:=by simpa using hfar
   rw [hfb] at hf
   clear hfar hfb
   go_enter Tryz.func106,Tryz.ntmps106
   go_wp2_with fail
   (with_reducible refine hc.out.mono ?_);rintro e w1 ⟨v,rfl,hb1,hv,x1,x2,x3,g,h,rfl⟩
   go_wp2_with fail
   (with_reducible refine (hf _).out.mono ?_);rintro e w' ⟨rfl,rfl⟩
   go_wp2
   go_ret2
   exact ⟨by rw [HR2.out];rfl,hb1.alloc hb1.size _⟩
  ·have hfb:(decide (B<2) || decide (36<B))=false:=by simpa using hfar
   rw [hfb] at hf
   have HR2:=hid (show baseRes a B=if big600≤(pVal a).natAbs then ([],4) else (numText B.toNat (pVal a).natAbs (decide (pVal a<0)),0) by rw [HR.out,if_neg hfar])
   have hB2:2≤B.toNat:=by omega
   have hB36:B.toNat≤36:=by omega
   have hBB:(B.toNat:Int)=B:=by omega
   clear hfar hfb
   go_enter Tryz.func106,Tryz.ntmps106
   go_wp2_with fail
   (with_reducible refine hc.out.mono ?_);rintro e w1 ⟨v,rfl,hb1,hv,x1,x2,x3,g,h,rfl⟩
   have hv':=(hv (by first | rfl | trivial)).num
   obtain ⟨a0,n0,c0,he⟩:=(hv (by first | rfl | trivial)).shape
   simp only [Value.agg.injEq,Array.mk.injEq,List.cons.injEq,Value.slice.injEq,Value.bool.injEq,and_true] at he
   obtain ⟨-,hg,hh⟩:=he
   have HH:=hid hh
   clear hv a0 n0 c0 hg hh
   have hbA:Below w.heap.size w (w1.alloc (.cells #[.slice x1 x2 x3,.bool g,.bool h] 156)):=hb1.alloc hb1.size _
   have hvA:=hv'.below ((Below.refl _ w1).alloc (Nat.le_refl _) (.cells #[.slice x1 x2 x3,.bool g,.bool h] 156))
   go_wp2_with fail
   (with_reducible refine (hf _).out.mono ?_);rintro e w' ⟨rfl,rfl⟩
   cases h with
   | true=>
    have hbig:big600≤(pVal a).natAbs:=of_decide_eq_true HH.out.symm
    have HR3:=hid (show baseRes a B=([],4) by rw [HR2.out,if_pos hbig])
    clear hbig
    go_wp2
    go_ret2
    exact ⟨by rw [HR3.out];rfl,hbA⟩
   | false=>
    have hsm:¬ big600≤(pVal a).natAbs:=of_decide_eq_false HH.out.symm
    have HR3:=hid (show baseRes a B=(numText B.toNat (pVal a).natAbs (decide (pVal a<0)),0) by rw [HR2.out,if_neg hsm])
    obtain ⟨hI,hn⟩:=hvA.int (by omega)
    have ht:=text_num hI (by omega) B.toNat hB2 hB36
    rw [hBB] at ht
    have ht:=hid ht
    clear hsm
    go_wp2_with fail
    (with_reducible refine ht.out.mono ?_);rintro e w2 ⟨rfl,hb2⟩
    go_wp2
    go_ret2
    exact ⟨by rw [HR3.out];rfl,hbA.trans (hb2.mono hbA.size)⟩
end Go.Proofs.YtbilphfbfnohmaaGreatDoor
namespace Go.Proofs.YtbilphfbfnohmaaGreatDoor
open Go.RowKit
theorem within_fn (n lo hi:Int) (w:World):Calls Tryz.prog 159 #[.int .i64 n,.int .i64 lo,.int .i64 hi] w fun e w'=>e=.returned (.bool (decide (lo≤n) && decide (n≤hi)))∧w'=w:=by
 by_cases h1:lo≤n
 ·have HE:=hid (show (decide (lo≤n) && decide (n≤hi))=decide (n≤hi) by rw [decide_eq_true h1];rfl)
  go_enter Tryz.func159,Tryz.ntmps159
  go_wp2
  go_ret
  exact ⟨by rw [HE.out];rfl,rfl⟩
 ·have HE:=hid (show (decide (lo≤n) && decide (n≤hi))=false by rw [decide_eq_false h1];rfl)
  go_enter Tryz.func159,Tryz.ntmps159
  go_wp2
  go_ret
  exact ⟨by rw [HE.out];rfl,rfl⟩
def smallN (x:Nat):Nat:=if 65≤x∧x≤90 then x+32 else x
theorem small_fn (x:Nat) (hx:x<256) (w:World):Calls Tryz.prog 202 #[.int .u8 x] w fun e w'=>e=.returned (.int .u8 (smallN x))∧w'=w:=by
 have hc:=hid (within_fn x 65 90 w)
 by_cases h:65≤x∧x≤90
 ·have HE:=hid (show smallN x=x+32 by unfold smallN;rw [if_pos h])
  have hb:(decide ((65:Int)≤(x:Int)) && decide ((x:Int)≤90))=true:=by
   rw [decide_eq_true (by omega),decide_eq_true (by omega)];rfl
  rw [hb] at hc
  have hc:=hid hc.out
  obtain ⟨g1,g2⟩:=h
  go_enter Tryz.func202,Tryz.ntmps202
  go_wp2_with fail
  (with_reducible refine hc.out.mono ?_);rintro e w' ⟨rfl,rfl⟩
  go_wp2
  go_ret
  exact ⟨by rw [HE.out];rfl,rfl⟩
 ·have HE:=hid (show smallN x=x by unfold smallN;rw [if_neg h])
  have hb:(decide ((65:Int)≤(x:Int)) && decide ((x:Int)≤90))=false:=by
   by_cases h1:65≤x
   ·rw [decide_eq_false (show ¬ (x:Int)≤90 by omega),Bool.and_false]
   ·rw [decide_eq_false (show ¬ (65:Int)≤(x:Int) by omega),Bool.false_and]
  rw [hb] at hc
  have hc:=hid hc.out
  clear h
  go_enter Tryz.func202,Tryz.ntmps202
  go_wp2_with fail
  (with_reducible refine hc.out.mono ?_);rintro e w' ⟨rfl,rfl⟩
  go_wp2
  go_ret
  exact ⟨by rw [HE.out];rfl,rfl⟩
def digR (c:UInt8) (b:Nat):Int:=if valOf c<b then (valOf c:Int) else -1
theorem digit_fn (c:UInt8) (b:Nat) (hb:b≤36) (hb2:2≤b) (w:World):Calls Tryz.prog 178 #[.int .u8 c.toNat,.int .i64 b] w fun e w'=>e=.returned (.int .i64 (digR c b))∧w'=w:=by
  have hw:valOf c=if 48≤c.toNat∧c.toNat≤57 then c.toNat-48
    else if 97≤c.toNat∧c.toNat≤122 then c.toNat-97+10
    else if 65≤c.toNat∧c.toNat≤90 then c.toNat-65+10
    else 36:=rfl
  have hd:digR c b=if valOf c<b then (valOf c:Int) else -1:=rfl
  have hl:c.toNat<256:=c.toNat_lt
  generalize digR c b=R at hd ⊢
  generalize valOf c=V at hw hd
  generalize c.toNat=x at hl hw ⊢
  have hc1:=hid (within_fn x 48 57 w)
  have hsm:=hid (small_fn x hl w)
  have hc2:=hid (within_fn (smallN x) 97 122 w)
  have hsl:smallN x=if 65≤x∧x≤90 then x+32 else x:=rfl
  generalize smallN x=y at hsm hc2 hsl
  have hy:y<256:=by rw [hsl];split<;>omega
  by_cases h1:48≤x∧x≤57
  · have hb1 : (decide ((48 : Int) ≤ (x : Int)) && decide ((x : Int) ≤ 57)) = true := by
      rw [decide_eq_true (by omega),decide_eq_true (by omega)];rfl
    rw [hb1] at hc1
    have hc1:=hid hc1.out
    rw [if_pos h1] at hw
    obtain ⟨g1,g2⟩:=h1
    clear hc2 hsm hsl hy
    by_cases hlt:V<b
    · have HE:=hid (show R=(x:Int)-48 by rw [hd,if_pos hlt];omega)
      have hlt':(x:Int)-48<(b:Int):=by omega
      clear hd hw
      go_enter Tryz.func178,Tryz.ntmps178
      go_wp2_with fail
      (with_reducible refine hc1.out.mono ?_);rintro e w' ⟨rfl,rfl⟩
      go_wp2
      go_ret
      exact ⟨by rw [HE.out];rfl,rfl⟩
    · have HE:=hid (show R = -1 by rw [hd,if_neg hlt])
      have hlt':¬ (x:Int)-48<(b:Int):=by omega
      clear hd hw
      go_enter Tryz.func178,Tryz.ntmps178
      go_wp2_with fail
      (with_reducible refine hc1.out.mono ?_);rintro e w' ⟨rfl,rfl⟩
      go_wp2
      go_ret
      exact ⟨by rw [HE.out];rfl,rfl⟩
  · have hb1 : (decide ((48 : Int) ≤ (x : Int)) && decide ((x : Int) ≤ 57)) = false := by
      by_cases h2:48≤x
      · rw [decide_eq_false (show ¬ (x:Int)≤57 by omega),Bool.and_false]
      · rw [decide_eq_false (show ¬ (48:Int)≤(x:Int) by omega),Bool.false_and]
    rw [hb1] at hc1
    have hc1:=hid hc1.out
    rw [if_neg h1] at hw
    by_cases h2:97≤y∧y≤122
    · have hb2 : (decide ((97 : Int) ≤ (y : Int)) && decide ((y : Int) ≤ 122)) = true := by
        rw [decide_eq_true (by omega),decide_eq_true (by omega)];rfl
      rw [hb2] at hc2
      have hc2:=hid hc2.out
      have hV:V=y-97+10:=by
        rw [hw]
        by_cases h3:65≤x∧x≤90
        · rw [if_pos h3] at hsl;rw [if_neg (by omega),if_pos h3];omega
        · rw [if_neg h3] at hsl;rw [hsl] at h2;rw [if_pos h2];omega
      obtain ⟨g1,g2⟩:=h2
      clear h1 hsl hw
      by_cases hlt:V<b
      · have HE:=hid (show R=(y:Int)-97+10 by rw [hd,if_pos hlt];omega)
        have hlt':(y:Int)-97+10<(b:Int):=by omega
        clear hd hV
        go_enter Tryz.func178,Tryz.ntmps178
        go_wp2_with fail
        (with_reducible refine hc1.out.mono ?_);rintro e w' ⟨rfl,rfl⟩
        go_wp2_with fail
        (with_reducible refine hsm.out.mono ?_);rintro e w' ⟨rfl,rfl⟩
        go_wp2_with fail
        (with_reducible refine hc2.out.mono ?_);rintro e w' ⟨rfl,rfl⟩
        go_wp2_with fail
        (with_reducible refine hsm.out.mono ?_);rintro e w' ⟨rfl,rfl⟩
        go_wp2
        go_ret
        exact ⟨by rw [HE.out];rfl,rfl⟩
      · have HE:=hid (show R = -1 by rw [hd,if_neg hlt])
        have hlt':¬ (y:Int)-97+10<(b:Int):=by omega
        clear hd hV
        go_enter Tryz.func178,Tryz.ntmps178
        go_wp2_with fail
        (with_reducible refine hc1.out.mono ?_);rintro e w' ⟨rfl,rfl⟩
        go_wp2_with fail
        (with_reducible refine hsm.out.mono ?_);rintro e w' ⟨rfl,rfl⟩
        go_wp2_with fail
        (with_reducible refine hc2.out.mono ?_);rintro e w' ⟨rfl,rfl⟩
        go_wp2_with fail
        (with_reducible refine hsm.out.mono ?_);rintro e w' ⟨rfl,rfl⟩
        go_wp2
        go_ret
        exact ⟨by rw [HE.out];rfl,rfl⟩
    · have hb2 : (decide ((97 : Int) ≤ (y : Int)) && decide ((y : Int) ≤ 122)) = false := by
        by_cases h3:97≤y
        · rw [decide_eq_false (show ¬ (y:Int)≤122 by omega),Bool.and_false]
        · rw [decide_eq_false (show ¬ (97:Int)≤(y:Int) by omega),Bool.false_and]
      rw [hb2] at hc2
      have hc2:=hid hc2.out
      have hV:V=36:=by
        rw [hw]
        by_cases h3:65≤x∧x≤90
        · rw [if_pos h3] at hsl;omega
        · rw [if_neg h3] at hsl;rw [hsl] at h2;rw [if_neg h2,if_neg h3]
      have HE:=hid (show R = -1 by rw [hd,if_neg (by omega)])
      clear h1 hsl hw h2 hd hV
      go_enter Tryz.func178,Tryz.ntmps178
      go_wp2_with fail
      (with_reducible refine hc1.out.mono ?_);rintro e w' ⟨rfl,rfl⟩
      go_wp2_with fail
      (with_reducible refine hsm.out.mono ?_);rintro e w' ⟨rfl,rfl⟩
      go_wp2_with fail
      (with_reducible refine hc2.out.mono ?_);rintro e w' ⟨rfl,rfl⟩
      go_wp2
      go_ret
      exact ⟨by rw [HE.out];rfl,rfl⟩
theorem digitR_fn (c:UInt8) (b:Nat) (hb:b≤36) (hb2:2≤b) (w:World):Calls Tryz.prog 131 #[.int .u8 c.toNat,.int .i64 b] w fun e w'=>e=.returned (.int .i64 (digR c b))∧w'=w:=by
 have hc:=hid (digit_fn c b hb hb2 w)
 go_enter Tryz.func131,Tryz.ntmps131
 go_wp2_with fail
 (with_reducible refine hc.out.mono ?_);rintro e w' ⟨rfl,rfl⟩
 go_wp2
 go_ret
 exact ⟨rfl,rfl⟩
theorem has_fn (l:List UInt8) (hl:l.length≤1000000000) (c:UInt8) (w:World):Calls Tryz.prog 177 #[.string ⟨l.toArray⟩,.int .u8 c.toNat] w fun e w'=>e=.returned (.bool (l.contains c))∧w'=w:=by
  have hsz:(⟨l.toArray⟩:ByteArray).size=l.length:=Lib.size_mk _
  generalize hR:l.contains c=R
  have HR:=hid hR
  clear hR
  go_enter Tryz.func177,Tryz.ntmps177
  go_wp2
  go_loop [8] (fun iv=>∃ i:Nat,iv=.int .i64 i∧i≤l.length∧(l.take i).contains c=false) (fun iv=>l.length-(intOf iv).toNat)
  case atStart=>exact ⟨0,rfl,Nat.zero_le _,rfl⟩
  case round=>
    obtain ⟨i,rfl,hi,hn⟩:=hrel
    have HN:=hid hn
    clear hn
    by_cases hlt:i<l.length
    · have hx:∀ h,(⟨l.toArray⟩:ByteArray)[i]'h=l[i]'hlt:=fun h=>rfl
      by_cases hc:l[i]'hlt=c
      · have hE:(((l[i]'hlt).toNat:Nat):Int)=((c.toNat:Nat):Int):=by rw [hc]
        have HC:=hid (show R=true by rw [← HR.out,List.contains_iff_mem];rw [← hc];exact List.getElem_mem hlt)
        go_wp2
        go_ret
        exact ⟨by rw [HC.out];rfl,rfl⟩
      · have hne : ((((l[i]'hlt).toNat : Nat) : Int) == ((c.toNat : Nat) : Int)) = false := by
          have:(l[i]'hlt).toNat≠c.toNat:=fun e=>hc (UInt8.toNat_inj.1 e)
          rw [beq_eq_false_iff_ne];omega
        go_wp2
        refine ⟨⟨i+1,by go_num,by omega,?_⟩,?_⟩
        · rw [List.take_add_one,List.getElem?_eq_getElem hlt]
          have h1:=HN.out
          rw [List.contains_eq_mem,decide_eq_false_iff_not] at h1 ⊢
          intro hm
          rcases List.mem_append.1 hm with h | h
          · exact h1 h
          · exact hc (List.mem_singleton.1 h).symm
        · simp [intOf]<;>omega
    · obtain rfl:i=l.length:=by omega
      have HC:=hid (show R=false by have:=HN.out;rw [List.take_length] at this;rw [← HR.out];exact this)
      go_wp2
      go_ret
      exact ⟨by rw [HC.out];rfl,rfl⟩
theorem white_has (c:UInt8):([9,10,11,12,13,32]:List UInt8).contains c=isWh c:=by
 have key:∀ k:UInt8,(c=k)↔c.toNat=k.toNat:=fun k=>⟨fun h=>by rw [h],fun h=>UInt8.toNat_inj.1 h⟩
 unfold isWh
 rw [List.contains_eq_mem,Bool.eq_iff_iff]
 simp only [decide_eq_true_eq,Bool.or_eq_true,Bool.and_eq_true,List.mem_cons,List.not_mem_nil,or_false,key]
 have e1:(9:UInt8).toNat=9:=rfl
 have e2:(10:UInt8).toNat=10:=rfl
 have e3:(11:UInt8).toNat=11:=rfl
 have e4:(12:UInt8).toNat=12:=rfl
 have e5:(13:UInt8).toNat=13:=rfl
 have e6:(32:UInt8).toNat=32:=rfl
 omega
theorem has_white (c:UInt8) (w:World):Calls Tryz.prog 177 #[.string ⟨#[9,10,11,12,13,32]⟩,.int .u8 c.toNat] w fun e w'=>e=.returned (.bool (isWh c))∧w'=w:=by
 have h:=has_fn [9,10,11,12,13,32] (by decide) c w
 rw [white_has] at h
 exact h
end Go.Proofs.YtbilphfbfnohmaaGreatDoor
namespace Go.Proofs.YtbilphfbfnohmaaGreatDoor
open Go.RowKit
set_option maxRecDepth 100000 in
set_option maxHeartbeats 4000000 in
theorem trim_fn (l:List UInt8) (hl:l.length≤1000000000) (w:World) :
  Calls Tryz.prog 130 #[.string ⟨l.toArray⟩,.string ⟨#[9,10,11,12,13,32]⟩,.bool true,.bool true] w fun e w'=>e=.returned (.string ⟨(strip l).toArray⟩)∧w'=w:=by
 go_enter Tryz.func130,Tryz.ntmps130
 go_upto_block 0 with fail
 go_cut [0] from 9 to 21 (fun v wx=>v=.string ⟨(l.dropWhile isWh).toArray⟩∧w=wx)
 case first=>
  go_wp2_with fail
  go_loop [0] (fun v=>∃ t:List UInt8,t.length≤1000000000∧v=.string ⟨t.toArray⟩∧t.dropWhile isWh=l.dropWhile isWh) (fun v=>Lib.strSize v)
  case atStart=>exact ⟨l,hl,rfl,rfl⟩
  case round=>
   obtain ⟨t,ht,rfl,he⟩:=hrel
   have hE:=hid he
   clear he
   cases t with
   | cons x t=>
    have h1:(⟨(x::t).toArray⟩:ByteArray).size=t.length+1:=by rw [Lib.size_mk];simp
    have h2:(⟨(x::t).toArray⟩:ByteArray).extract 1 (t.length+1)=⟨t.toArray⟩:=by
     rw [Lib.extract_mk];simp
    have hx:∀ h,(⟨(x::t).toArray⟩:ByteArray)[0]'h=x:=fun h=>rfl
    have hne:(x::t == ([]:List UInt8))=false:=rfl
    have hl':t.length≤999999999:=by simpa using ht
    have hc:=hid (has_white x w)
    clear ht
    go_wp2_with fail
    (with_reducible refine hc.out.mono ?_);rintro e w' ⟨rfl,rfl⟩
    cases hw:isWh x
    ·have hd:(x::t).dropWhile isWh=x::t:=by rw [List.dropWhile_cons,hw];rfl
     go_wp2
     go_meet
     case rel=>exact ⟨by rw [← hE.out,hd],rfl⟩
    ·have hd:(x::t).dropWhile isWh=t.dropWhile isWh:=by rw [List.dropWhile_cons,hw];rfl
     go_wp2
     refine ⟨⟨t,by omega,rfl,by rw [← hE.out,hd]⟩,?_⟩
     rw [Lib.strSize_string,Lib.strSize_string,h1,Lib.size_mk]
     omega
   | nil=>
    have h1:(⟨([]:List UInt8).toArray⟩:ByteArray).size=0:=rfl
    go_wp2
    go_meet
    case rel=>exact ⟨by rw [← hE.out];rfl,rfl⟩
 case rest=>
  obtain ⟨rfl,rfl⟩:=hcut
  have hL:(l.dropWhile isWh).length≤1000000000:=Nat.le_trans (List.dropWhile_sublist _).length_le hl
  go_upto_block 2 with fail
  go_cut [0] from 22 to 40 (fun v wx=>v=.string ⟨(strip l).toArray⟩∧w=wx)
  case first=>
   go_wp2_with fail
   go_loop [0] (fun v=>∃ t:List UInt8,t.length≤1000000000∧v=.string ⟨t.toArray⟩∧(t.reverse.dropWhile isWh).reverse=strip l) (fun v=>Lib.strSize v)
   case atStart=>exact ⟨_,hL,rfl,rfl⟩
   case round=>
    obtain ⟨t,ht,rfl,he⟩:=hrel
    have hE:=hid he
    clear he
    rcases nil_or_snoc t with rfl | ⟨t,x,rfl⟩
    ·have h1:(⟨([]:List UInt8).toArray⟩:ByteArray).size=0:=rfl
     go_wp2
     go_meet
     case rel=>exact ⟨by rw [← hE.out];rfl,rfl⟩
    ·have hre:(t++[x]).reverse=x::t.reverse:=by simp
     rw [hre] at hE
     have hE:=hid hE.out
     clear hre
     have h1:(⟨(t++[x]).toArray⟩:ByteArray).size=t.length+1:=by rw [Lib.size_mk];simp
     have h2:(⟨(t++[x]).toArray⟩:ByteArray).extract 0 t.length=⟨t.toArray⟩:=by
      rw [Lib.extract_mk];simp
     have hx:∀ h,(⟨(t++[x]).toArray⟩:ByteArray)[t.length]'h=x:=by
      intro h
      show (t++[x])[t.length]=x
      simp
     have hne:((t++[x]) == ([]:List UInt8))=false:=by cases t<;>rfl
     have hl':t.length≤999999999:=by simpa using ht
     have hc:=hid (has_white x w)
     clear ht
     generalize hT:t++[x]=T at *
     have HT:=hid hT
     clear hT
     go_wp2_with fail
     (with_reducible refine hc.out.mono ?_);rintro e w' ⟨rfl,rfl⟩
     cases hw:isWh x
     ·have hd:(x::t.reverse).dropWhile isWh=x::t.reverse:=by rw [List.dropWhile_cons,hw];rfl
      go_wp2
      go_meet
      case rel=>exact ⟨by rw [← hE.out,hd];simp [HT.out],rfl⟩
     ·have hd:(x::t.reverse).dropWhile isWh=t.reverse.dropWhile isWh:=by rw [List.dropWhile_cons,hw];rfl
      go_wp2
      refine ⟨⟨t,by omega,rfl,by rw [← hE.out,hd]⟩,?_⟩
      rw [Lib.strSize_string,Lib.strSize_string,h1,Lib.size_mk]
      omega
  case rest=>
   obtain ⟨rfl,rfl⟩:=hcut
   go_wp2
   go_ret
   exact ⟨rfl,rfl⟩
theorem strip_fn (l:List UInt8) (hl:l.length≤1000000000) (w:World) :
  Calls Tryz.prog 77 #[.string ⟨l.toArray⟩] w fun e w'=>e=.returned (.string ⟨(strip l).toArray⟩)∧w'=w:=by
 have hc:=hid (trim_fn l hl w)
 go_enter Tryz.func77,Tryz.ntmps77
 go_wp2_with fail
 (with_reducible refine hc.out.mono ?_);rintro e w' ⟨rfl,rfl⟩
 go_wp2
 go_ret
 exact ⟨rfl,rfl⟩
end Go.Proofs.YtbilphfbfnohmaaGreatDoor
namespace Go.Proofs.YtbilphfbfnohmaaGreatDoor
open Go.RowKit
theorem Tryz.infoInt:(Tryz.prog.info? 3).map (fun i=>(i.zero,i.size,i.bytes))=some (some (.int .i64 0),1,8):=by kernel_rfl
def DecRep (w:World) (v:Value) (n:Nat):Prop:=Row .i64 w v (dlen 10 n) (dgt 10 n)
def OwnDec (w:World) (base:Nat) (v:Value) (n:Nat):Prop:=Own .i64 3 w base v (dlen 10 n) (dgt 10 n)
theorem DecRep.below {w w':World} {v:Value} {n:Nat} (h:DecRep w v n) (hb:Below w.heap.size w w'):DecRep w' v n:=Row.below h hb
theorem OwnDec.dec {w:World} {base:Nat} {v:Value} {n:Nat} (h:OwnDec w base v n):DecRep w v n:=Own.row h
theorem DecRep.shape {w:World} {v:Value} {n:Nat} (h:DecRep w v n):∃ a cap,v=.slice a (dlen 10 n) cap:=by
 obtain ⟨a,cap,rfl,_⟩:=h
 exact ⟨a,cap,rfl⟩
section
variable {w:World} {ops:Array Oper} {rest:List Oper} {o:Oper} {a:Act} {Q:Exit→Act→World→Prop}
theorem app_i64 (hgd:o.guard=none) (s x:Operand)
  (ho:o.op=.call { callee:=.builtin .append,args:=#[s,x],argTypes:=#[58,58] })
  (base:Nat) (v:Value) (n:Nat) (f:Nat→Nat) (hs:a.eval s=v) (hown:Own .i64 3 w base v n f)
  (X:Int) (hx:a.eval x=.slice (some ⟨w.heap.size,0,none⟩) 1 1) (hX:X=((f n:Nat):Int)) (hn:n≤1000000000000) (hbase:base≤w.heap.size)
  (h:∀ v' w',Own .i64 3 w' base v' (n+1) f→Below base w w'→wpList Tryz.prog ops Q rest (a.put o.dst v') w') :
  wpList Tryz.prog ops Q (o::rest) a (w.alloc (.cells #[.int .i64 X] 3)):=by
 subst hX
 obtain ⟨i0,hi,hz0,hz1,hz2⟩:=info_parts Tryz.infoInt
 refine wpList_append_own _ hgd s x 58 ho base 3 i0 (.int .i64 0) 1 8 Tryz.underlying58 hi hz0 hz1 hz2 rfl (by decide) v n _ hs (World.ownsRow.alloc hown _)
  ⟨w.heap.size,0,none⟩ 1 1 [.int .i64 ((f n:Nat):Int)] hx rfl (cell_one_new _ _ _) (by intro u hu;simp at hu;subst hu;rfl) (by unfold maxLen;omega) (by omega) (by simp;omega) ?_
 intro v' w' hown' hgrow _
 refine h v' w' (by unfold Own;rw [cellsK_succ];exact hown') ?_
 refine (((Below.refl base w).alloc hbase _).grown hgrow (by simp;omega) ?_)
 intro k hk
 obtain ⟨hl,⟨hv,h0⟩ | ⟨g,cap,cur,hv,hg,hr⟩⟩:=hown
 ·subst hv;cases hk
 ·subst hv
  simp [Value.ownBlock] at hk
  omega
end
theorem dgt_top (n j:Nat) (h:n<10 ^ (j+1)) (h0:dgt 10 n j=0):n<10 ^ j:=by
 unfold dgt at h0
 rw [Nat.pow_succ] at h
 have hp:0<10 ^ j:=Nat.pow_pos (by decide)
 generalize 10 ^ j=X at *
 have h1:n / X<10:=by rw [Nat.div_lt_iff_lt_mul hp];omega
 have h2:n / X=0:=by
  generalize n / X=e at *
  omega
 exact (Nat.div_eq_zero_iff_lt hp).1 h2
theorem dlen_of_top (n j:Nat) (h:n<10 ^ j) (h0:j=0∨dgt 10 n (j-1)≠0):dlen 10 n=j:=by
  have h1:=(dlen_le_iff 10 n j (by decide)).2 h
  rcases h0 with rfl | h0
  · omega
  · have h2 : ¬ dlen 10 n ≤ j - 1 := by
      intro h3
      have h4:=(dlen_le_iff 10 n (j-1) (by decide)).1 h3
      apply h0
      unfold dgt
      rw [Nat.div_eq_of_lt h4]
    omega
set_option maxHeartbeats 1000000 in
theorem trimmedD_row {a:Option Addr} {cap n k:Nat} {w:World} (h:Row .i64 w (.slice a k cap) k (dgt 10 n)) (hk:k≤1000000000) (hn:n<10 ^ k) :
  Calls Tryz.prog 132 #[.slice a k cap] w fun e w'=>e=.returned (.slice a (dlen 10 n) cap)∧w'=w:=by
 obtain ⟨a',cap',hv,hcap,hcell⟩:=h
 simp only [Value.slice.injEq,true_and] at hv
 obtain ⟨rfl,rfl⟩:=hv
 have hl:=(dlen_le_iff 10 n k (by decide)).2 hn
 clear hn
 go_enter Tryz.func132,Tryz.ntmps132
 go_wp2
 go_loop [0] (fun v=>∃ j:Nat,v=.slice a j cap∧dlen 10 n≤j∧j≤k) (fun v=>lenOf v)
 case atStart=>exact ⟨k,rfl,hl,Nat.le_refl _⟩
 case round=>
  obtain ⟨j,rfl,h1,h2⟩:=hrel
  by_cases hj:j=0
  ·subst hj
   go_wp2
   go_ret
   have hz:dlen 10 n=0:=by omega
   exact ⟨by rw [hz];rfl,rfl⟩
  ·obtain ⟨b,off,rfl,hlt,hc⟩:=hcell (by omega)
   have hcj:=hc (j-1) (by omega)
   have hj':((j:Int)-1)=((j-1:Nat):Int):=by omega
   by_cases hd:dgt 10 n (j-1)=0
   ·have hd':((dgt 10 n (j-1):Nat):Int)=0:=by omega
    go_wp2
    go_round
    case rel=>
     refine ⟨j-1,by go_num,?_,by omega⟩
     exact (dlen_le_iff 10 n _ (by decide)).2 (dgt_top n (j-1) (by rw [Nat.sub_add_cancel (by omega)];exact (dlen_le_iff 10 n _ (by decide)).1 h1) hd)
    case measure=>simp [lenOf]<;>omega
   ·have hd':(((dgt 10 n (j-1):Nat):Int) == 0)=false:=by rw [beq_eq_false_iff_ne];omega
    have hz:dlen 10 n=j:=dlen_of_top n j ((dlen_le_iff 10 n _ (by decide)).1 h1) (.inr hd)
    have HZ:=hid hz
    clear hz
    go_wp2
    go_ret
    exact ⟨by rw [HZ.out];rfl,rfl⟩
end Go.Proofs.YtbilphfbfnohmaaGreatDoor
namespace Go.Proofs.YtbilphfbfnohmaaGreatDoor
open Go.RowKit
def DNum (w:World) (v:Value) (z:Int):Prop:=∃ s,v=.agg #[.bool (decide (z<0)),s]∧DecRep w s z.natAbs
def OwnDNum (w:World) (base:Nat) (v:Value) (z:Int):Prop:=∃ s,v=.agg #[.bool (decide (z<0)),s]∧OwnDec w base s z.natAbs
theorem OwnDNum.num {w:World} {base:Nat} {v:Value} {z:Int} (h:OwnDNum w base v z):DNum w v z:=by
 obtain ⟨s,rfl,h⟩:=h
 exact ⟨s,rfl,h.dec⟩
theorem DNum.below {w w':World} {v:Value} {z:Int} (h:DNum w v z) (hb:Below w.heap.size w w'):DNum w' v z:=by
 obtain ⟨s,rfl,h⟩:=h
 exact ⟨s,rfl,h.below hb⟩
theorem dlen_pos_iff (n:Nat):0<dlen 10 n↔0<n:=by
 have:=dlen_zero_iff 10 n (by decide)
 omega
theorem num_fn {s:Value} {n:Nat} {w:World} (h:DecRep w s n) (hl:dlen 10 n≤1000000000) (b:Bool) :
  Calls Tryz.prog 80 #[.bool b,s] w fun e w'=>e=.returned (.agg #[.bool (b && decide (0<n)),s])∧Below w.heap.size w w':=by
 obtain ⟨a,cap,rfl⟩:=h.shape
 have hn:decide (0<n)=decide ((0:Int)<(dlen 10 n:Nat)):=by
  have:=dlen_pos_iff n
  by_cases h0:0<n
  ·rw [decide_eq_true h0,decide_eq_true (by omega)]
  ·rw [decide_eq_false h0,decide_eq_false (by omega)]
 rw [hn]
 clear hn
 cases b
 ·go_enter Tryz.func80,Tryz.ntmps80
  go_wp2
  exact bodyPost_ret (v:=.agg #[.bool false,.slice a (dlen 10 n) cap]) (by simp [results,Tryz.results80,go_sem]) rfl ⟨rfl,(Below.refl _ _).alloc (Nat.le_refl _) _⟩
 ·go_enter Tryz.func80,Tryz.ntmps80
  go_wp2
  exact bodyPost_ret (v:=.agg #[.bool (decide ((0:Int)<(dlen 10 n:Nat))),.slice a (dlen 10 n) cap]) (by simp [results,Tryz.results80,go_sem]) rfl ⟨by simp,(Below.refl _ _).alloc (Nat.le_refl _) _⟩
theorem big_dlen (n:Nat):decide ((600:Int)<(dlen 10 n:Nat))=decide (big600≤n):=by
 have h1:=digits_600 n
 by_cases h2:n<big600
 ·have h3:=h1.2 h2
  rw [decide_eq_false (by omega),decide_eq_false (by omega)]
 ·have h3:¬ dlen 10 n≤600:=fun h=>h2 (h1.1 h)
  rw [decide_eq_true (by omega),decide_eq_true (by omega)]
theorem long_fn {v:Value} {z:Int} {w:World} (h:DNum w v z) (_hl:dlen 10 z.natAbs≤1000000000) :
  Calls Tryz.prog 81 #[v] w fun e w'=>e=.returned (.bool (decide (big600≤z.natAbs)))∧Below w.heap.size w w':=by
 obtain ⟨s,rfl,h⟩:=h
 obtain ⟨a,cap,rfl⟩:=h.shape
 have HB:=hid (big_dlen z.natAbs)
 generalize decide (big600≤z.natAbs)=R at HB ⊢
 go_enter Tryz.func81,Tryz.ntmps81
 go_wp2
 go_ret
 exact ⟨by rw [← HB.out];rfl,(Below.refl _ _).alloc (Nat.le_refl _) _⟩
theorem snocRec {p:List UInt8→Prop} (h0:p []) (h1:∀ l c,p l→p (l++[c])) (l:List UInt8):p l:=by
 have key:∀ r:List UInt8,p r.reverse:=by
  intro r
  induction r with
  | nil=>exact h0
  | cons c r ih=>rw [List.reverse_cons];exact h1 _ _ ih
 have:=key l.reverse
 rwa [List.reverse_reverse] at this
def fdig (l:List UInt8) (j:Nat):Nat:=valOf (l.getD (l.length-1-j) 0)
theorem numOf_snoc (b:Nat) (l:List UInt8) (c:UInt8):numOf b (l++[c])=numOf b l*b+valOf c:=by
 unfold numOf numFrom
 rw [List.foldl_append]
 rfl
theorem numOf_lt (b:Nat) (_hb:2≤b) (l:List UInt8) (h:∀ c∈l,valOf c<b):numOf b l<b ^ l.length:=by
 revert h
 refine snocRec (p:=fun l=>(∀ c∈l,valOf c<b)→numOf b l<b ^ l.length) ?_ ?_ l
 ·exact fun _=>Nat.one_pos
 ·intro l c ih h
  rw [numOf_snoc,List.length_append,List.length_singleton,Nat.pow_succ]
  have h1:=ih (fun c hc=>h c (List.mem_append_left _ hc))
  have h2:=h c (List.mem_append_right _ (List.mem_singleton.2 rfl))
  generalize b ^ l.length=X at *
  have h3:=Nat.mul_le_mul_right b (show numOf b l+1≤X from h1)
  rw [Nat.add_mul] at h3
  omega
theorem dgt_numOf (b:Nat) (hb:2≤b) (l:List UInt8) (h:∀ c∈l,valOf c<b) (j:Nat) (hj:j<l.length):dgt b (numOf b l) j=fdig l j:=by
 revert h j
 refine snocRec (p:=fun l=>(∀ c∈l,valOf c<b)→∀ j,j<l.length→dgt b (numOf b l) j=fdig l j) ?_ ?_ l
 ·exact fun h j hj=>absurd hj (Nat.not_lt_zero _)
 ·intro l c ih h j hj
  have h2:=h c (List.mem_append_right _ (List.mem_singleton.2 rfl))
  rw [numOf_snoc]
  cases j with
  | zero=>
   have e:fdig (l++[c]) 0=valOf c:=by
    unfold fdig
    simp
   rw [e]
   unfold dgt
   rw [Nat.pow_zero,Nat.div_one,Nat.mul_comm,Nat.mul_add_mod,Nat.mod_eq_of_lt h2]
  | succ j=>
   have hj':j<l.length:=by simp at hj;omega
   have e:fdig (l++[c]) (j+1)=fdig l j:=by
    unfold fdig
    have e1:(l++[c]).length-1-(j+1)=l.length-1-j:=by simp;omega
    rw [e1]
    simp only [List.getD_eq_getElem?_getD]
    rw [List.getElem?_append_left (by omega)]
   rw [e,← ih (fun c hc=>h c (List.mem_append_left _ hc)) j hj']
   unfold dgt
   rw [Nat.pow_succ,Nat.mul_comm (b ^ j) b,← Nat.div_div_eq_div_mul,Nat.mul_comm (numOf b l) b,Nat.mul_add_div (by omega),Nat.div_eq_of_lt h2,Nat.add_zero]
end Go.Proofs.YtbilphfbfnohmaaGreatDoor
namespace Go.Proofs.YtbilphfbfnohmaaGreatDoor
open Go.RowKit
def RefP (ok:Bool) (z:Int) (w:World) (e:Ending) (w':World):Prop:=
 ∃ v,e=.returned (.tuple #[v,.bool ok])∧Below w.heap.size w w'∧(ok=true→OwnDNum w' w.heap.size v z)∧(∃ g s n c,v=.agg #[.bool g,.slice s n c])
theorem Blk.two {w:World} {b:Nat} {x y:Value} {t:TypeId} (h:Blk w b #[x,y] t):(w.cell? ⟨b,0,none⟩=some x∧w.cell? ⟨b,1,none⟩=some y)∧(w.frozen? ⟨b,0,none⟩=false∧w.frozen? ⟨b,1,none⟩=false):=
 ⟨⟨h.cell 0,h.cell 1⟩,h.free 0,h.free 1⟩
theorem own_set2 {ik:IntKind} {e:TypeId} {w:World} {base b n:Nat} {v:Value} {f:Nat→Nat} (h:Own ik e w base v n f) (x y:Value) (hb:b<base):Own ik e ((w.setCell ⟨b,0,none⟩ x).setCell ⟨b,1,none⟩ y) base v n f:=
 ownsRow_setCell_below (ownsRow_setCell_below h (a:=⟨b,0,none⟩) hb x) (a:=⟨b,1,none⟩) hb y
set_option maxRecDepth 100000 in
set_option maxHeartbeats 4000000 in
theorem dec_fn (l:List UInt8) (hl:l.length≤1000000000) (b:Bool) (w:World) :
  Calls Tryz.prog 78 #[.bool b,.string ⟨l.toArray⟩] w (RefP (rOK 10 l) (sgnInt b (numOf 10 l)) w):=by
 have hsz:(⟨l.toArray⟩:ByteArray).size=l.length:=Lib.size_mk _
 have k0:=Blk.new w #[.bool false,.slice none 0 0] 60
 have hb0:Below w.heap.size w (w.alloc (.cells #[.bool false,.slice none 0 0] 60)):=(Below.refl _ _).alloc (Nat.le_refl _) _
 have hsz0:(w.alloc (.cells #[.bool false,.slice none 0 0] 60)).heap.size=w.heap.size+1:=by simp
 go_enter Tryz.func78,Tryz.ntmps78
 go_wp2
 generalize w.alloc (.cells #[.bool false,.slice none 0 0] 60)=W at *
 go_loopw [6,7] (fun sv iv wr=>∃ k:Nat,iv=.int .i64 ((l.length:Int)-1-k)∧k≤l.length∧Own .i64 3 wr (w.heap.size+1) sv k (fdig l)∧(∀ j,j<k→fdig l j<10)∧Below w.heap.size w wr∧Blk wr w.heap.size #[.bool false,.slice none 0 0] 60) (fun _ iv _=>(intOf iv+1).toNat)
 case atStart=>exact ⟨0,by simp,Nat.zero_le _,Own.nil,fun j h=>absurd h (Nat.not_lt_zero _),hb0,k0⟩
 case round=>
  obtain ⟨k,hiv,hk,hown,hall,hbr,kr⟩:=hrel
  clear k0 hb0 hsz0
  have hA:=hid hall
  clear hall
  obtain ⟨a,cap,rfl⟩:=hown.shape
  have hszr:=hbr.size
  have hltr:=kr.lt
  by_cases hlt:k<l.length
  ·obtain ⟨i,hi⟩:∃ i,i+k+1=l.length:=⟨l.length-1-k,by omega⟩
   have e:(l.length:Int)-1-k=(i:Int):=by omega
   rw [e] at hiv
   subst hiv
   have hil:i<l.length:=by omega
   have hx:∀ h,(⟨l.toArray⟩:ByteArray)[i]'h=l[i]'hil:=fun h=>rfl
   have hfd:fdig l k=valOf (l[i]'hil):=by
    unfold fdig
    have e1:l.length-1-k=i:=by omega
    rw [e1,List.getD_eq_getElem?_getD,List.getElem?_eq_getElem hil]
    rfl
   have hc:=fun w=>hid (digitR_fn (l[i]'hil) 10 (by decide) (by decide) w)
   by_cases hv:valOf (l[i]'hil)<10
   ·have hd:digR (l[i]'hil) 10=(valOf (l[i]'hil):Int):=by unfold digR;rw [if_pos hv]
    rw [hd] at hc
    have hc':∀ w,Hid (Calls Tryz.prog 131 #[.int .u8 (l[i]'hil).toNat,.int .i64 10] w fun e w'=>e=.returned (.int .i64 (valOf (l[i]'hil)))∧w'=w):=hc
    have HF:=hid hfd
    clear hd hc e hfd
    go_wp2_with fail
    (with_reducible refine (hc' _).out.mono ?_);rintro e w' ⟨rfl,rfl⟩
    go_wp2_with fail
    (with_reducible refine (hc' _).out.mono ?_);rintro e w' ⟨rfl,rfl⟩
    go_wp2_with (at_builtin;refine app_i64 rfl _ _ rfl (w.heap.size+1) _ k _ rfl hown _ rfl ?_ (by omega) (by omega) ?_;rotate_left;intro v' w2 hown2 hb2)
    ·go_roundw
     case rel=>
      refine ⟨k+1,?_,by omega,hown2,?_,hbr.trans (hb2.mono (by omega)),kr.below hb2 (by omega)⟩
      ·congr 1;omega
      ·intro j hj
       rcases Nat.lt_or_ge j k with h1 | h1
       ·exact hA.out j h1
       ·obtain rfl:j=k:=by omega
        rw [HF.out];exact hv
     case measure=>simp [intOf]<;>omega
    ·rw [HF.out]
   ·have hd:digR (l[i]'hil) 10 = -1:=by unfold digR;rw [if_neg hv]
    rw [hd] at hc
    have hc':∀ w,Hid (Calls Tryz.prog 131 #[.int .u8 (l[i]'hil).toNat,.int .i64 10] w fun e w'=>e=.returned (.int .i64 (-1))∧w'=w):=hc
    have HB:=hid (rOK_bad 10 l i hil hv)
    obtain ⟨⟨p1,p2⟩,q1,q2⟩:=kr.two
    clear hd hc e hfd hv
    go_wp2_with fail
    (with_reducible refine (hc' _).out.mono ?_);rintro e w' ⟨rfl,rfl⟩
    go_wp2
    refine bodyPost_ret (v:=.tuple #[.agg #[.bool false,.slice none 0 0],.bool false]) (by simp [results,Tryz.results78,go_sem,p1,p2]) rfl ⟨_,by rw [HB.out],?_,fun h=>absurd h (by rw [HB.out];decide),⟨_,_,_,_,rfl⟩⟩
    exact (hbr.setCell (p:=⟨w.heap.size,0,none⟩) (Nat.le_refl _) _).setCell (p:=⟨w.heap.size,1,none⟩) (Nat.le_refl _) _
  ·obtain rfl:k=l.length:=by omega
   have e:(l.length:Int)-1-l.length = -1:=by omega
   rw [e] at hiv
   subst hiv
   have hallc:∀ c∈l,valOf c<10:=by
    intro c hc
    obtain ⟨i,hi,rfl⟩:=List.getElem_of_mem hc
    have h1:=hA.out (l.length-1-i) (by omega)
    unfold fdig at h1
    have e1:l.length-1-(l.length-1-i)=i:=by omega
    rw [e1,List.getD_eq_getElem?_getD,List.getElem?_eq_getElem hi] at h1
    exact h1
   have hrok:rOK 10 l=!l.isEmpty:=by
    unfold rOK
    rw [List.all_eq_true.2 (fun c hc=>decide_eq_true (hallc c hc)),Bool.and_true]
   have HROK:=hid hrok
   have hN:=numOf_lt 10 (by decide) l hallc
   have hown':=hown.congr (g:=dgt 10 (numOf 10 l)) (fun j hj=>(dgt_numOf 10 (by decide) l hallc j hj).symm)
   have hdl:=(dlen_le_iff 10 _ _ (by decide)).2 hN
   have hcut:=hown'.cut hdl
   have hct:=hid (trimmedD_row hown'.row (by omega) hN)
   have HV:=hid (show sgnInt b (numOf 10 l)=sgnInt b (numOf 10 l) from rfl)
   clear hallc hrok hN e hown hlt
   generalize hNN:numOf 10 l=N at *
   clear hNN
   have hrep:DecRep wr (.slice a (dlen 10 N) cap) N:=Own.row hcut
   have hcn:=hid (num_fn hrep (by omega) b)
   obtain ⟨⟨p1,p2⟩,q1,q2⟩:=kr.two
   go_wp2_with fail
   (with_reducible refine hct.out.mono ?_);rintro e w' ⟨rfl,rfl⟩
   go_wp2_with fail
   (with_reducible refine hcn.out.mono ?_);rintro e w1 ⟨rfl,hb1⟩
   obtain ⟨⟨r1,r2⟩,s1,s2⟩:=(kr.later hb1).two
   have hkF:=own_set2 (hcut.keep hb1 (Nat.le_refl _)) (.bool (b && decide (0<N))) (.slice a (dlen 10 N) cap) (b:=w.heap.size) (by omega)
   have hbF:=((hbr.trans (hb1.mono hbr.size)).setCell (p:=⟨w.heap.size,0,none⟩) (Nat.le_refl _) (.bool (b && decide (0<N)))).setCell (p:=⟨w.heap.size,1,none⟩) (Nat.le_refl _) (.slice a (dlen 10 N) cap)
   go_wp2
   refine bodyPost_ret (v:=.tuple #[.agg #[.bool (b && decide (0<N)),.slice a (dlen 10 N) cap],.bool (!l.isEmpty)]) (by simp [results,Tryz.results78,go_sem,r1,r2]) rfl ⟨_,by rw [HROK.out],hbF,fun _=>⟨_,by rw [sgnInt_neg],?_⟩,⟨_,_,_,_,rfl⟩⟩
   unfold OwnDec
   rw [sgnInt_abs]
   exact hkF.mono (by omega)
end Go.Proofs.YtbilphfbfnohmaaGreatDoor
namespace Go.Proofs.YtbilphfbfnohmaaGreatDoor
open Go.RowKit
theorem dgt_out (n i:Nat) (h:dlen 10 n≤i):dgt 10 n i=0:=by
 unfold dgt
 rw [(dlen_div 10 n i (by decide)).2 h]
theorem dig_in (b off len cap i:Nat) (x:Int) (w:World) (hi:i<len) (_hl:len≤1000000000000) (hc:w.cell? ⟨b,off+i,none⟩=some (.int .i64 x)) :
  Calls Tryz.prog 113 #[.slice (some ⟨b,off,none⟩) len cap,.int .i64 i] w fun e w'=>e=.returned (.int .i64 x)∧w'=w:=by
 go_enter Tryz.func113,Tryz.ntmps113
 go_wp2
 go_ret
 exact ⟨rfl,rfl⟩
theorem dig_out (a:Option Addr) (len cap i:Nat) (w:World) (hi:len≤i) (_hl:i≤1000000000000) :
  Calls Tryz.prog 113 #[.slice a len cap,.int .i64 i] w fun e w'=>e=.returned (.int .i64 0)∧w'=w:=by
 go_enter Tryz.func113,Tryz.ntmps113
 go_wp2
 go_ret
 exact ⟨rfl,rfl⟩
theorem dig_fn {v:Value} {n:Nat} {w:World} (h:DecRep w v n) (hl:dlen 10 n≤1000000000) (i:Nat) (hi:i≤1000000000) :
  Calls Tryz.prog 113 #[v,.int .i64 i] w fun e w'=>e=.returned (.int .i64 (dgt 10 n i))∧w'=w:=by
 obtain ⟨a,cap,rfl,hc,h⟩:=h
 by_cases hlt:i<dlen 10 n
 ·obtain ⟨b,off,rfl,_,hcell⟩:=h (by omega)
  exact dig_in b off _ cap i _ w hlt (by omega) (hcell i hlt)
 ·have:=dig_out a (dlen 10 n) cap i w (by omega) (by omega)
  rw [dgt_out n i (by omega)]
  exact this
def cy10 (m n i:Nat):Nat:=(m % 10 ^ i+n % 10 ^ i) / 10 ^ i
theorem mod10_succ (n i:Nat):n % 10 ^ (i+1)=dgt 10 n i*10 ^ i+n % 10 ^ i:=by
 unfold dgt
 rw [Nat.pow_succ,Nat.mod_mul,Nat.mul_comm (n / 10 ^ i % 10),Nat.add_comm]
theorem cy10_le (m n i:Nat):cy10 m n i≤1:=by
 unfold cy10
 have h1:=Nat.mod_lt m (Nat.pow_pos (n:=i) (show 0<10 by decide))
 have h2:=Nat.mod_lt n (Nat.pow_pos (n:=i) (show 0<10 by decide))
 have h3:(m % 10 ^ i+n % 10 ^ i) / 10 ^ i<2:=by
  rw [Nat.div_lt_iff_lt_mul (Nat.pow_pos (by decide))];omega
 omega
theorem cy10_step (m n i:Nat):(dgt 10 m i+dgt 10 n i+cy10 m n i) % 10=dgt 10 (m+n) i∧(dgt 10 m i+dgt 10 n i+cy10 m n i) / 10=cy10 m n (i+1):=by
 have hp:0<10 ^ i:=Nat.pow_pos (by decide)
 have key:(m % 10 ^ (i+1)+n % 10 ^ (i+1)) / 10 ^ i=dgt 10 m i+dgt 10 n i+cy10 m n i:=by
  rw [mod10_succ,mod10_succ]
  unfold cy10
  have e:dgt 10 m i*10 ^ i+m % 10 ^ i+(dgt 10 n i*10 ^ i+n % 10 ^ i)=(m % 10 ^ i+n % 10 ^ i)+10 ^ i*(dgt 10 m i+dgt 10 n i):=by
   rw [Nat.mul_add,Nat.mul_comm (10 ^ i),Nat.mul_comm (10 ^ i)];omega
  rw [e,Nat.add_mul_div_left _ _ hp]
  omega
 constructor
 ·rw [← key]
  unfold dgt
  have h1:=Nat.div_add_mod m (10 ^ (i+1))
  have h2:=Nat.div_add_mod n (10 ^ (i+1))
  have e:m+n=(m % 10 ^ (i+1)+n % 10 ^ (i+1))+10 ^ i*(10*(m / 10 ^ (i+1)+n / 10 ^ (i+1))):=by
   have ps:10 ^ i*10=10 ^ (i+1):=(Nat.pow_succ 10 i).symm
   rw [← Nat.mul_assoc,ps,Nat.mul_add]
   omega
  conv=>rhs;rw [e,Nat.add_mul_div_left _ _ hp,Nat.add_mul_mod_self_left]
 ·rw [← key]
  unfold cy10
  rw [Nat.div_div_eq_div_mul,← Nat.pow_succ]
theorem cy10_top (m n i:Nat) (hm:dlen 10 m≤i) (hn:dlen 10 n≤i) (h:cy10 m n i=0):dlen 10 (m+n)≤i:=by
 rw [dlen_le_iff 10 _ _ (by decide)] at hm hn ⊢
 unfold cy10 at h
 rw [Nat.mod_eq_of_lt hm,Nat.mod_eq_of_lt hn] at h
 exact (Nat.div_eq_zero_iff_lt (Nat.pow_pos (by decide))).1 h
theorem cy10_grow (m n i:Nat) (h:i<dlen 10 m∨i<dlen 10 n∨0<cy10 m n i):i<dlen 10 (m+n):=by
 rw [lt_dlen_iff 10 _ _ (by decide)] at *
 rw [lt_dlen_iff 10 n _ (by decide)] at h
 rcases h with h | h | h
 ·omega
 ·omega
 ·unfold cy10 at h
  have h1:10 ^ i≤m % 10 ^ i+n % 10 ^ i:=by
   rcases Nat.lt_or_ge (m % 10 ^ i+n % 10 ^ i) (10 ^ i) with h2 | h2
   ·rw [Nat.div_eq_of_lt h2] at h;omega
   ·exact h2
  have h3:=Nat.mod_le m (10 ^ i)
  have h4:=Nat.mod_le n (10 ^ i)
  omega
def FreshDec (n:Nat) (w:World) (e:Ending) (w':World):Prop:=∃ v,e=.returned v∧OwnDec w' w.heap.size v n∧Below w.heap.size w w'
set_option maxRecDepth 100000 in
set_option maxHeartbeats 4000000 in
theorem plusD_fn {v u:Value} {m n:Nat} {w:World} (hv:DecRep w v m) (hu:DecRep w u n) (hm:dlen 10 m≤100000000) (hn:dlen 10 n≤100000000) :
  Calls Tryz.prog 133 #[v,u] w (FreshDec (m+n) w):=by
 obtain ⟨a1,c1,rfl⟩:=hv.shape
 obtain ⟨a2,c2,rfl⟩:=hu.shape
 go_enter Tryz.func133,Tryz.ntmps133
 go_wp2
 go_loopw [5,6,7] (fun sv cv iv wr=>∃ i:Nat,iv=.int .i64 i∧i≤100000001∧i≤dlen 10 (m+n)∧Own .i64 3 wr w.heap.size sv i (dgt 10 (m+n))∧cv=.int .i64 (cy10 m n i)∧Below w.heap.size w wr) (fun _ _ iv _=>100000001-(intOf iv).toNat)
 case atStart=>exact ⟨0,rfl,by decide,Nat.zero_le _,Own.nil,by simp [cy10],Below.refl _ _⟩
 case round=>
  obtain ⟨i,rfl,hi,hid1,hown,rfl,hbr⟩:=hrel
  obtain ⟨a3,c3,rfl⟩:=hown.shape
  have hcy:=cy10_le m n i
  have hszr:=hbr.size
  have hdm:=dgt_lt 10 m i (by decide)
  have hdn:=dgt_lt 10 n i (by decide)
  have hlim:i<dlen 10 m∨i<dlen 10 n∨0<cy10 m n i→i≤100000000:=by
   intro h
   rcases h with h | h | h
   ·omega
   ·omega
   ·rcases Nat.lt_or_ge i 100000001 with h2 | h2
    ·omega
    ·exfalso
     have h3:dlen 10 m<i:=by omega
     have h4:dlen 10 n<i:=by omega
     obtain ⟨j,rfl⟩:∃ j,i=j+1:=⟨i-1,by omega⟩
     have h5:=(cy10_step m n j).2
     have h6:=cy10_le m n j
     rw [dgt_out m j (by omega),dgt_out n j (by omega)] at h5
     omega
  by_cases h1:i<dlen 10 m
  ·have hlim2:=hlim (.inl h1)
   clear hlim
   have hg:=cy10_grow m n i (.inl h1)
   have hc1:=hid (dig_fn (hv.below hbr) (by omega) i (by omega))
   have hc2:=hid (dig_fn (hu.below hbr) (by omega) i (by omega))
   obtain ⟨hs1,hs2⟩:=cy10_step m n i
   have HS1:=hid hs1
   have HS2:=hid hs2
   clear hs1 hs2
   generalize dgt 10 m i=x at *
   generalize dgt 10 n i=y at *
   generalize cy10 m n i=z at *
   go_wp2_with fail
   (with_reducible refine hc1.out.mono ?_);rintro e w' ⟨rfl,rfl⟩
   go_wp2_with fail
   (with_reducible refine hc2.out.mono ?_);rintro e w' ⟨rfl,rfl⟩
   go_wp2_with (at_builtin;refine app_i64 rfl _ _ rfl w.heap.size _ i _ rfl hown _ rfl ?_ (by omega) (by omega) ?_;rotate_left;intro v' w2 hown2 hb2)
   ·go_roundw
    case rel=>exact ⟨i+1,by go_num,by omega,by omega,hown2,by rw [← HS2.out];rfl,hbr.trans (hb2.mono (Nat.le_refl _))⟩
    case measure=>simp [intOf]<;>omega
   ·rw [← HS1.out];omega
  ·by_cases h2:i<dlen 10 n
   ·have hlim2:=hlim (.inr (.inl h2))
    clear hlim
    have hg:=cy10_grow m n i (.inr (.inl h2))
    have hc1:=hid (dig_fn (hv.below hbr) (by omega) i (by omega))
    have hc2:=hid (dig_fn (hu.below hbr) (by omega) i (by omega))
    obtain ⟨hs1,hs2⟩:=cy10_step m n i
    have HS1:=hid hs1
    have HS2:=hid hs2
    clear hs1 hs2
    generalize dgt 10 m i=x at *
    generalize dgt 10 n i=y at *
    generalize cy10 m n i=z at *
    go_wp2_with fail
    (with_reducible refine hc1.out.mono ?_);rintro e w' ⟨rfl,rfl⟩
    go_wp2_with fail
    (with_reducible refine hc2.out.mono ?_);rintro e w' ⟨rfl,rfl⟩
    go_wp2_with (at_builtin;refine app_i64 rfl _ _ rfl w.heap.size _ i _ rfl hown _ rfl ?_ (by omega) (by omega) ?_;rotate_left;intro v' w2 hown2 hb2)
    ·go_roundw
     case rel=>exact ⟨i+1,by go_num,by omega,by omega,hown2,by rw [← HS2.out];rfl,hbr.trans (hb2.mono (Nat.le_refl _))⟩
     case measure=>simp [intOf]<;>omega
    ·rw [← HS1.out];omega
   ·by_cases h3:0<cy10 m n i
    ·have hlim2:=hlim (.inr (.inr h3))
     clear hlim
     have hg:=cy10_grow m n i (.inr (.inr h3))
     have hc1:=hid (dig_fn (hv.below hbr) (by omega) i (by omega))
     have hc2:=hid (dig_fn (hu.below hbr) (by omega) i (by omega))
     obtain ⟨hs1,hs2⟩:=cy10_step m n i
     have HS1:=hid hs1
     have HS2:=hid hs2
     clear hs1 hs2
     generalize dgt 10 m i=x at *
     generalize dgt 10 n i=y at *
     generalize cy10 m n i=z at *
     go_wp2_with fail
     (with_reducible refine hc1.out.mono ?_);rintro e w' ⟨rfl,rfl⟩
     go_wp2_with fail
     (with_reducible refine hc2.out.mono ?_);rintro e w' ⟨rfl,rfl⟩
     go_wp2_with (at_builtin;refine app_i64 rfl _ _ rfl w.heap.size _ i _ rfl hown _ rfl ?_ (by omega) (by omega) ?_;rotate_left;intro v' w2 hown2 hb2)
     ·go_roundw
      case rel=>exact ⟨i+1,by go_num,by omega,by omega,hown2,by rw [← HS2.out];rfl,hbr.trans (hb2.mono (Nat.le_refl _))⟩
      case measure=>simp [intOf]<;>omega
     ·rw [← HS1.out];omega
    ·have hz:cy10 m n i=0:=by omega
     have htop:=cy10_top m n i (by omega) (by omega) hz
     have hL:=hid (show dlen 10 (m+n)=i by omega)
     clear hlim htop hid1
     rw [hz]
     clear h3 hcy hz
     go_wp2
     go_ret
     exact ⟨_,rfl,by unfold OwnDec;rw [hL.out];exact hown,hbr⟩
end Go.Proofs.YtbilphfbfnohmaaGreatDoor
namespace Go.Proofs.YtbilphfbfnohmaaGreatDoor
open Go.RowKit
theorem dlen_small (n:Nat) (h:n≤9223372036854775807):dlen 10 n≤19:=(dlen_le_iff 10 n 19 (by decide)).2 (by omega)
set_option maxRecDepth 100000 in
set_option maxHeartbeats 4000000 in
theorem natOf_fn (n:Nat) (hn:n≤9223372036854775807) (w:World) :
  Calls Tryz.prog 112 #[.int .i64 n] w (FreshDec n w):=by
 have hdl:=dlen_small n hn
 go_enter Tryz.func112,Tryz.ntmps112
 go_wp2
 go_loopw [0,3] (fun nv sv wr=>∃ k:Nat,nv=.int .i64 ((n / 10 ^ k:Nat):Int)∧k≤dlen 10 n∧Own .i64 3 wr w.heap.size sv k (dgt 10 n)∧Below w.heap.size w wr) (fun _ sv _=>dlen 10 n-lenOf sv)
 case atStart=>exact ⟨0,by simp,Nat.zero_le _,Own.nil,Below.refl _ _⟩
 case round=>
  obtain ⟨k,rfl,hk,hown,hbr⟩:=hrel
  obtain ⟨a3,c3,rfl⟩:=hown.shape
  have hszr:=hbr.size
  have hle:n / 10 ^ k≤n:=Nat.div_le_self _ _
  have hz:=dlen_div 10 n k (by decide)
  have HD:=hid (show dgt 10 n k=n / 10 ^ k % 10 from rfl)
  have HS:=hid (show n / 10 ^ (k+1)=n / 10 ^ k / 10 by rw [Nat.pow_succ,Nat.div_div_eq_div_mul])
  generalize n / 10 ^ k=x at *
  by_cases h0:0<x
  ·have hlt:k<dlen 10 n:=by omega
   go_wp2_with (at_builtin;refine app_i64 rfl _ _ rfl w.heap.size _ k _ rfl hown _ rfl ?_ (by omega) (by omega) ?_;rotate_left;intro v' w2 hown2 hb2)
   ·go_roundw
    case rel=>exact ⟨k+1,by rw [HS.out];rfl,by omega,hown2,hbr.trans (hb2.mono (Nat.le_refl _))⟩
    case measure=>
     have e2:=hown2.lenOf
     have e1:=hown.lenOf
     omega
   ·rw [HD.out];omega
  ·have hx:x=0:=by omega
   have hL:=hid (show dlen 10 n=k by omega)
   subst hx
   clear hz hle
   go_wp2
   go_ret
   exact ⟨_,rfl,by unfold OwnDec;rw [hL.out];exact hown,hbr⟩
end Go.Proofs.YtbilphfbfnohmaaGreatDoor
namespace Go.Proofs.YtbilphfbfnohmaaGreatDoor
theorem pow10_pos (i:Nat):0<10 ^ i:=Nat.pow_pos (by decide)
theorem mod_split10 (n i:Nat):n % 10 ^ (i+1)=n % 10 ^ i+10 ^ i*dgt 10 n i:=by
 rw [mod10_succ,Nat.mul_comm,Nat.add_comm]
theorem dgt_congr (x y t:Nat) (h:x % 10 ^ (t+1)=y % 10 ^ (t+1)):dgt 10 x t=dgt 10 y t:=by
 have e:∀ z,dgt 10 z t=z % 10 ^ (t+1) / 10 ^ t:=by
  intro z
  rw [mod_split10,Nat.add_mul_div_left _ _ (pow10_pos t),Nat.div_eq_of_lt (Nat.mod_lt _ (pow10_pos t)),Nat.zero_add]
 rw [e,e,h]
def sX (m n i:Nat):Nat:=m % 10 ^ i*n
def tX (m n i k:Nat):Nat:=sX m n i % 10 ^ (i+k)+dgt 10 m i*(10 ^ i*(n % 10 ^ k))
def cX (m n i k:Nat):Nat:=tX m n i k / 10 ^ (i+k)
def uX (m n i k:Nat):Nat:=dgt 10 (sX m n i) (i+k)+dgt 10 m i*dgt 10 n k+cX m n i k
theorem tX_zero (m n i:Nat):tX m n i 0=sX m n i % 10 ^ i:=by simp [tX,Nat.mod_one]
theorem cX_zero (m n i:Nat):cX m n i 0=0:=by
 unfold cX;rw [tX_zero,Nat.add_zero];exact Nat.div_eq_of_lt (Nat.mod_lt _ (pow10_pos i))
theorem tX_succ (m n i k:Nat):tX m n i (k+1)=tX m n i k+10 ^ (i+k)*(dgt 10 (sX m n i) (i+k)+dgt 10 m i*dgt 10 n k):=by
 unfold tX
 rw [show i+(k+1)=(i+k)+1 by omega,mod_split10 (sX m n i) (i+k),mod_split10 n k]
 have e:dgt 10 m i*(10 ^ i*(n % 10 ^ k+10 ^ k*dgt 10 n k))=dgt 10 m i*(10 ^ i*(n % 10 ^ k))+10 ^ (i+k)*(dgt 10 m i*dgt 10 n k):=by
  rw [Nat.pow_add,Nat.mul_add (10 ^ i),Nat.mul_add (dgt 10 m i)]
  congr 1
  ac_rfl
 rw [e,Nat.mul_add (10 ^ (i+k))]
 omega
theorem uX_eq (m n i k:Nat):uX m n i k=tX m n i (k+1) / 10 ^ (i+k):=by
 rw [tX_succ,Nat.add_mul_div_left _ _ (pow10_pos _)]
 unfold uX cX
 omega
theorem uX_div (m n i k:Nat):uX m n i k / 10=cX m n i (k+1):=by
 rw [uX_eq,Nat.div_div_eq_div_mul]
 unfold cX
 rw [show i+(k+1)=(i+k)+1 by omega,Nat.pow_succ]
theorem uX_mod (m n i k:Nat):uX m n i k % 10=dgt 10 (tX m n i (k+1)) (i+k):=by
 rw [uX_eq];rfl
theorem tX_low (m n i k t:Nat) (h:t<i+k):dgt 10 (tX m n i k) t=dgt 10 (tX m n i (k+1)) t:=by
 apply dgt_congr
 rw [tX_succ]
 have e:10 ^ (i+k)=10 ^ (t+1)*10 ^ (i+k-(t+1)):=by rw [← Nat.pow_add];congr 1;omega
 rw [e,Nat.mul_assoc,Nat.add_mul_mod_self_left]
theorem cX_lt (m n i k:Nat):cX m n i k<10:=by
 induction k with
 | zero=>rw [cX_zero];decide
 | succ k ih=>
  rw [← uX_div]
  unfold uX
  have h1:=dgt_lt 10 (sX m n i) (i+k) (by decide)
  have h2:=dgt_lt 10 m i (by decide)
  have h3:=dgt_lt 10 n k (by decide)
  have h4:dgt 10 m i*dgt 10 n k≤9*9:=Nat.mul_le_mul (by omega) (by omega)
  omega
theorem sX_lt (m n i:Nat):sX m n i<10 ^ (i+dlen 10 n):=by
 unfold sX
 rw [Nat.pow_add]
 exact Nat.mul_lt_mul'' (Nat.mod_lt _ (pow10_pos i)) (dlen_lt 10 n (by decide))
theorem sX_succ (m n i:Nat):sX m n (i+1)=sX m n i+dgt 10 m i*(10 ^ i*n):=by
 unfold sX
 rw [mod_split10 m i,Nat.add_mul,Nat.mul_assoc,Nat.mul_left_comm]
theorem sX_zero (m n:Nat):sX m n 0=0:=by simp [sX,Nat.mod_one]
theorem sX_all (m n:Nat):sX m n (dlen 10 m)=m*n:=by
 unfold sX;rw [Nat.mod_eq_of_lt (dlen_lt 10 m (by decide))]
theorem tX_end (m n i k:Nat) (hk:dlen 10 n≤k):tX m n i k=sX m n (i+1):=by
 have h1:=(dlen_le_iff 10 n k (by decide)).1 hk
 have h2:sX m n i<10 ^ (i+k):=Nat.lt_of_lt_of_le (sX_lt m n i) (Nat.pow_le_pow_right (by decide) (by omega))
 unfold tX
 rw [Nat.mod_eq_of_lt h1,Nat.mod_eq_of_lt h2,sX_succ]
theorem cX_in (m n i k:Nat) (hk:dlen 10 n≤k) (h:0<cX m n i k):i+k<i+1+dlen 10 n:=by
 unfold cX at h
 rw [tX_end m n i k hk] at h
 have h1:=sX_lt m n (i+1)
 rcases Nat.lt_or_ge (i+k) (i+1+dlen 10 n) with h2 | h2
 ·exact h2
 ·rw [Nat.div_eq_of_lt (Nat.lt_of_lt_of_le h1 (Nat.pow_le_pow_right (by decide) h2))] at h
  omega
theorem dgt_high (x k t:Nat) (h:x<10 ^ k) (ht:k≤t):dgt 10 x t=0:=dgt_out x t (Nat.le_trans ((dlen_le_iff 10 x k (by decide)).2 h) ht)
theorem tX_rest (m n i k t:Nat) (hk:dlen 10 n≤k) (h:cX m n i k=0) (ht:i+k≤t):dgt 10 (sX m n i) t=dgt 10 (sX m n (i+1)) t:=by
 have h1:sX m n (i+1)<10 ^ (i+k):=by
  unfold cX at h
  rw [tX_end m n i k hk] at h
  exact (Nat.div_eq_zero_iff_lt (pow10_pos _)).1 h
 rw [dgt_high _ _ _ h1 ht,dgt_high _ _ _ (Nat.lt_of_lt_of_le (sX_lt m n i) (Nat.pow_le_pow_right (by decide) (show i+dlen 10 n≤i+k by omega))) ht]
theorem tX_start (m n i t:Nat) (h:t<i):dgt 10 (tX m n i 0) t=dgt 10 (sX m n i) t:=by
 rw [tX_zero]
 apply dgt_congr
 have e:10 ^ i=10 ^ (t+1)*10 ^ (i-(t+1)):=by rw [← Nat.pow_add];congr 1;omega
 rw [e,Nat.mod_mul_right_mod]
theorem mulX_lt (m n:Nat):m*n<10 ^ (dlen 10 m+dlen 10 n):=by rw [← sX_all];exact sX_lt m n _
end Go.Proofs.YtbilphfbfnohmaaGreatDoor
namespace Go.Proofs.YtbilphfbfnohmaaGreatDoor
open Go.RowKit
theorem wrap_i64_nat (x:Nat) (h:x<9223372036854775808):IntKind.i64.wrap (x:Int)=x:=by
 simp [IntKind.wrap,IntKind.bits,IntKind.signed]
 omega
section
variable {ops:Array Oper} {rest:List Oper} {o:Oper} {a:Act} {Q:Exit→Act→World→Prop}
theorem mk_i64 (w:World) (hgd:o.guard=none) (l c:Operand) (ho:o.op=Op.makeSlice 58 l c) (base n:Nat) (L C:Int) (hl:a.eval l=.int .i64 L) (hc:a.eval c=.int .i64 C) (hL:L=(n:Int)) (hC:C=(n:Int)) (hn:n≤1000000000000) (hbase:base≤w.heap.size)
  (h:∀ w',Own .i64 3 w' base (.slice (some ⟨w.heap.size,0,none⟩) n n) n (fun _=>0)→Below base w w'→w'.heap.size=w.heap.size+1→Below w.heap.size w w'→wpList Tryz.prog ops Q rest (a.put o.dst (.slice (some ⟨w.heap.size,0,none⟩) n n)) w') :
  wpList Tryz.prog ops Q (o::rest) a w:=by
 obtain ⟨i0,hi,hz0,hz1,hz2⟩:=info_parts Tryz.infoInt
 subst hL
 subst hC
 have hm:=run_make (P:=Tryz.prog) w 58 3 i0 (.int .i64 0) Tryz.underlying58 hi hz0 .i64 .i64 n n (by omega) (by omega) (by rw [hz2];omega) (by omega)
 refine wpList_plain hgd fun K hK'=>?_
 unfold Oper.wp
 simp only [Int.toNat_natCast] at hm
 simp [execOp,ho,hl,hc,hm,Result.andThen]
 refine hK' _ _ (h _ ?_ ?_ ?_ ?_)
 ·have:=World.ownsRow_lit (e:=3) (size:=1) w (madeCells (Value.int IntKind.i64 0).cells (n*1)) n hbase (by unfold maxLen;omega) (size_madeCells _ _)
  unfold Own
  rw [← cellsK_make]
  rw [hz1]
  exact this
 ·exact (Below.refl base w).alloc hbase _
 ·simp
 ·exact (Below.refl _ w).alloc (Nat.le_refl _) _
end
set_option maxRecDepth 100000 in
set_option maxHeartbeats 4000000 in
theorem timesD_fn {v u:Value} {m n:Nat} {w:World} (hv:DecRep w v m) (hu:DecRep w u n) (hm:dlen 10 m≤10000000) (hn:dlen 10 n≤10000000) :
  Calls Tryz.prog 134 #[v,u] w (FreshDec (m*n) w):=by
 obtain ⟨a,cap,rfl⟩:=hv.shape
 obtain ⟨a',cap',rfl⟩:=hu.shape
 go_enter Tryz.func134,Tryz.ntmps134
 go_wp2_with (at_make;refine mk_i64 _ rfl _ _ rfl w.heap.size (dlen 10 m+dlen 10 n) _ _ rfl rfl (by simp) (by simp) (by omega) (Nat.le_refl _) ?_;intro w1 hown hb hz hb1)
 go_loopw [18] (fun i wr=>∃ j:Nat,i=.int .i64 j∧j≤dlen 10 m∧Own .i64 3 wr w.heap.size (.slice (some ⟨w.heap.size,0,none⟩) (dlen 10 m+dlen 10 n) (dlen 10 m+dlen 10 n)) (dlen 10 m+dlen 10 n) (dgt 10 (sX m n j))∧Below w.heap.size w wr)
  (fun i _=>dlen 10 m-(intOf i).toNat)
 case atStart=>exact ⟨0,rfl,Nat.zero_le _,hown.congr (fun t _=>by rw [sX_zero];simp [dgt]),hb⟩
 case round=>
  obtain ⟨i,rfl,hi,hown1,hbr⟩:=hrel
  by_cases hlt:i<dlen 10 m
  ·obtain ⟨a1,cap1,hv1,_,hcell⟩:=hv.below hbr
   simp only [Value.slice.injEq,true_and] at hv1
   obtain ⟨rfl,rfl⟩:=hv1
   obtain ⟨b,off,rfl,_,hc0⟩:=hcell (by omega)
   have hcj:=hc0 i hlt
   have hd:=dgt_lt 10 m i (by decide)
   clear hown hb hz hb1
   obtain ⟨wo,rfl⟩:∃ wo:World,wo=wr:=⟨_,rfl⟩
   go_wp2
   go_loopw [7,8] (fun carry kv wr=>∃ k:Nat,kv=.int .i64 k∧i+k≤dlen 10 m+dlen 10 n∧carry=.int .i64 (cX m n i k)∧Own .i64 3 wr w.heap.size (.slice (some ⟨w.heap.size,0,none⟩) (dlen 10 m+dlen 10 n) (dlen 10 m+dlen 10 n)) (dlen 10 m+dlen 10 n) (fun t=>if t<i+k then dgt 10 (tX m n i k) t else dgt 10 (sX m n i) t)∧Below w.heap.size w wr)
    (fun _ k _=>dlen 10 m+dlen 10 n+1-(intOf k).toNat)
   case atStart=>
    refine ⟨0,rfl,by omega,by rw [cX_zero];rfl,hown1.congr (fun t _=>?_),hbr⟩
    by_cases e:t<i
    ·rw [if_pos (by omega),tX_start m n i t e]
    ·rw [if_neg (by omega)]
   case round=>
    obtain ⟨k,rfl,hk,rfl,hown2,hbr2⟩:=hrel
    have hsz2:=hbr2.size
    by_cases hlt2:k<dlen 10 n
    ·skip
     have hoc:=hown2.cell (i+k) (by omega)
     rw [if_neg (by omega)] at hoc
     have hof:=hown2.free (i+k)
     have hdn:=dgt_lt 10 n k (by decide)
     have hds:=dgt_lt 10 (sX m n i) (i+k) (by decide)
     have hcx:=cX_lt m n i k
     have hpp:dgt 10 m i*dgt 10 n k≤9*9:=Nat.mul_le_mul (by omega) (by omega)
     have hpc:((dgt 10 m i:Nat):Int)*((dgt 10 n k:Nat):Int)=((dgt 10 m i*dgt 10 n k:Nat):Int):=by rw [Int.natCast_mul]
     have HU1:=hid (uX_mod m n i k)
     have HU2:=hid (uX_div m n i k)
     have HU:=hid (show uX m n i k=dgt 10 (sX m n i) (i+k)+dgt 10 m i*dgt 10 n k+cX m n i k from rfl)
     have hcd:=hid (fun (q:Nat)=>dig_fn (hu.below (hbr2.trans (below_drewN (Below.refl w.heap.size wr) q))) (by omega) k (by omega))
     have hwik:IntKind.i64.wrap ((i:Int)+(k:Int))=((i+k:Nat):Int):=by rw [← Int.natCast_add];exact wrap_i64_nat _ (by omega)
     have hw2:IntKind.i64.wrap (((dgt 10 m i:Nat):Int)*((dgt 10 n k:Nat):Int))=((dgt 10 m i*dgt 10 n k:Nat):Int):=by rw [hpc];exact wrap_i64_nat _ (by omega)
     have hw3:IntKind.i64.wrap (((dgt 10 (sX m n i) (i+k):Nat):Int)+((dgt 10 m i*dgt 10 n k:Nat):Int))=((dgt 10 (sX m n i) (i+k)+dgt 10 m i*dgt 10 n k:Nat):Int):=by rw [← Int.natCast_add];exact wrap_i64_nat _ (by omega)
     have hw4:IntKind.i64.wrap (((dgt 10 (sX m n i) (i+k)+dgt 10 m i*dgt 10 n k:Nat):Int)+((cX m n i k:Nat):Int))=((uX m n i k:Nat):Int):=by rw [← Int.natCast_add,HU.out];exact wrap_i64_nat _ (by omega)
     have hul:uX m n i k<1000:=by rw [HU.out];omega
     have hix1:0≤(i:Int)+(k:Int):=by omega
     have hix2:(i:Int)+(k:Int)<(dlen 10 m:Int)+(dlen 10 n:Int):=by omega
     have hix3:((i:Int)+(k:Int)).toNat=i+k:=by omega
     have hix4:(0≤(i:Int)+(k:Int)∧(i:Int)+(k:Int)<(dlen 10 m:Int)+(dlen 10 n:Int))=True:=by simp [hix1,hix2]
     have hik:i+k<dlen 10 m+dlen 10 n:=by omega
     clear hcell hc0 hcj hpc
     obtain ⟨a2,cap2,hv2,_,hcell2⟩:=hv.below hbr2
     simp only [Value.slice.injEq,true_and] at hv2
     obtain ⟨rfl,rfl⟩:=hv2
     obtain ⟨b2,off2,hbo,_,hc2⟩:=hcell2 (by omega)
     simp only [Option.some.injEq,Addr.mk.injEq,and_true] at hbo
     obtain ⟨rfl,rfl⟩:=hbo
     have hcj:=hc2 i hlt
     clear hc2 hcell2
     go_wp2_with fail
     go_quiet ((go_at_call 113;exact Calls.quiet_of_same (hcd.out _)))
     have hX:((uX m n i k:Nat):Int)=((dgt 10 (sX m n i) (i+k):Nat):Int)+((dgt 10 m i:Nat):Int)*((dgt 10 n k:Nat):Int)+((cX m n i k:Nat):Int):=by rw [HU.out];simp
     have HX:=hid hX
     clear hX
     go_wp2
     go_roundw
     case rel=>
      refine ⟨k+1,by go_num,by omega,?_,?_,(below_drewN hbr2 nq).setCell (Nat.le_refl _) _⟩
      ·rw [← HU2.out,← HX.out];rfl
      ·rw [← HX.out,show ((uX m n i k:Nat):Int) % 10=((uX m n i k % 10:Nat):Int) by omega,HU1.out]
       have hown3:Own .i64 3 (wr.drewN nq) w.heap.size (.slice (some ⟨w.heap.size,0,none⟩) (dlen 10 m+dlen 10 n) (dlen 10 m+dlen 10 n)) (dlen 10 m+dlen 10 n) (fun t=>if t<i+k then dgt 10 (tX m n i k) t else dgt 10 (sX m n i) t):=hown2
       refine (hown3.store (i+k) _).congr ?_
       intro t ht
       show (if t=i+k then _ else if t<i+k then _ else _)=_
       by_cases e:t=i+k
       ·rw [if_pos e,if_pos (by omega),e]
       ·rw [if_neg e]
        by_cases e2:t<i+k
        ·rw [if_pos e2,if_pos (by omega),tX_low m n i k t e2]
        ·rw [if_neg e2,if_neg (by omega)]
     case measure=>simp [intOf]<;>omega
    ·by_cases hc0':0<cX m n i k
     ·have hin:=cX_in m n i k (by omega) hc0'
      have hoc:=hown2.cell (i+k) (by omega)
      rw [if_neg (by omega)] at hoc
      have hof:=hown2.free (i+k)
      have hdn:=dgt_lt 10 n k (by decide)
      have hds:=dgt_lt 10 (sX m n i) (i+k) (by decide)
      have hcx:=cX_lt m n i k
      have hpp:dgt 10 m i*dgt 10 n k≤9*9:=Nat.mul_le_mul (by omega) (by omega)
      have hpc:((dgt 10 m i:Nat):Int)*((dgt 10 n k:Nat):Int)=((dgt 10 m i*dgt 10 n k:Nat):Int):=by rw [Int.natCast_mul]
      have HU1:=hid (uX_mod m n i k)
      have HU2:=hid (uX_div m n i k)
      have HU:=hid (show uX m n i k=dgt 10 (sX m n i) (i+k)+dgt 10 m i*dgt 10 n k+cX m n i k from rfl)
      have hcd:=hid (fun (q:Nat)=>dig_fn (hu.below (hbr2.trans (below_drewN (Below.refl w.heap.size wr) q))) (by omega) k (by omega))
      have hwik:IntKind.i64.wrap ((i:Int)+(k:Int))=((i+k:Nat):Int):=by rw [← Int.natCast_add];exact wrap_i64_nat _ (by omega)
      have hw2:IntKind.i64.wrap (((dgt 10 m i:Nat):Int)*((dgt 10 n k:Nat):Int))=((dgt 10 m i*dgt 10 n k:Nat):Int):=by rw [hpc];exact wrap_i64_nat _ (by omega)
      have hw3:IntKind.i64.wrap (((dgt 10 (sX m n i) (i+k):Nat):Int)+((dgt 10 m i*dgt 10 n k:Nat):Int))=((dgt 10 (sX m n i) (i+k)+dgt 10 m i*dgt 10 n k:Nat):Int):=by rw [← Int.natCast_add];exact wrap_i64_nat _ (by omega)
      have hw4:IntKind.i64.wrap (((dgt 10 (sX m n i) (i+k)+dgt 10 m i*dgt 10 n k:Nat):Int)+((cX m n i k:Nat):Int))=((uX m n i k:Nat):Int):=by rw [← Int.natCast_add,HU.out];exact wrap_i64_nat _ (by omega)
      have hul:uX m n i k<1000:=by rw [HU.out];omega
      have hix1:0≤(i:Int)+(k:Int):=by omega
      have hix2:(i:Int)+(k:Int)<(dlen 10 m:Int)+(dlen 10 n:Int):=by omega
      have hix3:((i:Int)+(k:Int)).toNat=i+k:=by omega
      have hix4:(0≤(i:Int)+(k:Int)∧(i:Int)+(k:Int)<(dlen 10 m:Int)+(dlen 10 n:Int))=True:=by simp [hix1,hix2]
      have hik:i+k<dlen 10 m+dlen 10 n:=by omega
      clear hcell hc0 hcj hpc
      obtain ⟨a2,cap2,hv2,_,hcell2⟩:=hv.below hbr2
      simp only [Value.slice.injEq,true_and] at hv2
      obtain ⟨rfl,rfl⟩:=hv2
      obtain ⟨b2,off2,hbo,_,hc2⟩:=hcell2 (by omega)
      simp only [Option.some.injEq,Addr.mk.injEq,and_true] at hbo
      obtain ⟨rfl,rfl⟩:=hbo
      have hcj:=hc2 i hlt
      clear hc2 hcell2
      go_wp2_with fail
      go_quiet ((go_at_call 113;exact Calls.quiet_of_same (hcd.out _)))
      have hX:((uX m n i k:Nat):Int)=((dgt 10 (sX m n i) (i+k):Nat):Int)+((dgt 10 m i:Nat):Int)*((dgt 10 n k:Nat):Int)+((cX m n i k:Nat):Int):=by rw [HU.out];simp
      have HX:=hid hX
      clear hX
      go_wp2
      go_roundw
      case rel=>
       refine ⟨k+1,by go_num,by omega,?_,?_,(below_drewN hbr2 nq).setCell (Nat.le_refl _) _⟩
       ·rw [← HU2.out,← HX.out];rfl
       ·rw [← HX.out,show ((uX m n i k:Nat):Int) % 10=((uX m n i k % 10:Nat):Int) by omega,HU1.out]
        have hown3:Own .i64 3 (wr.drewN nq) w.heap.size (.slice (some ⟨w.heap.size,0,none⟩) (dlen 10 m+dlen 10 n) (dlen 10 m+dlen 10 n)) (dlen 10 m+dlen 10 n) (fun t=>if t<i+k then dgt 10 (tX m n i k) t else dgt 10 (sX m n i) t):=hown2
        refine (hown3.store (i+k) _).congr ?_
        intro t ht
        show (if t=i+k then _ else if t<i+k then _ else _)=_
        by_cases e:t=i+k
        ·rw [if_pos e,if_pos (by omega),e]
        ·rw [if_neg e]
         by_cases e2:t<i+k
         ·rw [if_pos e2,if_pos (by omega),tX_low m n i k t e2]
         ·rw [if_neg e2,if_neg (by omega)]
      case measure=>simp [intOf]<;>omega
     ·have hz:cX m n i k=0:=by omega
      have hE:=hown2.congr (g:=dgt 10 (sX m n (i+1))) (fun t ht=>by
       show (if t<i+k then _ else _)=_
       by_cases e:t<i+k
       ·rw [if_pos e,tX_end m n i k (by omega)]
       ·rw [if_neg e,tX_rest m n i k t (by omega) hz (by omega)])
      clear hown2
      go_wp2
      go_roundw
      case rel=>exact ⟨i+1,by go_num,by omega,hE,hbr2⟩
      case measure=>simp [intOf]<;>omega
  ·obtain rfl:i=dlen 10 m:=by omega
   rw [sX_all] at hown1
   have hN:=mulX_lt m n
   have hdl:=(dlen_le_iff 10 _ _ (by decide)).2 hN
   have hct:=hid (trimmedD_row hown1.row (by omega) hN)
   go_wp2_with fail
   (with_reducible refine hct.out.mono ?_);rintro e w' ⟨rfl,rfl⟩
   go_wp2
   go_ret
   exact ⟨_,rfl,hown1.cut hdl,hbr⟩
end Go.Proofs.YtbilphfbfnohmaaGreatDoor
namespace Go.Proofs.YtbilphfbfnohmaaGreatDoor
open Go.RowKit
def Near (n N:Nat):Prop:=n=N∨(big600≤n∧big600≤N)
theorem big_1200 (n:Nat) (h:1200<dlen 10 n):big600≤n:=by
 have h1:=digits_600 n
 rcases Nat.lt_or_ge n big600 with h2 | h2
 ·have:=h1.2 h2;omega
 ·exact h2
theorem dlen_step (n b c:Nat) (hb:b≤36) (hc:c≤36):dlen 10 (n*b+c)≤dlen 10 n+2:=by
 rw [dlen_le_iff 10 _ _ (by decide)]
 have h1:=dlen_lt 10 n (by decide)
 have h2:=Nat.mul_le_mul_left n hb
 rw [Nat.pow_add]
 generalize 10 ^ dlen 10 n=X at h1 ⊢
 omega
def DigP (b:Nat) (l:List UInt8) (w:World) (e:Ending) (w':World):Prop:=
 ∃ v n,e=.returned (.tuple #[v,.bool (rOK b l)])∧Below w.heap.size w w'∧OwnDec w' w.heap.size v n∧dlen 10 n≤2000∧(rOK b l=true→Near n (numOf b l))
theorem near_step (n N b c:Nat) (hb:2≤b) (h:Near n N):Near (n*b+c) (N*b+c):=by
 rcases h with rfl | ⟨h1,h2⟩
 ·exact .inl rfl
 ·right
  have h3:=Nat.le_mul_of_pos_right n (show 0<b by omega)
  have h4:=Nat.le_mul_of_pos_right N (show 0<b by omega)
  omega
theorem near_keep (n N b c:Nat) (hb:2≤b) (h:Near n N) (hn:big600≤n):Near n (N*b+c):=by
 right
 have h4:=Nat.le_mul_of_pos_right N (show 0<b by omega)
 rcases h with rfl | ⟨h1,h2⟩<;>omega
set_option maxRecDepth 100000 in
set_option maxHeartbeats 4000000 in
theorem digits_fn (l:List UInt8) (hl:l.length≤1000000000) (b:Nat) (hb2:2≤b) (hb36:b≤36) (w:World) :
  Calls Tryz.prog 79 #[.string ⟨l.toArray⟩,.int .i64 b] w (DigP b l w):=by
 have hsz:(⟨l.toArray⟩:ByteArray).size=l.length:=Lib.size_mk _
 go_enter Tryz.func79,Tryz.ntmps79
 go_wp2
 go_loopw [6,7,12] (fun sv zv iv wr=>∃ (i n:Nat) (z:Bool),iv=.int .i64 i∧i≤l.length∧OwnDec wr w.heap.size sv n∧zv=.bool z∧(z=true→n=0∧numOf b (l.take i)=0)∧Near n (numOf b (l.take i))∧dlen 10 n≤1202∧(∀ j (h:j<l.length),j<i→valOf (l[j]'h)<b)∧Below w.heap.size w wr) (fun _ _ iv _=>l.length-(intOf iv).toNat)
 case atStart=>exact ⟨0,0,true,rfl,Nat.zero_le _,Own.nil,rfl,fun _=>⟨rfl,rfl⟩,.inl rfl,by decide,fun j _ h=>absurd h (Nat.not_lt_zero _),Below.refl _ _⟩
 case round=>
  obtain ⟨i,n,z,rfl,hi,hown,rfl,hz,hnear,hdl,hall,hbr⟩:=hrel
  obtain ⟨a,cap,hv⟩:=hown.dec.shape
  subst hv
  have HZ:=hid hz
  have HN:=hid hnear
  have HA:=hid hall
  have hszr:=hbr.size
  clear hz hnear hall
  by_cases hlt:i<l.length
  ·have hx:∀ h,(⟨l.toArray⟩:ByteArray)[i]'h=l[i]'hlt:=fun h=>rfl
   have hc:=hid (digitR_fn (l[i]'hlt) b hb36 hb2 wr)
   have HT:=hid (numOf_take_succ b l i hlt)
   have hv36:=valOf_le (l[i]'hlt)
   by_cases hv:valOf (l[i]'hlt)<b
   ·have hd:digR (l[i]'hlt) b=(valOf (l[i]'hlt):Int):=by unfold digR;rw [if_pos hv]
    rw [hd] at hc
    have hc:=hid hc.out
    have HA2:=hid (show ∀ j (h:j<l.length),j<i+1→valOf (l[j]'h)<b from fun j h hj=>by
     rcases Nat.lt_or_ge j i with h1 | h1
     ·exact HA.out j h h1
     ·obtain rfl:j=i:=by omega
      exact hv)
    clear hd
    generalize valOf (l[i]'hlt)=c at *
    by_cases hskip:z=true∧c=0
    ·obtain ⟨rfl,rfl⟩:=hskip
     go_wp2_with fail
     (with_reducible refine hc.out.mono ?_);rintro e w' ⟨rfl,rfl⟩
     go_wp2
     go_roundw
     case rel=>
      obtain ⟨h1,h2⟩:=HZ.out (by first | rfl | trivial)
      refine ⟨i+1,n,true,by go_num,by omega,hown,rfl,fun _=>⟨h1,by rw [HT.out,h2];simp⟩,?_,hdl,HA2.out,hbr⟩
      rw [HT.out,h2,h1]
      left;simp
     case measure=>simp [intOf]<;>omega
    ·cases z with
     | false=>
      have HB:=hid (big_1200 n)
      by_cases hlong:dlen 10 n≤1200
      ·have hn1:=hid (natOf_fn b (by omega) wr)
       have hdlb:=dlen_step n b c hb36 hv36
       have hdb:dlen 10 b≤19:=dlen_small b (by omega)
       have hdc:dlen 10 c≤19:=dlen_small c (by omega)
       have hdnb:dlen 10 (n*b)≤1300:=by have:=dlen_step n b 0 hb36 (by omega);simp at this;omega
       go_wp2_with fail
       (with_reducible refine hc.out.mono ?_);rintro e w' ⟨rfl,rfl⟩
       go_wp2_with fail
       (with_reducible refine hn1.out.mono ?_);rintro e w1 ⟨v1,rfl,ho1,hb1⟩
       have ht:=hid (timesD_fn (hown.dec.below hb1) ho1.dec (by omega) (by omega))
       obtain ⟨a1,p1,rfl⟩:=ho1.dec.shape
       go_wp2_with fail
       (with_reducible refine ht.out.mono ?_);rintro e w2 ⟨v2,rfl,ho2,hb2'⟩
       have hn2:=hid (natOf_fn c (by omega) w2)
       obtain ⟨a2,p2,rfl⟩:=ho2.dec.shape
       go_wp2_with fail
       (with_reducible refine hn2.out.mono ?_);rintro e w3 ⟨v3,rfl,ho3,hb3⟩
       have hp:=hid (plusD_fn (ho2.dec.below hb3) ho3.dec (by omega) (by omega))
       obtain ⟨a3,p3,rfl⟩:=ho3.dec.shape
       go_wp2_with fail
       (with_reducible refine hp.out.mono ?_);rintro e w4 ⟨v4,rfl,ho4,hb4⟩
       obtain ⟨a4,p4,rfl⟩:=ho4.dec.shape
       have e1:=hb1.size
       have e2:=hb2'.size
       have e3:=hb3.size
       go_wp2
       go_roundw
       case rel=>
        refine ⟨i+1,n*b+c,false,by go_num,by omega,Own.mono ho4 (by omega),rfl,fun h=>(by first | exact absurd h (by decide) | cases h),?_,by omega,HA2.out,hbr.trans ((hb1.mono hszr).trans ((hb2'.mono (by omega)).trans ((hb3.mono (by omega)).trans (hb4.mono (by omega)))))⟩
        rw [HT.out]
        exact near_step n _ b c hb2 HN.out
       case measure=>simp [intOf]<;>omega
      ·go_wp2_with fail
       (with_reducible refine hc.out.mono ?_);rintro e w' ⟨rfl,rfl⟩
       go_wp2
       go_roundw
       case rel=>
        refine ⟨i+1,n,false,by go_num,by omega,hown,rfl,fun h=>(by first | exact absurd h (by decide) | cases h),?_,hdl,HA2.out,hbr⟩
        rw [HT.out]
        exact near_keep n _ b c hb2 HN.out (HB.out (by omega))
       case measure=>simp [intOf]<;>omega
     | true=>
      have hc0:c≠0:=fun h=>hskip ⟨rfl,h⟩
      have hcb:((c:Int) == 0)=false:=by rw [beq_eq_false_iff_ne];omega
      clear hskip
      have HB:=hid (big_1200 n)
      by_cases hlong:dlen 10 n≤1200
      ·have hn1:=hid (natOf_fn b (by omega) wr)
       have hdlb:=dlen_step n b c hb36 hv36
       have hdb:dlen 10 b≤19:=dlen_small b (by omega)
       have hdc:dlen 10 c≤19:=dlen_small c (by omega)
       have hdnb:dlen 10 (n*b)≤1300:=by have:=dlen_step n b 0 hb36 (by omega);simp at this;omega
       go_wp2_with fail
       (with_reducible refine hc.out.mono ?_);rintro e w' ⟨rfl,rfl⟩
       go_wp2_with fail
       (with_reducible refine hn1.out.mono ?_);rintro e w1 ⟨v1,rfl,ho1,hb1⟩
       have ht:=hid (timesD_fn (hown.dec.below hb1) ho1.dec (by omega) (by omega))
       obtain ⟨a1,p1,rfl⟩:=ho1.dec.shape
       go_wp2_with fail
       (with_reducible refine ht.out.mono ?_);rintro e w2 ⟨v2,rfl,ho2,hb2'⟩
       have hn2:=hid (natOf_fn c (by omega) w2)
       obtain ⟨a2,p2,rfl⟩:=ho2.dec.shape
       go_wp2_with fail
       (with_reducible refine hn2.out.mono ?_);rintro e w3 ⟨v3,rfl,ho3,hb3⟩
       have hp:=hid (plusD_fn (ho2.dec.below hb3) ho3.dec (by omega) (by omega))
       obtain ⟨a3,p3,rfl⟩:=ho3.dec.shape
       go_wp2_with fail
       (with_reducible refine hp.out.mono ?_);rintro e w4 ⟨v4,rfl,ho4,hb4⟩
       obtain ⟨a4,p4,rfl⟩:=ho4.dec.shape
       have e1:=hb1.size
       have e2:=hb2'.size
       have e3:=hb3.size
       go_wp2
       go_roundw
       case rel=>
        refine ⟨i+1,n*b+c,false,by go_num,by omega,Own.mono ho4 (by omega),rfl,fun h=>(by first | exact absurd h (by decide) | cases h),?_,by omega,HA2.out,hbr.trans ((hb1.mono hszr).trans ((hb2'.mono (by omega)).trans ((hb3.mono (by omega)).trans (hb4.mono (by omega)))))⟩
        rw [HT.out]
        exact near_step n _ b c hb2 HN.out
       case measure=>simp [intOf]<;>omega
      ·go_wp2_with fail
       (with_reducible refine hc.out.mono ?_);rintro e w' ⟨rfl,rfl⟩
       go_wp2
       go_roundw
       case rel=>
        refine ⟨i+1,n,false,by go_num,by omega,hown,rfl,fun h=>(by first | exact absurd h (by decide) | cases h),?_,hdl,HA2.out,hbr⟩
        rw [HT.out]
        exact near_keep n _ b c hb2 HN.out (HB.out (by omega))
       case measure=>simp [intOf]<;>omega
   ·have hd:digR (l[i]'hlt) b = -1:=by unfold digR;rw [if_neg hv]
    rw [hd] at hc
    have hc:=hid hc.out
    have HB:=hid (rOK_bad b l i hlt hv)
    clear hd hv
    go_wp2_with fail
    (with_reducible refine hc.out.mono ?_);rintro e w' ⟨rfl,rfl⟩
    go_wp2
    refine bodyPost_ret (v:=.tuple #[.slice none 0 0,.bool false]) (by simp [results,Tryz.results79,go_sem]) rfl ⟨_,0,by rw [HB.out],hbr,Own.nil,by decide,fun h=>absurd h (by rw [HB.out];decide)⟩
  ·obtain rfl:i=l.length:=by omega
   have HR:=hid (show rOK b l=!l.isEmpty by
    unfold rOK
    rw [List.all_eq_true.2 (fun c hc=>by
     obtain ⟨j,hj,rfl⟩:=List.getElem_of_mem hc
     exact decide_eq_true (HA.out j hj hj)),Bool.and_true])
   have hnn:=HN.out
   rw [List.take_length] at hnn
   have HNN:=hid hnn
   clear hnn HN HZ
   go_wp2
   refine bodyPost_ret (v:=.tuple #[.slice a (dlen 10 n) cap,.bool (!l.isEmpty)]) (by simp [results,Tryz.results79,go_sem]) rfl ⟨_,n,by rw [HR.out],hbr,hown,by omega,fun _=>HNN.out⟩
end Go.Proofs.YtbilphfbfnohmaaGreatDoor
namespace Go.Proofs.YtbilphfbfnohmaaGreatDoor
open Go.RowKit
def PRef (w:World) (base:Nat) (v:Value) (z:Int):Prop:=∃ z',OwnDNum w base v z'∧dlen 10 z'.natAbs≤2002000∧(z'=z∨(big600≤z'.natAbs∧big600≤z.natAbs∧decide (z'<0)=decide (z<0)))
def NumP (l:List UInt8) (w:World) (e:Ending) (w':World):Prop:=
 ∃ v,e=.returned (.tuple #[v,.bool (pOK l)])∧Below w.heap.size w w'∧(pOK l=true→PRef w' w.heap.size v (pVal l))∧(∃ g s n c,v=.agg #[.bool g,.slice s n c])
def b0 (S:List UInt8):Nat:=(S.headD 0).toNat
set_option maxRecDepth 100000 in
set_option maxHeartbeats 4000000 in
theorem number_fn (l:List UInt8) (hl:l.length≤2000000) (w:World) :
    Calls Tryz.prog 40 #[.string ⟨l.toArray⟩] w (NumP l w):=by
  have k0:=Blk.new w #[.bool false,.slice none 0 0] 60
  have hb0:Below w.heap.size w (w.alloc (.cells #[.bool false,.slice none 0 0] 60)):=(Below.refl _ _).alloc (Nat.le_refl _) _
  have hsz0:(w.alloc (.cells #[.bool false,.slice none 0 0] 60)).heap.size=w.heap.size+1:=by simp
  have hc:=fun w=>hid (strip_fn l (by omega) w)
  have hS:(strip l).length≤2000000:=Nat.le_trans (strip_len l) hl
  go_enter Tryz.func40,Tryz.ntmps40
  go_upto_region 3 with (first | fail|(with_reducible refine (hc _).out.mono ?_);rintro e w' ⟨rfl,rfl⟩)
  generalize w.alloc (.cells #[.bool false,.slice none 0 0] 60)=W at *
  clear hc
  generalize hSS:strip l=S at *
  have hSS:=hid hSS
  go_cut [21] from 10 to 21 (fun v wx=>v=.bool (([45]:List UInt8).isPrefixOf S || ([43]:List UInt8).isPrefixOf S)∧W=wx)
  case first=>
    cases S with
    | nil=>
      go_wp2
      go_meet
      case rel=>exact ⟨rfl,rfl⟩
    | cons x T=>
      have h1:(⟨(x::T).toArray⟩:ByteArray).size=T.length+1:=by rw [Lib.size_mk];simp
      have hx:∀ h,(⟨(x::T).toArray⟩:ByteArray)[0]'h=x:=fun h=>rfl
      have hne:(x::T == ([]:List UInt8))=false:=rfl
      have hT:T.length≤1999999:=by simpa using hS
      have hpre:(([45]:List UInt8).isPrefixOf (x::T) || ([43]:List UInt8).isPrefixOf (x::T))=((45 == x) || (43 == x)):=by simp [List.isPrefixOf]
      have HP:=hid hpre
      clear hS hpre
      by_cases e1:x=45
      · subst e1
        go_wp2
        go_meet
        case rel=>exact ⟨by rw [HP.out];rfl,rfl⟩
      · have n1 : (((x.toNat : Nat) : Int) == 45) = false := by
          rw [beq_eq_false_iff_ne]
          intro h
          exact e1 (UInt8.toNat_inj.1 (show x.toNat=45 by omega))
        have m1:((45:UInt8) == x)=false:=by rw [beq_eq_false_iff_ne];exact fun h=>e1 h.symm
        by_cases e2:x=43
        · subst e2
          go_wp2
          go_meet
          case rel=>exact ⟨by rw [HP.out];rfl,rfl⟩
        · have n2 : (((x.toNat : Nat) : Int) == 43) = false := by
            rw [beq_eq_false_iff_ne]
            intro h
            exact e2 (UInt8.toNat_inj.1 (show x.toNat=43 by omega))
          have m2:((43:UInt8) == x)=false:=by rw [beq_eq_false_iff_ne];exact fun h=>e2 h.symm
          go_wp2
          go_meet
          case rel=>exact ⟨by rw [HP.out,m1,m2];rfl,rfl⟩
  case rest=>
    obtain ⟨rfl,rfl⟩:=hcut
    generalize hBB:(([45]:List UInt8).isPrefixOf S || ([43]:List UInt8).isPrefixOf S)=B
    have HB0:=hid hBB
    clear hBB
    go_upto_if 21 with fail
    go_cut [0,4] from 22 to 26 (fun s0 s4 wx=>s0=.string ⟨(pRest S).toArray⟩∧s4=.bool (pNeg S)∧W=wx)
    case first=>
      obtain ⟨T,hT,hcase⟩:=sign_cases S
      have HT:=hid hT
      clear hT
      rcases hcase with ⟨rfl,hn⟩ | ⟨rfl,hn,hm,hp⟩ | ⟨hST,hn,hm,hp⟩
      · have HN:=hid hn
        have h1:(⟨(45::T).toArray⟩:ByteArray).size=T.length+1:=by rw [Lib.size_mk];simp
        have h2:(⟨(45::T).toArray⟩:ByteArray).extract 1 (T.length+1)=⟨T.toArray⟩:=by rw [Lib.extract_mk];simp
        have hx:∀ h,(⟨(45::T).toArray⟩:ByteArray)[0]'h=45:=fun h=>rfl
        have hb:B=true:=by rw [← HB0.out];simp [List.isPrefixOf]
        have hT':T.length≤1999999:=by simpa using hS
        subst hb
        clear hn hS
        go_wp2
        go_meet
        case rel=>exact ⟨by rw [HT.out],by rw [HN.out],rfl⟩
      · have HN:=hid hn
        have h1:(⟨(43::T).toArray⟩:ByteArray).size=T.length+1:=by rw [Lib.size_mk];simp
        have h2:(⟨(43::T).toArray⟩:ByteArray).extract 1 (T.length+1)=⟨T.toArray⟩:=by rw [Lib.extract_mk];simp
        have hx:∀ h,(⟨(43::T).toArray⟩:ByteArray)[0]'h=43:=fun h=>rfl
        have hb:B=true:=by rw [← HB0.out];simp [List.isPrefixOf]
        have hT':T.length≤1999999:=by simpa using hS
        subst hb
        clear hn hm hp hS
        go_wp2
        go_meet
        case rel=>exact ⟨by rw [HT.out],by rw [HN.out],rfl⟩
      · have HN:=hid hn
        have hST':=hid hST
        have hb:B=false:=by rw [← HB0.out,hm,hp];rfl
        subst hb
        clear hn hm hp hST
        go_wp2
        go_meet
        case rel=>exact ⟨by rw [HT.out,← hST'.out],by rw [HN.out],rfl⟩
    case rest=>
      obtain ⟨rfl,rfl,rfl⟩:=hcut
      have hT:(pRest S).length≤2000000:=by
        refine Nat.le_trans ?_ hS
        unfold pRest
        split
        · rw [List.length_tail];omega
        · exact Nat.le_refl _
      have hok:pOK l=rOK (pBase (pRest (strip l))) (pBody (pRest (strip l))):=rfl
      have hval:pVal l=sgnInt (pNeg (strip l)) (numOf (pBase (pRest (strip l))) (pBody (pRest (strip l)))):=rfl
      rw [hSS.out] at hok hval
      have HOK:=hid hok
      have HVAL:=hid hval
      clear hok hval hS hSS
      generalize pRest S=T at *
      generalize pNeg S=ng at *
      go_upto_region 7 with fail
      go_cut [34] from 27 to 34 (fun v wx=>v=.bool (decide (1<T.length) && ((48:UInt8) == T.headD 0))∧W=wx)
      case first=>
        cases T with
        | nil=>
          have h1:(⟨([]:List UInt8).toArray⟩:ByteArray).size=0:=rfl
          go_wp2
          go_meet
          case rel=>exact ⟨rfl,rfl⟩
        | cons x R=>
          have h1:(⟨(x::R).toArray⟩:ByteArray).size=R.length+1:=by rw [Lib.size_mk];simp
          have hx:∀ h,(⟨(x::R).toArray⟩:ByteArray)[0]'h=x:=fun h=>rfl
          have hR:R.length≤1999999:=by simpa using hT
          have HL:=hid (show decide (1<(x::R).length)=decide (1<R.length+1) by simp)
          clear hT
          by_cases hr:0<R.length
          · by_cases e1:x=48
            · subst e1
              have hr2:1<R.length+1:=by omega
              go_wp2
              go_meet
              case rel=>exact ⟨by rw [HL.out,decide_eq_true (by omega)];rfl,rfl⟩
            · have n1 : (((x.toNat : Nat) : Int) == 48) = false := by
                rw [beq_eq_false_iff_ne]
                intro h
                exact e1 (UInt8.toNat_inj.1 (show x.toNat=48 by omega))
              have m1:((48:UInt8) == x)=false:=by rw [beq_eq_false_iff_ne];exact fun h=>e1 h.symm
              have hr2:1<R.length+1:=by omega
              go_wp2
              go_meet
              case rel=>exact ⟨by rw [List.headD_cons,m1,Bool.and_false],rfl⟩
          · have hr2:¬ 1<R.length+1:=by omega
            go_wp2
            go_meet
            case rel=>exact ⟨by rw [HL.out,decide_eq_false (by omega)];rfl,rfl⟩
      case rest=>
        obtain ⟨rfl,rfl⟩:=hcut
        generalize hBB:(decide (1<T.length) && ((48:UInt8) == T.headD 0))=B2
        have HB2:=hid hBB
        clear hBB
        go_upto_if 34 with fail
        go_cut [0,5] from 35 to 46 (fun s0 s5 wx=>s0=.string ⟨(pBody T).toArray⟩∧s5=.int .i64 (pBase T)∧W=wx)
        case first=>
          have three:∀ (x:UInt8) (R:List UInt8) (W:World),T=48::x::R→B2=true:=fun x R _ h=>by rw [← HB2.out,h];simp
          cases B2 with
          | false=>
            have hpre:∀ p:UInt8,([48,p]:List UInt8).isPrefixOf T=false:=by
              intro p
              cases T with
              | nil=>rfl
              | cons y T=>
                cases T with
                | nil=>simp [List.isPrefixOf]
                | cons z R=>
                  have h:=HB2.out
                  have h2:((48:UInt8) == y)=false:=by simpa using h
                  simp [List.isPrefixOf,h2]
            have HB:=hid (show pBase T=10 by unfold pBase;rw [hpre,hpre,hpre];rfl)
            have HD:=hid (show pBody T=T by unfold pBody;rw [hpre,hpre,hpre];rfl)
            clear three hpre
            go_wp2
            go_meet
            case rel=>exact ⟨by rw [HD.out],by rw [HB.out];rfl,rfl⟩
          | true=>
            obtain ⟨x,R,hTT⟩:∃ x R,T=48::x::R:=by
              have h:=HB2.out
              cases T with
              | nil=>simp at h
              | cons y T=>
                cases T with
                | nil=>simp at h
                | cons z R=>
                  have h2:y=48:=by
                    have:(48:UInt8) == y:=by simpa using h
                    exact (by simpa using this:(48:UInt8)=y).symm
                  subst h2
                  exact ⟨z,R,rfl⟩
            subst hTT
            clear three HB2
            have h1:(⟨(48::x::R).toArray⟩:ByteArray).size=R.length+2:=by rw [Lib.size_mk];simp
            have h2:(⟨(48::x::R).toArray⟩:ByteArray).extract 2 (R.length+2)=⟨R.toArray⟩:=by rw [Lib.extract_mk];simp
            have hx:∀ h,(⟨(48::x::R).toArray⟩:ByteArray)[1]'h=x:=fun h=>rfl
            have hR:R.length≤2000000:=by simp at hT;omega
            clear hT
            have key:∀ k:UInt8,x≠k→(((x.toNat:Nat):Int) == ((k.toNat:Nat):Int))=false∧((k == x)=false):=fun k hk=>⟨by
              rw [beq_eq_false_iff_ne]
              intro h
              exact hk (UInt8.toNat_inj.1 (by omega)),by rw [beq_eq_false_iff_ne];exact fun h=>hk h.symm⟩
            by_cases e1:x=120
            · subst e1
              have HB:=hid (show pBase (48::120::R)=16 by simp [pBase,List.isPrefixOf])
              have HD:=hid (show pBody (48::120::R)=R by simp [pBody,List.isPrefixOf])
              clear key
              go_wp2
              go_meet
              case rel=>exact ⟨by rw [HD.out],by rw [HB.out];rfl,rfl⟩
            · obtain ⟨n1,m1⟩:=key 120 e1
              have n1:(((x.toNat:Nat):Int) == 120)=false:=n1
              by_cases e2:x=111
              · subst e2
                have HB:=hid (show pBase (48::111::R)=8 by simp [pBase,List.isPrefixOf])
                have HD:=hid (show pBody (48::111::R)=R by simp [pBody,List.isPrefixOf])
                clear key
                go_wp2
                go_meet
                case rel=>exact ⟨by rw [HD.out],by rw [HB.out];rfl,rfl⟩
              · obtain ⟨n2,m2⟩:=key 111 e2
                have n2:(((x.toNat:Nat):Int) == 111)=false:=n2
                by_cases e3:x=98
                · subst e3
                  have HB:=hid (show pBase (48::98::R)=2 by simp [pBase,List.isPrefixOf])
                  have HD:=hid (show pBody (48::98::R)=R by simp [pBody,List.isPrefixOf])
                  clear key
                  go_wp2
                  go_meet
                  case rel=>exact ⟨by rw [HD.out],by rw [HB.out];rfl,rfl⟩
                · obtain ⟨n3,m3⟩:=key 98 e3
                  have n3:(((x.toNat:Nat):Int) == 98)=false:=n3
                  have HB:=hid (show pBase (48::x::R)=10 by simp [pBase,List.isPrefixOf,m1,m2,m3])
                  have HD:=hid (show pBody (48::x::R)=48::x::R by simp [pBody,List.isPrefixOf,m1,m2,m3])
                  clear key e1 e2 e3 m1 m2 m3
                  go_wp2
                  go_meet
                  case rel=>exact ⟨by rw [HD.out],by rw [HB.out];rfl,rfl⟩
        case rest=>
          obtain ⟨rfl,rfl,rfl⟩:=hcut
          have hU:(pBody T).length≤2000000:=by
            refine Nat.le_trans ?_ hT
            unfold pBody
            split
            · rw [List.length_drop];omega
            · exact Nat.le_refl _
          have hb16:2≤pBase T∧pBase T≤16:=by
            unfold pBase
            repeat' split
            all_goals decide
          obtain ⟨hb2,hb16⟩:=hb16
          generalize pBody T=U at *
          generalize pBase T=b at *
          clear HB2
          by_cases hten:b=10
          · subst hten
            have HC:=hid (dec_fn U (by omega) ng W)
            go_wp2_with fail
            (with_reducible refine HC.out.mono ?_);rintro e w1 ⟨v,rfl,hb1,hv,g,s,n,c,rfl⟩
            obtain ⟨⟨r1,r2⟩,s1,s2⟩:=(k0.later hb1).two
            have HV2:=hid hv
            clear hv
            have hsz1:=hb1.size
            have hbF:=((hb0.trans (hb1.mono (by omega))).setCell (p:=⟨w.heap.size,0,none⟩) (Nat.le_refl _) (.bool g)).setCell (p:=⟨w.heap.size,1,none⟩) (Nat.le_refl _) (.slice s n c)
            go_wp2
            refine bodyPost_ret (v:=.tuple #[.agg #[.bool g,.slice s n c],.bool (rOK 10 U)]) (by simp [results,Tryz.results40,go_sem,r1,r2]) rfl ⟨_,by rw [HOK.out],hbF,fun h=>?_,⟨_,_,_,_,rfl⟩⟩
            have hok:rOK 10 U=true:=by rw [← HOK.out];exact h
            obtain ⟨sv,he,hown⟩:=HV2.out hok
            rw [HVAL.out]
            refine ⟨sgnInt ng (numOf 10 U),⟨sv,he,?_⟩,?_,.inl rfl⟩
            · unfold OwnDec
              exact (own_set2 (show Own .i64 3 w1 W.heap.size sv _ _ from hown) _ _ (by omega)).mono (by omega)
            · rw [sgnInt_abs]
              have hall:∀ c∈U,valOf c<10:=by
                unfold rOK at hok
                intro c hc
                exact of_decide_eq_true (List.all_eq_true.1 (Bool.and_eq_true_iff.1 hok).2 c hc)
              have h1:=numOf_lt 10 (by decide) U hall
              have h2:=(dlen_le_iff 10 _ _ (by decide)).2 h1
              omega
          · have hne:((b:Int) == 10)=false:=by rw [beq_eq_false_iff_ne];omega
            have HC:=hid (digits_fn U (by omega) b hb2 (by omega) W)
            clear hten
            go_wp2_with fail
            (with_reducible refine HC.out.mono ?_);rintro e w1 ⟨v,n,rfl,hb1,hown,hdl,hnear⟩
            obtain ⟨a,cap,rfl⟩:=hown.dec.shape
            have HN:=hid hnear
            clear hnear
            have HC2:=hid (num_fn hown.dec (by omega) ng)
            go_wp2_with fail
            (with_reducible refine HC2.out.mono ?_);rintro e w2 ⟨rfl,hb2'⟩
            obtain ⟨⟨r1,r2⟩,s1,s2⟩:=((k0.later hb1).later hb2').two
            have hsz1:=hb1.size
            have hsz2:=hb2'.size
            have hbF:=((hb0.trans ((hb1.mono (by omega)).trans (hb2'.mono (by omega)))).setCell (p:=⟨w.heap.size,0,none⟩) (Nat.le_refl _) (.bool (ng && decide (0<n)))).setCell (p:=⟨w.heap.size,1,none⟩) (Nat.le_refl _) (.slice a (dlen 10 n) cap)
            go_wp2
            refine bodyPost_ret (v:=.tuple #[.agg #[.bool (ng && decide (0<n)),.slice a (dlen 10 n) cap],.bool (rOK b U)]) (by simp [results,Tryz.results40,go_sem,r1,r2]) rfl ⟨_,by rw [HOK.out],hbF,fun h=>?_,⟨_,_,_,_,rfl⟩⟩
            have hok:rOK b U=true:=by rw [← HOK.out];exact h
            have hnear:=HN.out hok
            rw [HVAL.out]
            refine ⟨sgnInt ng n,⟨_,by rw [sgnInt_neg],?_⟩,by rw [sgnInt_abs];omega,?_⟩
            · unfold OwnDec
              rw [sgnInt_abs]
              exact (own_set2 (Own.keep hown hb2' (Nat.le_refl _)) _ _ (by omega)).mono (by omega)
            · rcases hnear with rfl | ⟨h1,h2⟩
              · exact .inl rfl
              · right
                have h3:=big600_pos
                rw [sgnInt_abs,sgnInt_abs,sgnInt_neg,sgnInt_neg,decide_eq_true (by omega),decide_eq_true (by omega)]
                exact ⟨h1,h2,rfl⟩
end Go.Proofs.YtbilphfbfnohmaaGreatDoor
namespace Go.Proofs.YtbilphfbfnohmaaGreatDoor
open Go.RowKit
def digS (d:Nat):List UInt8:=[UInt8.ofNat (chN d)]
theorem lit_dig (d:Nat) (h:d<10):∀ s:ByteArray,s=⟨#[48,49,50,51,52,53,54,55,56,57,97,98,99,100,101,102,103,104,105,106,107,108,109,110,111,112,113,114,115,116,117,118,119,120,121,122]⟩→s.extract d (d+1)=⟨(digS d).toArray⟩:=by
 rintro s rfl
 have:d=0∨d=1∨d=2∨d=3∨d=4∨d=5∨d=6∨d=7∨d=8∨d=9:=by omega
 rcases this with rfl | rfl | rfl | rfl | rfl | rfl | rfl | rfl | rfl | rfl<;>decide
theorem smallI_fn (d:Nat) (hd:d<10) (w:World) :
  Calls Tryz.prog 179 #[.int .i64 d] w fun e w'=>e=.returned (.string ⟨(digS d).toArray⟩)∧w'=w:=by
 have HL:=hid (lit_dig d hd)
 go_enter Tryz.func179,Tryz.ntmps179
 go_wp2
 go_ret
 exact ⟨by rw [← HL.out _ rfl];rfl,rfl⟩
theorem fmtI_fn (d:Nat) (hd:d<10) (w:World) :
  Calls Tryz.prog 135 #[.int .i64 d,.int .i64 10] w fun e w'=>e=.returned (.string ⟨(digS d).toArray⟩)∧w'=w:=by
 have hc:=hid (smallI_fn d hd w)
 go_enter Tryz.func135,Tryz.ntmps135
 go_wp2_with fail
 (with_reducible refine hc.out.mono ?_);rintro e w' ⟨rfl,rfl⟩
 go_wp2
 go_ret
 exact ⟨rfl,rfl⟩
theorem itoaI_fn (d:Nat) (hd:d<10) (w:World) :
  Calls Tryz.prog 83 #[.int .i64 d] w fun e w'=>e=.returned (.string ⟨(digS d).toArray⟩)∧w'=w:=by
 have hc:=hid (fmtI_fn d hd w)
 go_enter Tryz.func83,Tryz.ntmps83
 go_wp2_with fail
 (with_reducible refine hc.out.mono ?_);rintro e w' ⟨rfl,rfl⟩
 go_wp2
 go_ret
 exact ⟨rfl,rfl⟩
theorem itoa_fn (d:Nat) (hd:d<10) (w:World) :
  Calls Tryz.prog 42 #[.int .i64 d] w fun e w'=>e=.returned (.string ⟨(digS d).toArray⟩)∧w'=w:=by
 have hc:=hid (itoaI_fn d hd w)
 go_enter Tryz.func42,Tryz.ntmps42
 go_wp2_with fail
 (with_reducible refine hc.out.mono ?_);rintro e w' ⟨rfl,rfl⟩
 go_wp2
 go_ret
 exact ⟨rfl,rfl⟩
def lowS (n k:Nat):List UInt8:=(List.range k).map fun t=>UInt8.ofNat (chN (dgt 10 n (k-1-t)))
theorem lowS_length (n k:Nat):(lowS n k).length=k:=by simp [lowS]
theorem lowS_succ (n k:Nat):lowS n (k+1)=digS (dgt 10 n k)++lowS n k:=by
 unfold lowS digS
 rw [List.range_succ_eq_map]
 simp only [List.map_cons,List.map_map,List.singleton_append,List.cons.injEq]
 refine ⟨by simp,?_⟩
 apply List.map_congr_left
 intro t ht
 have:=List.mem_range.1 ht
 show UInt8.ofNat (chN (dgt 10 n (k+1-1-(t+1))))=_
 rw [show k+1-1-(t+1)=k-1-t from by omega]
theorem lowS_all (n:Nat):lowS n (dlen 10 n)=strOf 10 n:=rfl
set_option maxRecDepth 100000 in
set_option maxHeartbeats 4000000 in
theorem textR_fn {v:Value} {z:Int} {w:World} (h:DNum w v z) (hl:dlen 10 z.natAbs≤1000000) :
  Calls Tryz.prog 82 #[v] w fun e w'=>e=.returned (.string ⟨(numText 10 z.natAbs (decide (z<0))).toArray⟩)∧Below w.heap.size w w':=by
 obtain ⟨s,rfl,h⟩:=h
 generalize hneg:decide (z<0)=neg
 clear hneg
 generalize z.natAbs=n at *
 obtain ⟨a,cap,rfl⟩:=h.shape
 have k0:=Blk.new w #[.bool neg,.slice a (dlen 10 n) cap] 60
 have hb0:Below w.heap.size w (w.alloc (.cells #[.bool neg,.slice a (dlen 10 n) cap] 60)):=(Below.refl _ _).alloc (Nat.le_refl _) _
 have hrep:=h.below hb0
 have hem:=strOf_isEmpty 10 n (by decide)
 go_enter Tryz.func82,Tryz.ntmps82
 go_wp2
 generalize w.alloc (.cells #[.bool neg,.slice a (dlen 10 n) cap] 60)=W at *
 obtain ⟨⟨p1,p2⟩,q1,q2⟩:=k0.two
 have hcell:=hrep
 obtain ⟨a',cap',hv,hcap,hcell⟩:=hcell
 simp only [Value.slice.injEq,true_and] at hv
 obtain ⟨rfl,rfl⟩:=hv
 go_loop [3,9] (fun sv iv=>∃ k:Nat,iv=.int .i64 k∧k≤dlen 10 n∧sv=.string ⟨(lowS n k).toArray⟩) (fun _ iv=>dlen 10 n-(intOf iv).toNat)
 case atStart=>exact ⟨0,rfl,Nat.zero_le _,rfl⟩
 case round=>
  obtain ⟨k,rfl,hk,rfl⟩:=hrel
  by_cases hlt:k<dlen 10 n
  ·obtain ⟨b,off,rfl,hbl,hc⟩:=hcell (by omega)
   have hck:=hc k hlt
   have HC:=hid (itoa_fn (dgt 10 n k) (dgt_lt 10 n k (by decide)) W)
   have HS:=hid (lowS_succ n k)
   have hlen:=lowS_length n k
   have h1:(⟨(lowS n k).toArray⟩:ByteArray).size=k:=by rw [Lib.size_mk];exact hlen
   have h2:(⟨(digS (dgt 10 n k)).toArray⟩:ByteArray).size=1:=rfl
   clear hlen
   go_wp2_with fail
   (with_reducible refine HC.out.mono ?_);rintro e w' ⟨rfl,rfl⟩
   go_wp2
   go_round
   case rel=>exact ⟨k+1,by go_num,by omega,by rw [HS.out];exact congrArg Value.string (by apply ByteArray.ext;simp [ByteArray.data_append])⟩
   case measure=>simp [intOf]<;>omega
  ·obtain rfl:k=dlen 10 n:=by omega
   rw [lowS_all]
   have HE:=hem
   by_cases h0:n=0
   ·rw [decide_eq_true h0] at hem
    have hn:numText 10 n neg=[48]:=by rw [numText,if_pos h0]
    have HN:=hid hn
    clear h0 hn HE
    go_wp2
    go_ret
    exact ⟨by rw [HN.out];rfl,hb0⟩
   ·rw [decide_eq_false h0] at hem
    have hlen:=strOf_length 10 n
    have hsz:(strOf 10 n).length≤32000000:=by omega
    clear hlen HE
    cases neg
    ·have hn:numText 10 n false=strOf 10 n:=by rw [numText,if_neg h0];rfl
     have HN:=hid hn
     clear h0 hn
     go_wp2
     go_ret
     exact ⟨by rw [HN.out];rfl,hb0⟩
    ·have hn:numText 10 n true=45::strOf 10 n:=by rw [numText,if_neg h0];rfl
     have HN:=hid hn
     clear h0 hn
     go_wp2
     go_ret
     exact ⟨by rw [HN.out];rfl,hb0⟩
end Go.Proofs.YtbilphfbfnohmaaGreatDoor
namespace Go.Proofs.YtbilphfbfnohmaaGreatDoor
open Go.RowKit
def Nums (w:World) (v:Value) (zs:List Int):Prop:=
 ∃ (a:Option Addr) (cap:Nat),v=.slice a zs.length cap∧zs.length≤cap∧(0<zs.length→∃ b,a=some ⟨b,0,none⟩∧b<w.heap.size∧∀ i,i<zs.length→∃ s c,w.cell? ⟨b,i*2,none⟩=some (.bool (decide (zs.getD i 0<0)))∧w.cell? ⟨b,i*2+1,none⟩=some (.slice s (dlen 10 (zs.getD i 0).natAbs) c)∧DecRep w (.slice s (dlen 10 (zs.getD i 0).natAbs) c) (zs.getD i 0).natAbs)
theorem Nums.nil (w:World):Nums w (.slice none 0 0) []:=⟨none,0,rfl,Nat.le_refl _,fun h=>absurd h (Nat.lt_irrefl 0)⟩
theorem Nums.below {w w':World} {v:Value} {zs:List Int} (h:Nums w v zs) (hb:Below w.heap.size w w'):Nums w' v zs:=by
 obtain ⟨a,cap,rfl,hc,h⟩:=h
 refine ⟨a,cap,rfl,hc,fun h0=>?_⟩
 obtain ⟨b,rfl,hlt,hcell⟩:=h h0
 refine ⟨b,rfl,Nat.lt_of_lt_of_le hlt hb.size,fun i hi=>?_⟩
 obtain ⟨s,c,h1,h2,h3⟩:=hcell i hi
 exact ⟨s,c,(hb.cell (p:=⟨b,i*2,none⟩) hlt).trans h1,(hb.cell (p:=⟨b,i*2+1,none⟩) hlt).trans h2,h3.below hb⟩
def anyBig (zs:List Int):Bool:=zs.any fun z=>decide (big600≤z.natAbs)
def toldRes (z:Int) (zs:List Int):List UInt8×Int:=if anyBig zs then ([],4) else resOf z
theorem DNum.shape {w:World} {v:Value} {z:Int} (h:DNum w v z):∃ a c,v=.agg #[.bool (decide (z<0)),.slice a (dlen 10 z.natAbs) c]∧DecRep w (.slice a (dlen 10 z.natAbs) c) z.natAbs:=by
 obtain ⟨s,rfl,h⟩:=h
 obtain ⟨a,c,rfl⟩:=h.shape
 exact ⟨a,c,rfl,h⟩
set_option maxRecDepth 100000 in
set_option maxHeartbeats 4000000 in
theorem told_fn {v u:Value} {z:Int} {zs:List Int} {w:World} (h:DNum w v z) (hl:dlen 10 z.natAbs≤10000000) (hs:Nums w u zs) (hz:∀ x∈zs,dlen 10 x.natAbs≤10000000) (hn:zs.length≤100) :
  Calls Tryz.prog 41 #[v,u] w fun e w'=>e=.returned (.tuple #[.string ⟨(toldRes z zs).1.toArray⟩,.int .i64 (toldRes z zs).2])∧Below w.heap.size w w':=by
 obtain ⟨a,cap,rfl,hd⟩:=h.shape
 have hs0:=hs
 obtain ⟨su,cu,rfl,hcu,hcell⟩:=hs0
 have k0:=Blk.new w #[.bool (decide (z<0)),.slice a (dlen 10 z.natAbs) cap] 60
 have hb0:Below w.heap.size w (w.alloc (.cells #[.bool (decide (z<0)),.slice a (dlen 10 z.natAbs) cap] 60)):=(Below.refl _ _).alloc (Nat.le_refl _) _
 have hsz0:(w.alloc (.cells #[.bool (decide (z<0)),.slice a (dlen 10 z.natAbs) cap] 60)).heap.size=w.heap.size+1:=by simp
 have HZ:=hid hz
 have HC:=hid hcell
 clear hz hcell
 go_enter Tryz.func41,Tryz.ntmps41
 go_wp2
 generalize w.alloc (.cells #[.bool (decide (z<0)),.slice a (dlen 10 z.natAbs) cap] 60)=W at *
 go_loopw [10] (fun iv wr=>∃ k:Nat,iv=.int .i64 k∧k≤zs.length∧anyBig (zs.take k)=false∧Below w.heap.size w wr∧Blk wr w.heap.size #[.bool (decide (z<0)),.slice a (dlen 10 z.natAbs) cap] 60) (fun iv _=>zs.length-(intOf iv).toNat)
 case atStart=>exact ⟨0,rfl,Nat.zero_le _,rfl,hb0,k0⟩
 case round=>
  obtain ⟨k,rfl,hk,hany,hbr,kr⟩:=hrel
  have HA:=hid hany
  clear hany
  by_cases hlt:k<zs.length
  ·obtain ⟨b,rfl,hbl,hc⟩:=HC.out (by omega)
   obtain ⟨s,c,c1,c2,c3⟩:=hc k hlt
   have c1:=(hbr.cell (p:=⟨b,k*2,none⟩) hbl).trans c1
   have c2:=(hbr.cell (p:=⟨b,k*2+1,none⟩) hbl).trans c2
   have e:zs.getD k 0=zs[k]:=by rw [List.getD_eq_getElem?_getD,List.getElem?_eq_getElem hlt];rfl
   have hdl:=HZ.out (zs[k]) (List.getElem_mem hlt)
   rw [e] at c1 c2 c3
   have HT:=hid (show anyBig (zs.take (k+1))=decide (big600≤(zs[k]).natAbs) by
    have h1:=HA.out
    unfold anyBig at h1 ⊢
    rw [List.take_add_one,List.getElem?_eq_getElem hlt,List.any_append,h1]
    simp)
   have hmono:anyBig (zs.take (k+1))=true→anyBig zs=true:=by
    unfold anyBig
    intro h
    rw [List.any_eq_true] at h ⊢
    obtain ⟨x,h1,h2⟩:=h
    exact ⟨x,List.mem_of_mem_take h1,h2⟩
   have HM:=hid hmono
   clear hmono e hc
   generalize zs[k]=y at *
   have k1:=Blk.new wr #[.bool (decide (y<0)),.slice s (dlen 10 y.natAbs) c] 60
   have hb1:Below wr.heap.size wr (wr.alloc (.cells #[.bool (decide (y<0)),.slice s (dlen 10 y.natAbs) c] 60)):=(Below.refl _ _).alloc (Nat.le_refl _) _
   have hD:DNum (wr.alloc (.cells #[.bool (decide (y<0)),.slice s (dlen 10 y.natAbs) c] 60)) (.agg #[.bool (decide (y<0)),.slice s (dlen 10 y.natAbs) c]) y:=⟨_,rfl,(c3.below hbr).below hb1⟩
   have HLC:=hid (long_fn hD (by omega))
   have hszr:=hbr.size
   go_wp2_with fail
   (with_reducible refine HLC.out.mono ?_);rintro e w2 ⟨rfl,hb2⟩
   have hb3:=hbr.trans ((hb1.mono hszr).trans (hb2.mono (Nat.le_trans hszr hb1.size)))
   by_cases hbig:big600≤y.natAbs
   ·have HR:=hid (show toldRes z zs=([],4) by unfold toldRes;rw [HM.out (by rw [HT.out];exact decide_eq_true hbig)];rfl)
    rw [decide_eq_true hbig]
    clear hbig
    go_wp2
    go_ret2
    exact ⟨by rw [HR.out];rfl,hb3⟩
   ·have HF:=hid (show anyBig (zs.take (k+1))=false by rw [HT.out];exact decide_eq_false hbig)
    rw [decide_eq_false hbig]
    clear hbig
    have kr2:=(kr.later hb1).later hb2
    go_wp2
    go_roundw
    case rel=>exact ⟨k+1,by go_num,by omega,HF.out,hb3,kr2⟩
    case measure=>simp [intOf]<;>omega
  ·obtain rfl:k=zs.length:=by omega
   have hany:=HA.out
   rw [List.take_length] at hany
   have HR:=hid (show toldRes z zs=resOf z by unfold toldRes;rw [hany];rfl)
   clear hany
   have hD:DNum wr (.agg #[.bool (decide (z<0)),.slice a (dlen 10 z.natAbs) cap]) z:=⟨_,rfl,hd.below hbr⟩
   have HLC:=hid (long_fn hD (by omega))
   have hszr:=hbr.size
   obtain ⟨⟨p1,p2⟩,q1,q2⟩:=kr.two
   go_wp2_with fail
   (with_reducible refine HLC.out.mono ?_);rintro e w2 ⟨rfl,hb2⟩
   have hb3:=hbr.trans (hb2.mono hszr)
   clear p1 p2 q1 q2
   obtain ⟨⟨p1,p2⟩,q1,q2⟩:=(kr.later hb2).two
   by_cases hbig:big600≤z.natAbs
   ·have HR2:=hid (show resOf z=([],4) by unfold resOf;rw [if_neg (by omega)])
    rw [decide_eq_true hbig]
    clear hbig
    go_wp2
    go_ret2
    exact ⟨by rw [HR.out,HR2.out];rfl,hb3⟩
   ·have HR2:=hid (show resOf z=(numText 10 z.natAbs (decide (z<0)),0) by unfold resOf;rw [if_pos (by omega)])
    have HTC:=hid (textR_fn (hD.below hb2) (by have:=(digits_600 z.natAbs).2 (by omega);omega))
    rw [decide_eq_false hbig]
    clear hbig
    go_wp2_with fail
    (with_reducible refine HTC.out.mono ?_);rintro e w3 ⟨rfl,hb4⟩
    go_wp2
    go_ret2
    exact ⟨by rw [HR.out,HR2.out];rfl,hb3.trans (hb4.mono (Nat.le_trans hszr hb2.size))⟩
theorem toldRes_nil (z:Int):toldRes z []=resOf z:=rfl
end Go.Proofs.YtbilphfbfnohmaaGreatDoor
namespace Go.Proofs.YtbilphfbfnohmaaGreatDoor
open Go.RowKit
theorem resOf_big (z:Int) (h:big600≤z.natAbs):resOf z=([],4):=by unfold resOf;rw [if_neg (by omega)]
def Cut (z' z:Int):Prop:=z'=z∨(big600≤z'.natAbs∧big600≤z.natAbs∧decide (z'<0)=decide (z<0))
theorem Cut.res {z' z:Int} (h:Cut z' z):resOf z'=resOf z:=by
 rcases h with rfl | ⟨h1,h2,_⟩
 ·rfl
 ·rw [resOf_big _ h1,resOf_big _ h2]
theorem canRes_eq (a:List UInt8):canRes a=if pOK a=true then resOf (pVal a) else ([],2):=by
 unfold canRes oneRes
 by_cases h:pOK a=true
 ·rw [if_pos h,if_pos h,if_neg (by simp)]
  by_cases hb:big600≤(pVal a).natAbs
  ·rw [if_pos hb,resOf_big _ hb]
  ·rw [if_neg hb]
 ·rw [if_neg h,if_neg h]
set_option maxRecDepth 100000 in
set_option maxHeartbeats 4000000 in
theorem canR_fn (a:List UInt8) (ha:a.length≤2000000) (w:World) :
  Calls Tryz.prog 11 #[.string ⟨a.toArray⟩] w fun e w'=>e=.returned (.tuple #[.string ⟨(canRes a).1.toArray⟩,.int .i64 (canRes a).2])∧Below w.heap.size w w':=by
 have hc:=hid (number_fn a ha w)
 unfold NumP at hc
 cases hok:pOK a with
 | false=>
  have HR:=hid (show canRes a=([],2) by rw [canRes_eq,hok];rfl)
  rw [hok] at hc
  clear hok
  go_enter Tryz.func11,Tryz.ntmps11
  go_wp2_with fail
  (with_reducible refine hc.out.mono ?_);rintro e w1 ⟨v,rfl,hb1,hv,g,s,n,c,rfl⟩
  go_wp2
  go_ret2
  exact ⟨by rw [HR.out];rfl,hb1.alloc hb1.size _⟩
 | true=>
  have HR:=hid (show canRes a=resOf (pVal a) by rw [canRes_eq,hok];rfl)
  rw [hok] at hc
  clear hok
  go_enter Tryz.func11,Tryz.ntmps11
  go_wp2_with fail
  (with_reducible refine hc.out.mono ?_);rintro e w1 ⟨v,rfl,hb1,hv,g,s,n,c,rfl⟩
  obtain ⟨z',hz,hdl,hcut⟩:=hv (by first | rfl | trivial)
  have HC:=hid (Cut.res hcut)
  have hbA:Below w.heap.size w (w1.alloc (.cells #[.bool g,.slice s n c] 60)):=hb1.alloc hb1.size _
  have kA:=Blk.new w1 #[.bool g,.slice s n c] 60
  have hD:=hz.num.below ((Below.refl _ w1).alloc (Nat.le_refl _) (.cells #[.bool g,.slice s n c] 60))
  have HT:=hid (told_fn hD (by omega) (Nums.nil _) (fun x h=>by cases h) (by decide))
  rw [toldRes_nil,HC.out] at HT
  clear hcut hv
  have hsz1:=hb1.size
  go_wp2_with fail
  (with_reducible refine HT.out.mono ?_);rintro e w2 ⟨rfl,hb2⟩
  go_wp2
  go_ret2
  exact ⟨by rw [HR.out];rfl,hbA.trans (hb2.mono hbA.size)⟩
end Go.Proofs.YtbilphfbfnohmaaGreatDoor
namespace Go.Proofs.YtbilphfbfnohmaaGreatDoor
open Go.RowKit
theorem OwnDec.of {w:World} {base:Nat} {v:Value} {n:Nat} (h:Own .i64 3 w base v (dlen 10 n) (dgt 10 n)):OwnDec w base v n:=h
end Go.Proofs.YtbilphfbfnohmaaGreatDoor
namespace Go.Proofs.YtbilphfbfnohmaaGreatDoor
open Go.RowKit
theorem valOf_ch (d:Nat) (h:d<36):valOf (UInt8.ofNat (chN d))=d:=by
 have:∀ d,d<36→valOf (UInt8.ofNat (chN d))=d:=by decide +kernel
 exact this d h
theorem numOf_strOf (b n:Nat) (hb2:2≤b) (hb:b≤36):numOf b (strOf b n)=n:=by
 have key:∀ L,n<b ^ L→∀ k,k≤L→numOf b ((List.range k).map fun t=>UInt8.ofNat (chN (dgt b n (L-1-t))))=n / b ^ (L-k):=by
  intro L hL k
  induction k with
  | zero=>intro _;rw [Nat.sub_zero,Nat.div_eq_of_lt hL];rfl
  | succ k ih=>
   intro hk
   rw [List.range_succ,List.map_append,List.map_singleton,numOf_snoc,ih (by omega),valOf_ch _ (Nat.lt_of_lt_of_le (dgt_lt b n _ hb2) hb)]
   have e1:L-1-k=L-(k+1):=by omega
   have e2:L-k=L-(k+1)+1:=by omega
   unfold dgt
   rw [e1,e2,Nat.pow_succ,← Nat.div_div_eq_div_mul]
   generalize n / b ^ (L-(k+1))=x
   have:=Nat.div_add_mod x b
   rw [Nat.mul_comm] at this
   exact this
 have h:=key (dlen b n) (dlen_lt b n hb2) (dlen b n) (Nat.le_refl _)
 rw [Nat.sub_self,Nat.pow_zero,Nat.div_one] at h
 exact h
theorem strOf_digits (b n:Nat) (hb2:2≤b) (hb:b≤36):∀ c∈strOf b n,valOf c<b:=by
 intro c hc
 unfold strOf at hc
 obtain ⟨t,_,rfl⟩:=List.mem_map.1 hc
 rw [valOf_ch _ (Nat.lt_of_lt_of_le (dgt_lt b n _ hb2) hb)]
 exact dgt_lt b n _ hb2
theorem rOK_of (b:Nat) (l:List UInt8) (h:∀ c∈l,valOf c<b) (h0:l≠[]):rOK b l=true:=by
 unfold rOK
 rw [List.all_eq_true.2 (fun c hc=>decide_eq_true (h c hc)),Bool.and_true]
 cases l with
 | nil=>exact absurd rfl h0
 | cons _ _=>rfl
theorem wh_digit (c:UInt8) (h:valOf c<36):isWh c=false:=by
 have hv:valOf c=if 48≤c.toNat∧c.toNat≤57 then c.toNat-48
  else if 97≤c.toNat∧c.toNat≤122 then c.toNat-97+10
  else if 65≤c.toNat∧c.toNat≤90 then c.toNat-65+10
  else 36:=rfl
 have key:∀ k:UInt8,(c=k)↔c.toNat=k.toNat:=fun k=>⟨fun h=>by rw [h],fun h=>UInt8.toNat_inj.1 h⟩
 cases hw:isWh c with
 | false=>rfl
 | true=>
  exfalso
  unfold isWh at hw
  simp only [Bool.or_eq_true,Bool.and_eq_true,decide_eq_true_eq] at hw
  rw [hv] at h
  revert h
  have h9:(9:UInt8).toNat=9:=rfl
  have h13:(13:UInt8).toNat=13:=rfl
  have h32:(32:UInt8).toNat=32:=rfl
  split
  ·omega
  ·split
   ·omega
   ·split<;>omega
theorem dropWhile_none (l:List UInt8) (h:∀ c∈l,isWh c=false):l.dropWhile isWh=l:=by
 cases l with
 | nil=>rfl
 | cons c l=>rw [List.dropWhile_cons,h c (List.mem_cons_self ..)];rfl
theorem strip_none (l:List UInt8) (h:∀ c∈l,isWh c=false):strip l=l:=by
 unfold strip
 rw [dropWhile_none l h,dropWhile_none _ (fun c hc=>h c (List.mem_reverse.1 hc)),List.reverse_reverse]
theorem head_digit (b:Nat) (_hb:b≤36) (p:UInt8) (hp:b≤valOf p) (l:List UInt8) (h:∀ c∈l,valOf c<b):([p]:List UInt8).isPrefixOf l=false:=by
 cases l with
 | nil=>rfl
 | cons c l=>
  have h1:=h c (List.mem_cons_self ..)
  have:(p == c)=false:=by
   rw [beq_eq_false_iff_ne]
   rintro rfl
   omega
  simp [List.isPrefixOf,this]
theorem second_digit (p:UInt8) (hp:10≤valOf p) (l:List UInt8) (h:∀ c∈l,valOf c<10):([48,p]:List UInt8).isPrefixOf l=false:=by
 cases l with
 | nil=>rfl
 | cons c l=>
  cases l with
  | nil=>simp [List.isPrefixOf]
  | cons d l=>
   have h1:=h d (List.mem_cons_of_mem _ (List.mem_cons_self ..))
   have:(p == d)=false:=by
    rw [beq_eq_false_iff_ne]
    rintro rfl
    omega
   simp [List.isPrefixOf,this]
theorem pBase_dec (l:List UInt8) (h:∀ c∈l,valOf c<10):pBase l=10∧pBody l=l:=by
 have h1:=second_digit 120 (by decide) l h
 have h2:=second_digit 111 (by decide) l h
 have h3:=second_digit 98 (by decide) l h
 unfold pBase pBody
 rw [h1,h2,h3]
 exact ⟨rfl,rfl⟩
theorem dec_read (l:List UInt8) (h:∀ c∈l,valOf c<10) (h0:l≠[]):(pOK l=true∧pVal l=(numOf 10 l:Nat))∧(pOK (45::l)=true∧pVal (45::l) = -((numOf 10 l:Nat):Int)):=by
 have hw:∀ c∈l,isWh c=false:=fun c hc=>wh_digit c (by have:=h c hc;omega)
 have s1:=strip_none l hw
 have s2:=strip_none (45::l) (fun c hc=>by
  rcases List.mem_cons.1 hc with rfl | hc
  ·decide
  ·exact hw c hc)
 have p1:=head_digit 10 (by decide) 45 (by decide) l h
 have p2:=head_digit 10 (by decide) 43 (by decide) l h
 have r1:pRest l=l:=by unfold pRest;rw [p1,p2];rfl
 have r2:pRest (45::l)=l:=by simp [pRest,List.isPrefixOf]
 have n1:pNeg l=false:=p1
 have n2:pNeg (45::l)=true:=by simp [pNeg,List.isPrefixOf]
 obtain ⟨b1,b2⟩:=pBase_dec l h
 have ho:=rOK_of 10 l h h0
 unfold pOK pVal
 rw [s1,s2,r1,r2,b1,b2,n1,n2]
 exact ⟨⟨ho,rfl⟩,ho,rfl⟩
def txt (z:Int):List UInt8:=numText 10 z.natAbs (decide (z<0))
theorem txt_read (z:Int):pOK (txt z)=true∧pVal (txt z)=z:=by
 unfold txt numText
 by_cases h0:z.natAbs=0
 ·rw [if_pos h0]
  have hz:z=0:=by omega
  subst hz
  have:=(dec_read [48] (by decide) (by decide)).1
  exact ⟨this.1,this.2⟩
 ·rw [if_neg h0]
  have hd:=strOf_digits 10 z.natAbs (by decide) (by decide)
  have hne:strOf 10 z.natAbs≠[]:=by
   intro h
   have h1:=strOf_length 10 z.natAbs
   rw [h] at h1
   have h2:=dlen_zero_iff 10 z.natAbs (by decide)
   simp at h1
   omega
  have hr:=dec_read _ hd hne
  rw [numOf_strOf 10 _ (by decide) (by decide)] at hr
  by_cases hn:z<0
  ·rw [decide_eq_true hn,if_pos rfl]
   exact ⟨hr.2.1,by rw [hr.2.2];omega⟩
  ·rw [decide_eq_false hn,if_neg (by decide)]
   exact ⟨hr.1.1,by rw [hr.1.2];omega⟩
theorem txt_len (z:Int) (h:z.natAbs<big600):(txt z).length≤601:=by
 unfold txt numText
 have h1:=strOf_length 10 z.natAbs
 have h2:=(digits_600 z.natAbs).2 h
 split
 ·simp
 ·split
  ·simp;omega
  ·omega
theorem resOf_small (z:Int) (h:z.natAbs<big600):resOf z=(txt z,0):=by
 unfold resOf txt;rw [if_pos h]
end Go.Proofs.YtbilphfbfnohmaaGreatDoor
namespace Go.Proofs.YtbilphfbfnohmaaGreatDoor
open Go.RowKit
def CNum1 (w:World) (v:Value) (z:Int):Prop:=∃ z',DNum w v z'∧dlen 10 z'.natAbs≤2002000∧Cut z' z
theorem CNum1.below {w w':World} {v:Value} {z:Int} (h:CNum1 w v z) (hb:Below w.heap.size w w'):CNum1 w' v z:=by
 obtain ⟨z',h1,h2,h3⟩:=h
 exact ⟨z',h1.below hb,h2,h3⟩
end Go.Proofs.YtbilphfbfnohmaaGreatDoor
namespace Go.Proofs.YtbilphfbfnohmaaGreatDoor
open Go.RowKit
def rNeg (l:List UInt8):Bool:=([45]:List UInt8).isPrefixOf l
def rRest (l:List UInt8):List UInt8:=if ([45]:List UInt8).isPrefixOf l then l.tail else l
def readRes (a:List UInt8) (B:Int):List UInt8×Int:=
 if B<2∨36<B then ([],7) else if rOK B.toNat (rRest a)=true then resOf (sgnInt (rNeg a) (numOf B.toNat (rRest a))) else ([],2)
theorem resOf_read {w:World} {v:Value} {z:Int} (h:PNum w v z):Calls Tryz.prog 168 #[v] w fun e w'=>e=.returned (.tuple #[.string ⟨(resOf z).1.toArray⟩,.int .i64 (resOf z).2])∧Below w.heap.size w w':=by
 obtain ⟨n,lg,h1,h2,h3,h4⟩:=h
 exact result_r ⟨n,_,lg,h1,fun h=>⟨h2 h,rfl⟩,fun h=>of_decide_eq_true (h3.symm.trans h),by omega⟩
set_option maxRecDepth 100000 in
set_option maxHeartbeats 4000000 in
theorem read_big (a:List UInt8) (ha:a.length≤1000000000) (B:Int) (w:World) :
  Calls Tryz.prog 148 #[.string ⟨a.toArray⟩,.int .i64 B] w fun e w'=>e=.returned (.tuple #[.string ⟨(readRes a B).1.toArray⟩,.int .i64 (readRes a B).2])∧Below w.heap.size w w':=by
 have hf:=hid (far_fn B w)
 by_cases hrange:B<2∨36<B
 ·have HR:=hid (show readRes a B=([],7) by unfold readRes;rw [if_pos hrange])
  have ht:(decide (B<2) || decide (36<B))=true:=by rcases hrange with h | h<;>rw [decide_eq_true h]<;>simp
  rw [ht] at hf
  have hf:=hid hf.out
  clear hrange ht
  go_enter Tryz.func148,Tryz.ntmps148
  go_wp2_with fail
  (with_reducible refine hf.out.mono ?_);rintro e w' ⟨rfl,rfl⟩
  go_wp2
  go_ret2
  exact ⟨by rw [HR.out];rfl,Below.refl _ _⟩
 ·have HR0:=hid (show readRes a B=if rOK B.toNat (rRest a)=true then resOf (sgnInt (rNeg a) (numOf B.toNat (rRest a))) else ([],2) by unfold readRes;rw [if_neg hrange])
  have ht:(decide (B<2) || decide (36<B))=false:=by rw [decide_eq_false (show ¬ B<2 by omega),decide_eq_false (show ¬ 36<B by omega)];rfl
  rw [ht] at hf
  have hf:=hid hf.out
  obtain ⟨b,rfl⟩:=Int.eq_ofNat_of_zero_le (show 0≤B by omega)
  have hb2:2≤b:=by omega
  have hb36:b≤36:=by omega
  have HR:=hid (show readRes a b=if rOK b (rRest a)=true then resOf (sgnInt (rNeg a) (numOf b (rRest a))) else ([],2) by rw [HR0.out];rfl)
  clear HR0 hrange ht
  have hcut:Hid (Calls Tryz.prog 61 #[.string ⟨a.toArray⟩,.string ⟨#[45]⟩] w fun e w'=>e=.returned (.tuple #[.string ⟨(rRest a).toArray⟩,.bool (rNeg a)])∧w'=w):=by
   refine hid ((cutPrefix_fn a [45] ha (by simp) w).mono ?_)
   rintro e w' ⟨rfl,rfl⟩
   refine ⟨?_,rfl⟩
   unfold rRest rNeg
   cases h:([45]:List UInt8).isPrefixOf a
   ·rfl
   ·rw [if_pos rfl,if_pos rfl]
    cases a with
    | nil=>rfl
    | cons x T=>rfl
  have hlr:(rRest a).length≤1000000000:=by
   unfold rRest
   split
   ·rw [List.length_tail];omega
   ·exact ha
  have HRD:=hid (read_fn (rRest a) hlr b hb2 hb36 (rNeg a) w)
  unfold ReadP at HRD
  generalize rRest a=U at *
  generalize rNeg a=ng at *
  clear hlr ha
  cases hok:rOK b U with
  | false=>
   have HR2:=hid (show readRes a b=([],2) by rw [HR.out,hok];rfl)
   rw [hok] at HRD
   have HRD:=hid HRD.out
   clear hok
   go_enter Tryz.func148,Tryz.ntmps148
   go_wp2_with fail
   (with_reducible refine hf.out.mono ?_);rintro e w' ⟨rfl,rfl⟩
   go_wp2_with fail
   (with_reducible refine hcut.out.mono ?_);rintro e w' ⟨rfl,rfl⟩
   go_wp2_with fail
   (with_reducible refine HRD.out.mono ?_);rintro e w1 ⟨v,rfl,hb,hv,x1,x2,x3,g,h,rfl⟩
   have hsz:=hb.size
   go_wp2
   go_ret2
   exact ⟨by rw [HR2.out];rfl,hb.alloc hsz _⟩
  | true=>
   have HR2:=hid (show readRes a b=resOf (sgnInt ng (numOf b U)) by rw [HR.out,hok];rfl)
   rw [hok] at HRD
   have HRD:=hid HRD.out
   clear hok
   go_enter Tryz.func148,Tryz.ntmps148
   go_wp2_with fail
   (with_reducible refine hf.out.mono ?_);rintro e w' ⟨rfl,rfl⟩
   go_wp2_with fail
   (with_reducible refine hcut.out.mono ?_);rintro e w' ⟨rfl,rfl⟩
   go_wp2_with fail
   (with_reducible refine HRD.out.mono ?_);rintro e w1 ⟨v,rfl,hb,hv,x1,x2,x3,g,h,rfl⟩
   have hv':=(hv (by first | rfl | trivial)).num
   have kA:=Blk.new w1 #[.slice x1 x2 x3,.bool g,.bool h] 156
   have gg:Below w1.heap.size w1 (w1.alloc (.cells #[.slice x1 x2 x3,.bool g,.bool h] 156)):=(Below.refl _ _).alloc (Nat.le_refl _) _
   have hvA:=hv'.below gg
   have hb:=hb.trans (gg.mono hb.size)
   obtain ⟨⟨r1,r2,r3⟩,r4,r5,r6⟩:=kA.three
   have HRES:=hid (resOf_read hvA)
   clear hv hv' gg
   go_wp2_with fail
   (with_reducible refine HRES.out.mono ?_);rintro e w2 ⟨rfl,hb2'⟩
   go_wp2
   go_ret2
   exact ⟨by rw [HR2.out];rfl,hb.trans (hb2'.mono hb.size)⟩
end Go.Proofs.YtbilphfbfnohmaaGreatDoor
namespace Go.Proofs.YtbilphfbfnohmaaGreatDoor
open Go.RowKit
def negRes (a:List UInt8):List UInt8×Int:=oneRes a 0 (-(pVal a))
theorem neg_fn (a:List UInt8) (ha:a.length≤1000000000) (w:World) :
  Calls Tryz.prog 149 #[.string ⟨a.toArray⟩] w fun e w'=>e=.returned (.tuple #[.string ⟨(negRes a).1.toArray⟩,.int .i64 (negRes a).2])∧Below w.heap.size w w':=by
 have hc:=hid (one_fn a ha 122 189 #[] #[] 0 (-(pVal a)) w w.heap.size (Nat.le_refl _) (enters_of Tryz.func122 (by kernel_rfl) rfl) (enters_of Tryz.func189 (by kernel_rfl) rfl)
  (fun _ w1 v _ h1=>by
   obtain ⟨n,lg,h1,_⟩:=h1
   exact never_fn h1)
  (fun _ _ _ w1 v hb h1 h2=>(opposite_int h1 (by omega)).mono fun e w' h=>by
   obtain ⟨u,rfl,h3,h4⟩:=h
   exact ⟨u,rfl,RNum.of_int h3 (by rw [Int.natAbs_neg];omega),h4.mono hb.size⟩))
 go_enter Tryz.func149,Tryz.ntmps149
 go_wp2_with fail
 (with_reducible refine hc.out.mono ?_);rintro e w1 ⟨rfl,hb1⟩
 go_wp2
 go_ret2
 exact ⟨rfl,hb1⟩
end Go.Proofs.YtbilphfbfnohmaaGreatDoor
