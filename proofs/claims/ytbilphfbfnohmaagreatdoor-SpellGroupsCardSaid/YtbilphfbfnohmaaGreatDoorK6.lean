/-
  Part K6 of the proofs of this seat, merged by a program out of 3 texts; remarks are struck.
-/
import Derived.Test.YtbilphfbfnohmaaGreatDoorK5
namespace Go.Proofs.YtbilphfbfnohmaaGreatDoor.Pz
open Go.RowKit
def ML (w:World):Prop:=∃ m,w.cell? ⟨1,0,none⟩=some (.int .i64 m)
theorem ML.below {w w':World} (h:ML w) (hb:Below w.heap.size w w'):ML w':=by
 obtain ⟨m,hm⟩:=h
 refine ⟨m,?_⟩
 have hlt:1<w.heap.size:=by
  unfold World.cell? at hm
  rcases Nat.lt_or_ge 1 w.heap.size with h | h
  ·exact h
  ·rw [Array.getElem?_eq_none h] at hm;cases hm
 rw [hb.cell hlt]
 exact hm
theorem has_idx:∀ (l:List UInt8) (c:UInt8),l.contains c=decide (0≤Lib.indexByte l c)
 | [],_=>rfl
 | b::l,c=>by
  have ih:=has_idx l c
  have hg:=Lib.indexByte_ge l c
  rw [List.contains_cons,ih,Lib.indexByte]
  by_cases h:b=c
  ·subst h
   simp
  ·have e1:(c == b)=false:=by simpa using fun h'=>h h'.symm
   have e2:¬ (b == c)=true:=by simpa using h
   rw [e1,Bool.false_or,if_neg e2]
   by_cases h2:(Lib.indexByte l c == -1)=true
   ·rw [if_pos h2]
    have h2:Lib.indexByte l c = -1:=by simpa using h2
    rw [h2]
   ·rw [if_neg h2]
    have h2:Lib.indexByte l c≠-1:=by simpa using h2
    rw [decide_eq_decide]
    omega
theorem special_idx (c:UInt8):[34,92,123,125,36,91,93,59].contains c=decide (0≤Lib.indexByte [34,92,123,125,36,91,93,59] c):=has_idx _ _
set_option maxRecDepth 100000 in
theorem special_fn (c:UInt8) (w:World):Calls Tryz.prog 183 #[.int .u8 (c.toNat:Nat)] w fun e w'=>e=.returned (.bool (special c))∧w'=w:=by
 obtain ⟨I,hI⟩:∃ I,I=Lib.indexByte [34,92,123,125,36,91,93,59] c:=⟨_,rfl⟩
 have hc:Calls Tryz.prog 88 #[.string ⟨#[34,92,123,125,36,91,93,59]⟩,.int .u8 c.toNat] w fun e w'=>e=.returned (.int .i64 I)∧w'=w:=by
  have h:=Tryz.strings_IndexByte ⟨#[34,92,123,125,36,91,93,59]⟩ (c.toNat:Int) w
  have e1:((c.toNat:Int)).toNat.toUInt8=c:=by simp
  rw [e1] at h
  rw [hI]
  exact h
 obtain ⟨W,hW⟩:∃ W,W=white c:=⟨_,rfl⟩
 obtain ⟨S,hS⟩:∃ S,S=special c:=⟨_,rfl⟩
 have hwc:=white_fn c w
 have hS2:S=(W || decide (0≤I)):=by rw [hS,special,special_idx,hW,hI]
 rw [← hW] at hwc
 rw [← hS]
 have HC:=hid hc
 have HW:=hid hwc
 have HS:=hid hS2
 clear hc hwc hS hS2 hW hI
 cases W with
 | true=>
  go_enter Tryz.func183,Tryz.ntmps183
  go_wp2_with fail
  (with_reducible refine HW.out.mono ?_);rintro e w1 ⟨rfl,hw⟩;subst w1
  go_wp2
  go_ret
  exact ⟨by rw [HS.out];rfl,rfl⟩
 | false=>
  go_enter Tryz.func183,Tryz.ntmps183
  go_wp2_with fail
  (with_reducible refine HW.out.mono ?_);rintro e w1 ⟨rfl,hw⟩;subst w1
  go_wp2_with fail
  (with_reducible refine HC.out.mono ?_);rintro e w1 ⟨rfl,hw⟩;subst w1
  go_wp2
  go_ret
  exact ⟨by rw [HS.out];rfl,rfl⟩
theorem pre_bn (c:UInt8) (t:Str):([92,10]:Str).isPrefixOf (c::t)=(c == 92 && t.head? == some 10):=by
 cases t with
 | nil=>simp [List.isPrefixOf]
 | cons d t=>
  simp only [List.isPrefixOf,List.head?_cons,Bool.and_true]
  by_cases h1:c=92
  ·subst h1
   by_cases h2:d=10
   ·subst h2;rfl
   ·have e1:((10:UInt8) == d)=false:=by simpa using fun h=>h2 h.symm
    have e2:(some d == some (10:UInt8))=false:=by simpa using h2
    rw [e1,e2]
  ·have e1:((92:UInt8) == c)=false:=by simpa using fun h=>h1 h.symm
   have e2:(c == 92)=false:=by simpa using h1
   rw [e1,e2]
   rfl
theorem contains_bn:∀ (s:Str),Lib.contains s [92,10]=hasBN s
 | []=>rfl
 | c::t=>by
  have ih:=contains_bn t
  unfold Lib.contains at *
  rw [hasBN,← ih,Lib.index]
  have hg:=Lib.index_ge t [92,10]
  have hp:=pre_bn c t
  rw [hp]
  by_cases h:(c == 92 && t.head? == some 10)=true
  ·rw [if_pos h,h];rfl
  ·rw [if_neg h]
   rw [Bool.not_eq_true] at h
   rw [h,Bool.false_or]
   by_cases h2:(Lib.index t [92,10] == -1)=true
   ·rw [if_pos h2]
    have h2:Lib.index t [92,10] = -1:=by simpa using h2
    rw [h2]
   ·rw [if_neg h2]
    have h2:Lib.index t [92,10]≠-1:=by simpa using h2
    rw [decide_eq_decide]
    omega
theorem contains_fn (s:Str) (hs:s.length≤1000000) (w:World) (hm:ML w) :
  Calls Tryz.prog 39 #[.string ⟨s.toArray⟩,.string ⟨#[92,10]⟩] w fun e w'=>e=.returned (.bool (hasBN s))∧w'=w:=by
 obtain ⟨m,hm⟩:=hm
 have h:=Tryz.strings_Contains ⟨s.toArray⟩ ⟨#[92,10]⟩ m w (by rw [Lib.size_mk];omega) hm
 rw [show (⟨s.toArray⟩:ByteArray).data.toList=s by simp,show (⟨#[92,10]⟩:ByteArray).data.toList=[92,10] from rfl,contains_bn] at h
 exact h
theorem bal_cons (d:Nat) (c:UInt8) (t:Str):bal d (c::t) =
  if c == 92 then (match t with | []=>false | _::t'=>bal d t')
  else if c == 123 then bal (d+1) t
  else if c == 125 then (match d with | 0=>false | d'+1=>bal d' t)
  else bal d t:=bal.eq_def ..
set_option maxRecDepth 100000 in
set_option maxHeartbeats 2000000 in
theorem balanced_fn (s:Str) (hs:s.length≤1000000) (w:World) (hm:ML w) :
  Calls Tryz.prog 184 #[.string ⟨s.toArray⟩] w fun e w'=>e=.returned (.bool (balanced s))∧w'=w:=by
 have hsz:(⟨s.toArray⟩:ByteArray).size=s.length:=Lib.size_mk _
 obtain ⟨H,hH⟩:∃ H,H=hasBN s:=⟨_,rfl⟩
 obtain ⟨B,hB⟩:∃ B,B=bal 0 s:=⟨_,rfl⟩
 obtain ⟨R,hR⟩:∃ R,R=balanced s:=⟨_,rfl⟩
 have hc:=contains_fn s hs w hm
 have hR2:R=(B && !H):=by rw [hR,hB,hH];rfl
 rw [← hH] at hc
 rw [← hR]
 have HC:=hid hc
 have HB:=hid hB
 have HR:=hid hR2
 clear hc hB hR2 hR hH hm
 go_enter Tryz.func184,Tryz.ntmps184
 go_wp2_with fail
 go_loopg [3,4] s.length (fun k dv iv wr=>∃ (i d:Nat) (rest:Str),dv=.int .i64 (d:Nat)∧iv=.int .i64 (i:Nat)∧At s rest i∧B=bal d rest∧wr=w∧k=rest.length∧d≤i)
 case atStart=>exact ⟨0,0,s,rfl,rfl,At.start s,HB.out,rfl,rfl,Nat.le_refl _⟩
 case round=>
  obtain ⟨i,d,rest,rfl,rfl,ha,hb,hw,rfl,hd⟩:=hrel
  subst hw
  have HB2:=hid hb
  clear hb HB
  have hle:i≤s.length:=by have:=ha.len;omega
  cases rest with
  | nil=>
   have hge:s.length≤i:=ha.nil_iff.1 rfl
   have HB3:B=(d == 0):=by rw [HB2.out];rfl
   have HB4:=hid HB3
   clear HB3 HB2
   by_cases h0:d=0
   ·subst h0
    go_wp2_with fail
    (with_reducible refine HC.out.mono ?_);rintro e w1 ⟨rfl,hw⟩;subst w1
    go_wp2
    go_ret
    exact ⟨by rw [HR.out,HB4.out];rfl,rfl⟩
   ·have hne:((d:Int) == 0)=false:=by rw [beq_eq_false_iff_ne];omega
    go_wp2
    go_ret
    refine ⟨?_,rfl⟩
    rw [HR.out,HB4.out,show (d == 0)=false by simpa using h0]
    rfl
  | cons c t=>
   have hlt:=ha.lt
   have hx:=ha.byte
   have hlen:=ha.len
   simp only [List.length_cons] at hlen
   by_cases h92:c=92
   ·subst h92
    cases t with
    | nil=>
     have he:((i:Int)+1 == (s.length:Int))=true:=by rw [beq_iff_eq];simp at hlen;omega
     go_wp2
     go_ret
     exact ⟨by rw [HR.out,HB2.out,bal_cons];rfl,rfl⟩
    | cons e t=>
     simp only [List.length_cons] at hlen
     have he:((i:Int)+1 == (s.length:Int))=false:=by rw [beq_eq_false_iff_ne];omega
     go_wp2
     go_roundg t.length
     case measure=>simp;omega
     case rel=>exact ⟨i+2,d,t,rfl,by rw [Value.int.injEq];exact ⟨rfl,by omega⟩,ha.tail.tail,by rw [HB2.out,bal_cons];rfl,rfl,rfl,by omega⟩
   ·have n92:=byte_ne 92 h92 rfl
    by_cases h123:c=123
    ·subst h123
     go_wp2
     go_roundg t.length
     case measure=>simp
     case rel=>exact ⟨i+1,d+1,t,by go_num,by go_num,ha.tail,by rw [HB2.out,bal_cons];rfl,rfl,rfl,by omega⟩
    ·have n123:=byte_ne 123 h123 rfl
     by_cases h125:c=125
     ·subst h125
      cases d with
      | zero=>
       go_wp2
       go_ret
       exact ⟨by rw [HR.out,HB2.out,bal_cons];rfl,rfl⟩
      | succ d=>
       have hnn:¬ (((d+1:Nat):Int)-1<0):=by omega
       go_wp2
       go_roundg t.length
       case measure=>simp
       case rel=>exact ⟨i+1,d,t,by rw [Value.int.injEq];exact ⟨rfl,by omega⟩,by go_num,ha.tail,by rw [HB2.out,bal_cons];rfl,rfl,rfl,by omega⟩
     ·have n125:=byte_ne 125 h125 rfl
      go_wp2
      go_roundg t.length
      case measure=>simp
      case rel=>exact ⟨i+1,d,t,rfl,by go_num,ha.tail,by rw [HB2.out,bal_cons,if_neg (by simpa using h92),if_neg (by simpa using h123),if_neg (by simpa using h125)],rfl,rfl,by omega⟩
end Go.Proofs.YtbilphfbfnohmaaGreatDoor.Pz
namespace Go.Proofs.YtbilphfbfnohmaaGreatDoor.Pz
open Go.RowKit
theorem slash_yes {c:UInt8} {b:Bool} (t:Str) (h:special c=true∨(b=true∧c=35)):slash b (c::t)=92::slash1 c::slash false t:=by
 rw [slash,if_pos]
 rcases h with h | ⟨h1,h2⟩
 ·rw [h];rfl
 ·rw [h1,h2];rfl
theorem slash_no {c:UInt8} {b:Bool} (t:Str) (h:special c=false) (h2:b=true→c≠35):slash b (c::t)=c::slash false t:=by
 rw [slash,if_neg]
 rw [h,Bool.false_or,Bool.and_eq_true,beq_iff_eq]
 exact fun ⟨h3,h4⟩=>h2 h3 h4
theorem slash1_same {c:UInt8} (h:14≤c.toNat):slash1 c=c:=by
 unfold slash1
 have hn:∀ k:UInt8,k.toNat<14→(c == k)=false:=by
  intro k hk
  rw [beq_eq_false_iff_ne]
  rintro rfl
  omega
 rw [if_neg (by rw [hn 9 (by decide)];simp),if_neg (by rw [hn 10 (by decide)];simp),if_neg (by rw [hn 11 (by decide)];simp),if_neg (by rw [hn 12 (by decide)];simp),if_neg (by rw [hn 13 (by decide)];simp)]
theorem special_split {c:UInt8} (h:special c=true):c=9∨c=10∨c=11∨c=12∨c=13∨14≤c.toNat:=by
 rcases slashy (.inl h) with rfl | rfl | rfl | rfl | rfl | rfl | rfl | rfl | rfl | rfl | rfl | rfl | rfl | rfl | rfl<;>simp
theorem slash_len:∀ (s:Str) (b:Bool),(slash b s).length≤2*s.length
 | [],_=>Nat.le_refl _
 | c::t,b=>by
  have:=slash_len t false
  rw [slash]
  split
  ·simp only [List.length_cons];omega
  ·simp only [List.length_cons];omega
theorem quote_len (s:Str):(quote s).length≤2*s.length+2:=by
 unfold quote
 split
 ·simp
 ·split
  ·omega
  ·split
   ·simp;omega
   ·have:=slash_len s true;omega
theorem cat3 (s:Str):(⟨#[123]⟩:ByteArray) ++ ⟨s.toArray⟩ ++ ⟨#[125]⟩=⟨(123::(s++[125])).toArray⟩:=by
 rw [ByteArray.ext_iff]
 simp [ByteArray.data_append]
set_option maxRecDepth 100000 in
set_option maxHeartbeats 20000000 in
theorem quote_plain_fn (c0:UInt8) (t0:Str) (hs:(c0::t0).length≤1000000) (hp:plainW (c0::t0)=true) (w:World) (hm:ML w) :
  Calls Tryz.prog 136 #[.string ⟨(c0::t0).toArray⟩] w fun e w'=>e=.returned (.string ⟨(c0::t0).toArray⟩)∧Below w.heap.size w w':=by
 have hsz:(⟨(c0::t0).toArray⟩:ByteArray).size=(c0::t0).length:=Lib.size_mk _
 have hx0:∀ h,(⟨(c0::t0).toArray⟩:ByteArray)[0]'h=c0:=fun h=>rfl
 have hemp:(c0::t0).isEmpty=false:=rfl
 have hpos:0<(c0::t0).length:=by simp
 have hb:=balanced_fn (c0::t0) hs w hm
 have hp2:plainW (c0::t0)=((c0 != 35) && (c0::t0).all fun c=>!special c):=rfl
 rw [hp] at hp2
 clear hp
 have hst:At (c0::t0) (c0::t0) 0:=At.start _
 generalize c0::t0=s at *
 have HB:=hid hb
 have HP:=hid hp2
 clear hb hp2
 have h35:(c0 != 35)=((c0.toNat:Int) != 35):=by
  by_cases h:c0=35
  ·subst h;rfl
  ·rw [byte_ne' 35 h rfl];simpa using h
 have HP2:=hid (show true=(((c0.toNat:Int) != 35) && s.all fun c=>!special c) by rw [HP.out,h35])
 replace HP:=HP2
 clear HP2 h35
 go_enter Tryz.func136,Tryz.ntmps136
 go_wp2_with fail
 go_loopg [3,4] s.length (fun k bv iv wr=>∃ (i:Nat) (b:Bool) (rest:Str),bv=.bool b∧iv=.int .i64 (i:Nat)∧At s rest i∧true=(b && rest.all fun c=>!special c)∧wr=w∧k=rest.length)
 case atStart=>exact ⟨0,((c0.toNat:Int) != 35),s,rfl,rfl,hst,HP.out,rfl,rfl⟩
 case round=>
  obtain ⟨i,b,rest,rfl,rfl,ha,hb,hw,rfl⟩:=hrel
  replace hw:=hw.symm
  subst hw
  have HB2:=hid hb
  clear hb HP
  have hle:i≤s.length:=by have:=ha.len;omega
  cases rest with
  | nil=>
   have hge:s.length≤i:=ha.nil_iff.1 rfl
   cases b with
   | true=>
    go_wp2
    go_ret
    exact ⟨rfl,Below.refl _ _⟩
   | false=>
    exact absurd HB2.out (by simp)
  | cons c t=>
   have hlt:=ha.lt
   have hx:=ha.byte
   have hlen:=ha.len
   cases b with
   | false=>
    exact absurd HB2.out (by simp)
   | true=>
    have hsp:=special_fn c w
    have hq:=HB2.out
    rw [List.all_cons,Bool.true_and] at hq
    obtain ⟨S,hS⟩:∃ S,S=special c:=⟨_,rfl⟩
    rw [← hS] at hsp hq
    have HS:=hid hsp
    have HQ:=hid hq
    clear hS hsp hq HB2
    go_wp2_with fail
    (with_reducible refine HS.out.mono ?_);rintro e w1 ⟨rfl,hw⟩;subst w1
    go_wp2
    go_roundg t.length
    case measure=>simp
    case rel=>exact ⟨i+1,!S,t,rfl,by go_num,ha.tail,HQ.out,rfl,rfl⟩
set_option maxRecDepth 100000 in
set_option maxHeartbeats 20000000 in
theorem quote_brace_fn (c0:UInt8) (t0:Str) (hs:(c0::t0).length≤1000000) (hp:plainW (c0::t0)=false) (hbal:balanced (c0::t0)=true) (w:World) (hm:ML w) :
  Calls Tryz.prog 136 #[.string ⟨(c0::t0).toArray⟩] w fun e w'=>e=.returned (.string ⟨(123::(c0::t0++[125])).toArray⟩)∧Below w.heap.size w w':=by
 have hsz:(⟨(c0::t0).toArray⟩:ByteArray).size=(c0::t0).length:=Lib.size_mk _
 have hx0:∀ h,(⟨(c0::t0).toArray⟩:ByteArray)[0]'h=c0:=fun h=>rfl
 have hemp:(c0::t0).isEmpty=false:=rfl
 have hpos:0<(c0::t0).length:=by simp
 have hb:=balanced_fn (c0::t0) hs w hm
 rw [hbal] at hb
 have hcat:(⟨#[123]⟩:ByteArray) ++ ⟨(c0::t0).toArray⟩ ++ ⟨#[125]⟩=⟨(123::(c0::t0++[125])).toArray⟩:=cat3 _
 have hp2:plainW (c0::t0)=((c0 != 35) && (c0::t0).all fun c=>!special c):=rfl
 rw [hp] at hp2
 clear hp
 have hst:At (c0::t0) (c0::t0) 0:=At.start _
 generalize c0::t0=s at *
 have HB:=hid hb
 have HP:=hid hp2
 have HJ:=hid hcat
 clear hcat
 clear hb hp2
 have h35:(c0 != 35)=((c0.toNat:Int) != 35):=by
  by_cases h:c0=35
  ·subst h;rfl
  ·rw [byte_ne' 35 h rfl];simpa using h
 have HP2:=hid (show false=(((c0.toNat:Int) != 35) && s.all fun c=>!special c) by rw [HP.out,h35])
 replace HP:=HP2
 clear HP2 h35
 go_enter Tryz.func136,Tryz.ntmps136
 go_wp2_with fail
 go_loopg [3,4] s.length (fun k bv iv wr=>∃ (i:Nat) (b:Bool) (rest:Str),bv=.bool b∧iv=.int .i64 (i:Nat)∧At s rest i∧false=(b && rest.all fun c=>!special c)∧wr=w∧k=rest.length)
 case atStart=>exact ⟨0,((c0.toNat:Int) != 35),s,rfl,rfl,hst,HP.out,rfl,rfl⟩
 case round=>
  obtain ⟨i,b,rest,rfl,rfl,ha,hb,hw,rfl⟩:=hrel
  replace hw:=hw.symm
  subst hw
  have HB2:=hid hb
  clear hb HP
  have hle:i≤s.length:=by have:=ha.len;omega
  cases rest with
  | nil=>
   have hge:s.length≤i:=ha.nil_iff.1 rfl
   cases b with
   | true=>
    exact absurd HB2.out (by simp)
   | false=>
    go_wp2_with fail
    (with_reducible refine HB.out.mono ?_);rintro e w1 ⟨rfl,hw⟩;subst w1
    go_wp2
    go_ret
    exact ⟨rfl,Below.refl _ _⟩
  | cons c t=>
   have hlt:=ha.lt
   have hx:=ha.byte
   have hlen:=ha.len
   cases b with
   | false=>
    go_wp2_with fail
    (with_reducible refine HB.out.mono ?_);rintro e w1 ⟨rfl,hw⟩;subst w1
    go_wp2
    go_ret
    exact ⟨rfl,Below.refl _ _⟩
   | true=>
    have hsp:=special_fn c w
    have hq:=HB2.out
    rw [List.all_cons,Bool.true_and] at hq
    obtain ⟨S,hS⟩:∃ S,S=special c:=⟨_,rfl⟩
    rw [← hS] at hsp hq
    have HS:=hid hsp
    have HQ:=hid hq
    clear hS hsp hq HB2
    go_wp2_with fail
    (with_reducible refine HS.out.mono ?_);rintro e w1 ⟨rfl,hw⟩;subst w1
    go_wp2
    go_roundg t.length
    case measure=>simp
    case rel=>exact ⟨i+1,!S,t,rfl,by go_num,ha.tail,HQ.out,rfl,rfl⟩
set_option maxRecDepth 100000 in
set_option maxHeartbeats 20000000 in
theorem quote_slash_fn (c0:UInt8) (t0:Str) (hs:(c0::t0).length≤1000000) (hp:plainW (c0::t0)=false) (hbal:balanced (c0::t0)=false) (w:World) (hm:ML w) :
  Calls Tryz.prog 136 #[.string ⟨(c0::t0).toArray⟩] w fun e w'=>e=.returned (.string ⟨(slash true (c0::t0)).toArray⟩)∧Below w.heap.size w w':=by
 have hsz:(⟨(c0::t0).toArray⟩:ByteArray).size=(c0::t0).length:=Lib.size_mk _
 have hx0:∀ h,(⟨(c0::t0).toArray⟩:ByteArray)[0]'h=c0:=fun h=>rfl
 have hemp:(c0::t0).isEmpty=false:=rfl
 have hpos:0<(c0::t0).length:=by simp
 have hb:=balanced_fn (c0::t0) hs w hm
 rw [hbal] at hb
 obtain ⟨J,hcat⟩:∃ J,J=slash true (c0::t0):=⟨_,rfl⟩
 rw [← hcat]
 have hp2:plainW (c0::t0)=((c0 != 35) && (c0::t0).all fun c=>!special c):=rfl
 rw [hp] at hp2
 clear hp
 have hst:At (c0::t0) (c0::t0) 0:=At.start _
 generalize c0::t0=s at *
 have HB:=hid hb
 have HP:=hid hp2
 have HJ:=hid hcat
 clear hcat
 clear hb hp2
 have h35:(c0 != 35)=((c0.toNat:Int) != 35):=by
  by_cases h:c0=35
  ·subst h;rfl
  ·rw [byte_ne' 35 h rfl];simpa using h
 have HP2:=hid (show false=(((c0.toNat:Int) != 35) && s.all fun c=>!special c) by rw [HP.out,h35])
 replace HP:=HP2
 clear HP2 h35
 go_enter Tryz.func136,Tryz.ntmps136
 go_wp2_with fail
 go_loopg [3,4] s.length (fun k bv iv wr=>∃ (i:Nat) (b:Bool) (rest:Str),bv=.bool b∧iv=.int .i64 (i:Nat)∧At s rest i∧false=(b && rest.all fun c=>!special c)∧wr=w∧k=rest.length)
 case atStart=>exact ⟨0,((c0.toNat:Int) != 35),s,rfl,rfl,hst,HP.out,rfl,rfl⟩
 case round=>
  obtain ⟨i,b,rest,rfl,rfl,ha,hb,hw,rfl⟩:=hrel
  replace hw:=hw.symm
  subst hw
  have HB2:=hid hb
  clear hb HP
  have hle:i≤s.length:=by have:=ha.len;omega
  cases rest with
  | nil=>
   have hge:s.length≤i:=ha.nil_iff.1 rfl
   cases b with
   | true=>
    exact absurd HB2.out (by simp)
   | false=>
    go_wp2_with fail
    (with_reducible refine HB.out.mono ?_);rintro e w1 ⟨rfl,hw⟩;subst w1
    have hB0:=Bld.new w
    have hW0:Below w.heap.size w (w.alloc (.cells #[.pointer none,.slice none 0 0] 73)):=(Below.refl _ _).alloc (Nat.le_refl _) _
    clear ha hx0
    go_wp2_with fail
    generalize w.alloc (.cells #[.pointer none,.slice none 0 0] 73)=w0 at *
    go_loopg [38] s.length (fun k jv wr=>∃ (j:Nat) (done rest:Str),jv=.int .i64 (j:Nat)∧At s rest j∧Bld wr w.heap.size done∧J=done++slash (j == 0) rest∧Below w.heap.size w wr∧k=rest.length∧done.length+2*rest.length≤2*s.length)
    case atStart=>exact ⟨0,[],s,rfl,hst,hB0,by rw [HJ.out];rfl,hW0,rfl,by simp⟩
    case round=>
     obtain ⟨j,done,rest,rfl,ha,hB,hj,hbl,rfl,hl⟩:=hrel
     have HD:=hid hj
     clear hj hB0 hW0 w0
     have hle:j≤s.length:=by have:=ha.len;omega
     have hbs:=hB.lt
     have wb92:∀ (u:World) (l:Str),Bld u w.heap.size l→l.length≤1000000000→Calls Tryz.prog 49 #[.pointer (some ⟨w.heap.size,0,none⟩),.int .u8 92] u fun e w'=>e=.returned .nilIface∧Bld w' w.heap.size (l++[92])∧Kept w.heap.size u w':=fun u l h hl=>wbyte_fn h 92 hl
     cases rest with
     | nil=>
      have hge:s.length≤j:=ha.nil_iff.1 rfl
      have hc:=hid (str_fn hB)
      go_wp2_with fail
      (with_reducible refine hc.out.mono ?_);rintro e w1 ⟨rfl,hB1,hk1⟩
      go_wp2
      go_ret
      exact ⟨by rw [HD.out];simp [slash],hbl.trans hk1.1⟩
     | cons c t=>
      have hlt:=ha.lt
      have hx:=ha.byte
      have hlen:=ha.len
      simp only [List.length_cons] at hl hlen
      have hsp:=special_fn c wr
      obtain ⟨S,hS⟩:∃ S,special c=S:=⟨_,rfl⟩
      rw [hS] at hsp
      have HQ:=hid hS
      have HS:=hid hsp
      clear hS hsp
      cases S with
      | true=>
       rcases special_split HQ.out with rfl | rfl | rfl | rfl | rfl | h14
       ·replace HS:=hid (show Calls Tryz.prog 183 #[.int .u8 9] wr _ from HS.out)
        have hk:∀ h,(⟨#[116,110,118,102,114]⟩:ByteArray)[0]'h=116:=fun _=>rfl
        go_wp2_with fail
        (with_reducible refine HS.out.mono ?_);rintro e w1 ⟨rfl,hw⟩;subst w1
        have hc1:=wb92 wr done hB (by omega)
        have HC1:=hid hc1
        clear hc1
        go_wp2_with fail
        (with_reducible refine HC1.out.mono ?_);rintro e w1 ⟨rfl,hB1,hk1⟩
        have hc2:Calls Tryz.prog 49 #[.pointer (some ⟨w.heap.size,0,none⟩),.int .u8 116] w1 fun e w'=>e=.returned .nilIface∧Bld w' w.heap.size (done++[92]++[116])∧Kept w.heap.size w1 w':=wbyte_fn hB1 116 (by simp;omega)
        have HC2:=hid hc2
        clear hc2
        go_wp2_with fail
        (with_reducible refine HC2.out.mono ?_);rintro e w2 ⟨rfl,hB2,hk2⟩
        go_wp2
        go_roundg t.length
        case measure=>simp
        case rel=>exact ⟨j+1,done++[92]++[116],t,by go_num,ha.tail,hB2,by rw [HD.out,slash_yes t (.inl HQ.out)];simp [slash1],hbl.trans (hk1.trans hk2).1,rfl,by simp;omega⟩
       ·replace HS:=hid (show Calls Tryz.prog 183 #[.int .u8 10] wr _ from HS.out)
        have hk:∀ h,(⟨#[116,110,118,102,114]⟩:ByteArray)[1]'h=110:=fun _=>rfl
        go_wp2_with fail
        (with_reducible refine HS.out.mono ?_);rintro e w1 ⟨rfl,hw⟩;subst w1
        have hc1:=wb92 wr done hB (by omega)
        have HC1:=hid hc1
        clear hc1
        go_wp2_with fail
        (with_reducible refine HC1.out.mono ?_);rintro e w1 ⟨rfl,hB1,hk1⟩
        have hc2:Calls Tryz.prog 49 #[.pointer (some ⟨w.heap.size,0,none⟩),.int .u8 110] w1 fun e w'=>e=.returned .nilIface∧Bld w' w.heap.size (done++[92]++[110])∧Kept w.heap.size w1 w':=wbyte_fn hB1 110 (by simp;omega)
        have HC2:=hid hc2
        clear hc2
        go_wp2_with fail
        (with_reducible refine HC2.out.mono ?_);rintro e w2 ⟨rfl,hB2,hk2⟩
        go_wp2
        go_roundg t.length
        case measure=>simp
        case rel=>exact ⟨j+1,done++[92]++[110],t,by go_num,ha.tail,hB2,by rw [HD.out,slash_yes t (.inl HQ.out)];simp [slash1],hbl.trans (hk1.trans hk2).1,rfl,by simp;omega⟩
       ·replace HS:=hid (show Calls Tryz.prog 183 #[.int .u8 11] wr _ from HS.out)
        have hk:∀ h,(⟨#[116,110,118,102,114]⟩:ByteArray)[2]'h=118:=fun _=>rfl
        go_wp2_with fail
        (with_reducible refine HS.out.mono ?_);rintro e w1 ⟨rfl,hw⟩;subst w1
        have hc1:=wb92 wr done hB (by omega)
        have HC1:=hid hc1
        clear hc1
        go_wp2_with fail
        (with_reducible refine HC1.out.mono ?_);rintro e w1 ⟨rfl,hB1,hk1⟩
        have hc2:Calls Tryz.prog 49 #[.pointer (some ⟨w.heap.size,0,none⟩),.int .u8 118] w1 fun e w'=>e=.returned .nilIface∧Bld w' w.heap.size (done++[92]++[118])∧Kept w.heap.size w1 w':=wbyte_fn hB1 118 (by simp;omega)
        have HC2:=hid hc2
        clear hc2
        go_wp2_with fail
        (with_reducible refine HC2.out.mono ?_);rintro e w2 ⟨rfl,hB2,hk2⟩
        go_wp2
        go_roundg t.length
        case measure=>simp
        case rel=>exact ⟨j+1,done++[92]++[118],t,by go_num,ha.tail,hB2,by rw [HD.out,slash_yes t (.inl HQ.out)];simp [slash1],hbl.trans (hk1.trans hk2).1,rfl,by simp;omega⟩
       ·replace HS:=hid (show Calls Tryz.prog 183 #[.int .u8 12] wr _ from HS.out)
        have hk:∀ h,(⟨#[116,110,118,102,114]⟩:ByteArray)[3]'h=102:=fun _=>rfl
        go_wp2_with fail
        (with_reducible refine HS.out.mono ?_);rintro e w1 ⟨rfl,hw⟩;subst w1
        have hc1:=wb92 wr done hB (by omega)
        have HC1:=hid hc1
        clear hc1
        go_wp2_with fail
        (with_reducible refine HC1.out.mono ?_);rintro e w1 ⟨rfl,hB1,hk1⟩
        have hc2:Calls Tryz.prog 49 #[.pointer (some ⟨w.heap.size,0,none⟩),.int .u8 102] w1 fun e w'=>e=.returned .nilIface∧Bld w' w.heap.size (done++[92]++[102])∧Kept w.heap.size w1 w':=wbyte_fn hB1 102 (by simp;omega)
        have HC2:=hid hc2
        clear hc2
        go_wp2_with fail
        (with_reducible refine HC2.out.mono ?_);rintro e w2 ⟨rfl,hB2,hk2⟩
        go_wp2
        go_roundg t.length
        case measure=>simp
        case rel=>exact ⟨j+1,done++[92]++[102],t,by go_num,ha.tail,hB2,by rw [HD.out,slash_yes t (.inl HQ.out)];simp [slash1],hbl.trans (hk1.trans hk2).1,rfl,by simp;omega⟩
       ·replace HS:=hid (show Calls Tryz.prog 183 #[.int .u8 13] wr _ from HS.out)
        have hk:∀ h,(⟨#[116,110,118,102,114]⟩:ByteArray)[4]'h=114:=fun _=>rfl
        go_wp2_with fail
        (with_reducible refine HS.out.mono ?_);rintro e w1 ⟨rfl,hw⟩;subst w1
        have hc1:=wb92 wr done hB (by omega)
        have HC1:=hid hc1
        clear hc1
        go_wp2_with fail
        (with_reducible refine HC1.out.mono ?_);rintro e w1 ⟨rfl,hB1,hk1⟩
        have hc2:Calls Tryz.prog 49 #[.pointer (some ⟨w.heap.size,0,none⟩),.int .u8 114] w1 fun e w'=>e=.returned .nilIface∧Bld w' w.heap.size (done++[92]++[114])∧Kept w.heap.size w1 w':=wbyte_fn hB1 114 (by simp;omega)
        have HC2:=hid hc2
        clear hc2
        go_wp2_with fail
        (with_reducible refine HC2.out.mono ?_);rintro e w2 ⟨rfl,hB2,hk2⟩
        go_wp2
        go_roundg t.length
        case measure=>simp
        case rel=>exact ⟨j+1,done++[92]++[114],t,by go_num,ha.tail,hB2,by rw [HD.out,slash_yes t (.inl HQ.out)];simp [slash1],hbl.trans (hk1.trans hk2).1,rfl,by simp;omega⟩
       ·have hr:slash1 c=c:=slash1_same h14
        have h9:(9:Int)≤(c.toNat:Int):=by omega
        have h13:¬ ((c.toNat:Int)≤13):=by omega
        go_wp2_with fail
        (with_reducible refine HS.out.mono ?_);rintro e w1 ⟨rfl,hw⟩;subst w1
        have hc1:=wb92 wr done hB (by omega)
        have HC1:=hid hc1
        clear hc1
        go_wp2_with fail
        (with_reducible refine HC1.out.mono ?_);rintro e w1 ⟨rfl,hB1,hk1⟩
        have hc2:Calls Tryz.prog 49 #[.pointer (some ⟨w.heap.size,0,none⟩),.int .u8 c.toNat] w1 fun e w'=>e=.returned .nilIface∧Bld w' w.heap.size (done++[92]++[c])∧Kept w.heap.size w1 w':=wbyte_fn hB1 c (by simp;omega)
        have HC2:=hid hc2
        clear hc2
        go_wp2_with fail
        (with_reducible refine HC2.out.mono ?_);rintro e w2 ⟨rfl,hB2,hk2⟩
        go_wp2
        go_roundg t.length
        case measure=>simp
        case rel=>exact ⟨j+1,done++[92]++[c],t,by go_num,ha.tail,hB2,by rw [HD.out,slash_yes t (.inl HQ.out)];simp [hr],hbl.trans (hk1.trans hk2).1,rfl,by simp;omega⟩
      | false=>
       by_cases h0:j=0
       ·subst h0
        by_cases h35:c=35
        ·subst h35
         replace HS:=hid (show Calls Tryz.prog 183 #[.int .u8 35] wr _ from HS.out)
         go_wp2_with fail
         (with_reducible refine HS.out.mono ?_);rintro e w1 ⟨rfl,hw⟩;subst w1
         have hc1:=wb92 wr done hB (by omega)
         have HC1:=hid hc1
         clear hc1
         go_wp2_with fail
         (with_reducible refine HC1.out.mono ?_);rintro e w1 ⟨rfl,hB1,hk1⟩
         have hc2:Calls Tryz.prog 49 #[.pointer (some ⟨w.heap.size,0,none⟩),.int .u8 35] w1 fun e w'=>e=.returned .nilIface∧Bld w' w.heap.size (done++[92]++[35])∧Kept w.heap.size w1 w':=wbyte_fn hB1 35 (by simp;omega)
         have HC2:=hid hc2
         clear hc2
         go_wp2_with fail
         (with_reducible refine HC2.out.mono ?_);rintro e w2 ⟨rfl,hB2,hk2⟩
         go_wp2
         go_roundg t.length
         case measure=>simp
         case rel=>exact ⟨0+1,done++[92]++[35],t,by go_num,ha.tail,hB2,by rw [HD.out,slash_yes (b:=((0:Nat) == 0)) t (.inr ⟨rfl,rfl⟩)];simp [slash1],hbl.trans (hk1.trans hk2).1,rfl,by simp;omega⟩
        ·have n35:=byte_ne 35 h35 rfl
         go_wp2_with fail
         (with_reducible refine HS.out.mono ?_);rintro e w1 ⟨rfl,hw⟩;subst w1
         have hc2:=hid (wbyte_fn hB c (by omega))
         go_wp2_with fail
         (with_reducible refine hc2.out.mono ?_);rintro e w2 ⟨rfl,hB2,hk2⟩
         go_wp2
         go_roundg t.length
         case measure=>simp
         case rel=>exact ⟨0+1,done++[c],t,by go_num,ha.tail,hB2,by rw [HD.out,slash_no t HQ.out (fun _=>h35)];simp,hbl.trans hk2.1,rfl,by simp;omega⟩
       ·have hj0:((j:Int) == 0)=false:=by rw [beq_eq_false_iff_ne];omega
        go_wp2_with fail
        (with_reducible refine HS.out.mono ?_);rintro e w1 ⟨rfl,hw⟩;subst w1
        have hc2:=hid (wbyte_fn hB c (by omega))
        go_wp2_with fail
        (with_reducible refine hc2.out.mono ?_);rintro e w2 ⟨rfl,hB2,hk2⟩
        go_wp2
        go_roundg t.length
        case measure=>simp
        case rel=>exact ⟨j+1,done++[c],t,by go_num,ha.tail,hB2,by rw [HD.out,slash_no t HQ.out (fun h=>absurd (by simpa using h) h0)];simp,hbl.trans hk2.1,rfl,by simp;omega⟩
  | cons c t=>
   have hlt:=ha.lt
   have hx:=ha.byte
   have hlen:=ha.len
   cases b with
   | false=>
    go_wp2_with fail
    (with_reducible refine HB.out.mono ?_);rintro e w1 ⟨rfl,hw⟩;subst w1
    have hB0:=Bld.new w
    have hW0:Below w.heap.size w (w.alloc (.cells #[.pointer none,.slice none 0 0] 73)):=(Below.refl _ _).alloc (Nat.le_refl _) _
    clear ha hx0
    go_wp2_with fail
    generalize w.alloc (.cells #[.pointer none,.slice none 0 0] 73)=w0 at *
    go_loopg [38] s.length (fun k jv wr=>∃ (j:Nat) (done rest:Str),jv=.int .i64 (j:Nat)∧At s rest j∧Bld wr w.heap.size done∧J=done++slash (j == 0) rest∧Below w.heap.size w wr∧k=rest.length∧done.length+2*rest.length≤2*s.length)
    case atStart=>exact ⟨0,[],s,rfl,hst,hB0,by rw [HJ.out];rfl,hW0,rfl,by simp⟩
    case round=>
     obtain ⟨j,done,rest,rfl,ha,hB,hj,hbl,rfl,hl⟩:=hrel
     have HD:=hid hj
     clear hj hB0 hW0 w0
     have hle:j≤s.length:=by have:=ha.len;omega
     have hbs:=hB.lt
     have wb92:∀ (u:World) (l:Str),Bld u w.heap.size l→l.length≤1000000000→Calls Tryz.prog 49 #[.pointer (some ⟨w.heap.size,0,none⟩),.int .u8 92] u fun e w'=>e=.returned .nilIface∧Bld w' w.heap.size (l++[92])∧Kept w.heap.size u w':=fun u l h hl=>wbyte_fn h 92 hl
     cases rest with
     | nil=>
      have hge:s.length≤j:=ha.nil_iff.1 rfl
      have hc:=hid (str_fn hB)
      go_wp2_with fail
      (with_reducible refine hc.out.mono ?_);rintro e w1 ⟨rfl,hB1,hk1⟩
      go_wp2
      go_ret
      exact ⟨by rw [HD.out];simp [slash],hbl.trans hk1.1⟩
     | cons c t=>
      have hlt:=ha.lt
      have hx:=ha.byte
      have hlen:=ha.len
      simp only [List.length_cons] at hl hlen
      have hsp:=special_fn c wr
      obtain ⟨S,hS⟩:∃ S,special c=S:=⟨_,rfl⟩
      rw [hS] at hsp
      have HQ:=hid hS
      have HS:=hid hsp
      clear hS hsp
      cases S with
      | true=>
       rcases special_split HQ.out with rfl | rfl | rfl | rfl | rfl | h14
       ·replace HS:=hid (show Calls Tryz.prog 183 #[.int .u8 9] wr _ from HS.out)
        have hk:∀ h,(⟨#[116,110,118,102,114]⟩:ByteArray)[0]'h=116:=fun _=>rfl
        go_wp2_with fail
        (with_reducible refine HS.out.mono ?_);rintro e w1 ⟨rfl,hw⟩;subst w1
        have hc1:=wb92 wr done hB (by omega)
        have HC1:=hid hc1
        clear hc1
        go_wp2_with fail
        (with_reducible refine HC1.out.mono ?_);rintro e w1 ⟨rfl,hB1,hk1⟩
        have hc2:Calls Tryz.prog 49 #[.pointer (some ⟨w.heap.size,0,none⟩),.int .u8 116] w1 fun e w'=>e=.returned .nilIface∧Bld w' w.heap.size (done++[92]++[116])∧Kept w.heap.size w1 w':=wbyte_fn hB1 116 (by simp;omega)
        have HC2:=hid hc2
        clear hc2
        go_wp2_with fail
        (with_reducible refine HC2.out.mono ?_);rintro e w2 ⟨rfl,hB2,hk2⟩
        go_wp2
        go_roundg t.length
        case measure=>simp
        case rel=>exact ⟨j+1,done++[92]++[116],t,by go_num,ha.tail,hB2,by rw [HD.out,slash_yes t (.inl HQ.out)];simp [slash1],hbl.trans (hk1.trans hk2).1,rfl,by simp;omega⟩
       ·replace HS:=hid (show Calls Tryz.prog 183 #[.int .u8 10] wr _ from HS.out)
        have hk:∀ h,(⟨#[116,110,118,102,114]⟩:ByteArray)[1]'h=110:=fun _=>rfl
        go_wp2_with fail
        (with_reducible refine HS.out.mono ?_);rintro e w1 ⟨rfl,hw⟩;subst w1
        have hc1:=wb92 wr done hB (by omega)
        have HC1:=hid hc1
        clear hc1
        go_wp2_with fail
        (with_reducible refine HC1.out.mono ?_);rintro e w1 ⟨rfl,hB1,hk1⟩
        have hc2:Calls Tryz.prog 49 #[.pointer (some ⟨w.heap.size,0,none⟩),.int .u8 110] w1 fun e w'=>e=.returned .nilIface∧Bld w' w.heap.size (done++[92]++[110])∧Kept w.heap.size w1 w':=wbyte_fn hB1 110 (by simp;omega)
        have HC2:=hid hc2
        clear hc2
        go_wp2_with fail
        (with_reducible refine HC2.out.mono ?_);rintro e w2 ⟨rfl,hB2,hk2⟩
        go_wp2
        go_roundg t.length
        case measure=>simp
        case rel=>exact ⟨j+1,done++[92]++[110],t,by go_num,ha.tail,hB2,by rw [HD.out,slash_yes t (.inl HQ.out)];simp [slash1],hbl.trans (hk1.trans hk2).1,rfl,by simp;omega⟩
       ·replace HS:=hid (show Calls Tryz.prog 183 #[.int .u8 11] wr _ from HS.out)
        have hk:∀ h,(⟨#[116,110,118,102,114]⟩:ByteArray)[2]'h=118:=fun _=>rfl
        go_wp2_with fail
        (with_reducible refine HS.out.mono ?_);rintro e w1 ⟨rfl,hw⟩;subst w1
        have hc1:=wb92 wr done hB (by omega)
        have HC1:=hid hc1
        clear hc1
        go_wp2_with fail
        (with_reducible refine HC1.out.mono ?_);rintro e w1 ⟨rfl,hB1,hk1⟩
        have hc2:Calls Tryz.prog 49 #[.pointer (some ⟨w.heap.size,0,none⟩),.int .u8 118] w1 fun e w'=>e=.returned .nilIface∧Bld w' w.heap.size (done++[92]++[118])∧Kept w.heap.size w1 w':=wbyte_fn hB1 118 (by simp;omega)
        have HC2:=hid hc2
        clear hc2
        go_wp2_with fail
        (with_reducible refine HC2.out.mono ?_);rintro e w2 ⟨rfl,hB2,hk2⟩
        go_wp2
        go_roundg t.length
        case measure=>simp
        case rel=>exact ⟨j+1,done++[92]++[118],t,by go_num,ha.tail,hB2,by rw [HD.out,slash_yes t (.inl HQ.out)];simp [slash1],hbl.trans (hk1.trans hk2).1,rfl,by simp;omega⟩
       ·replace HS:=hid (show Calls Tryz.prog 183 #[.int .u8 12] wr _ from HS.out)
        have hk:∀ h,(⟨#[116,110,118,102,114]⟩:ByteArray)[3]'h=102:=fun _=>rfl
        go_wp2_with fail
        (with_reducible refine HS.out.mono ?_);rintro e w1 ⟨rfl,hw⟩;subst w1
        have hc1:=wb92 wr done hB (by omega)
        have HC1:=hid hc1
        clear hc1
        go_wp2_with fail
        (with_reducible refine HC1.out.mono ?_);rintro e w1 ⟨rfl,hB1,hk1⟩
        have hc2:Calls Tryz.prog 49 #[.pointer (some ⟨w.heap.size,0,none⟩),.int .u8 102] w1 fun e w'=>e=.returned .nilIface∧Bld w' w.heap.size (done++[92]++[102])∧Kept w.heap.size w1 w':=wbyte_fn hB1 102 (by simp;omega)
        have HC2:=hid hc2
        clear hc2
        go_wp2_with fail
        (with_reducible refine HC2.out.mono ?_);rintro e w2 ⟨rfl,hB2,hk2⟩
        go_wp2
        go_roundg t.length
        case measure=>simp
        case rel=>exact ⟨j+1,done++[92]++[102],t,by go_num,ha.tail,hB2,by rw [HD.out,slash_yes t (.inl HQ.out)];simp [slash1],hbl.trans (hk1.trans hk2).1,rfl,by simp;omega⟩
       ·replace HS:=hid (show Calls Tryz.prog 183 #[.int .u8 13] wr _ from HS.out)
        have hk:∀ h,(⟨#[116,110,118,102,114]⟩:ByteArray)[4]'h=114:=fun _=>rfl
        go_wp2_with fail
        (with_reducible refine HS.out.mono ?_);rintro e w1 ⟨rfl,hw⟩;subst w1
        have hc1:=wb92 wr done hB (by omega)
        have HC1:=hid hc1
        clear hc1
        go_wp2_with fail
        (with_reducible refine HC1.out.mono ?_);rintro e w1 ⟨rfl,hB1,hk1⟩
        have hc2:Calls Tryz.prog 49 #[.pointer (some ⟨w.heap.size,0,none⟩),.int .u8 114] w1 fun e w'=>e=.returned .nilIface∧Bld w' w.heap.size (done++[92]++[114])∧Kept w.heap.size w1 w':=wbyte_fn hB1 114 (by simp;omega)
        have HC2:=hid hc2
        clear hc2
        go_wp2_with fail
        (with_reducible refine HC2.out.mono ?_);rintro e w2 ⟨rfl,hB2,hk2⟩
        go_wp2
        go_roundg t.length
        case measure=>simp
        case rel=>exact ⟨j+1,done++[92]++[114],t,by go_num,ha.tail,hB2,by rw [HD.out,slash_yes t (.inl HQ.out)];simp [slash1],hbl.trans (hk1.trans hk2).1,rfl,by simp;omega⟩
       ·have hr:slash1 c=c:=slash1_same h14
        have h9:(9:Int)≤(c.toNat:Int):=by omega
        have h13:¬ ((c.toNat:Int)≤13):=by omega
        go_wp2_with fail
        (with_reducible refine HS.out.mono ?_);rintro e w1 ⟨rfl,hw⟩;subst w1
        have hc1:=wb92 wr done hB (by omega)
        have HC1:=hid hc1
        clear hc1
        go_wp2_with fail
        (with_reducible refine HC1.out.mono ?_);rintro e w1 ⟨rfl,hB1,hk1⟩
        have hc2:Calls Tryz.prog 49 #[.pointer (some ⟨w.heap.size,0,none⟩),.int .u8 c.toNat] w1 fun e w'=>e=.returned .nilIface∧Bld w' w.heap.size (done++[92]++[c])∧Kept w.heap.size w1 w':=wbyte_fn hB1 c (by simp;omega)
        have HC2:=hid hc2
        clear hc2
        go_wp2_with fail
        (with_reducible refine HC2.out.mono ?_);rintro e w2 ⟨rfl,hB2,hk2⟩
        go_wp2
        go_roundg t.length
        case measure=>simp
        case rel=>exact ⟨j+1,done++[92]++[c],t,by go_num,ha.tail,hB2,by rw [HD.out,slash_yes t (.inl HQ.out)];simp [hr],hbl.trans (hk1.trans hk2).1,rfl,by simp;omega⟩
      | false=>
       by_cases h0:j=0
       ·subst h0
        by_cases h35:c=35
        ·subst h35
         replace HS:=hid (show Calls Tryz.prog 183 #[.int .u8 35] wr _ from HS.out)
         go_wp2_with fail
         (with_reducible refine HS.out.mono ?_);rintro e w1 ⟨rfl,hw⟩;subst w1
         have hc1:=wb92 wr done hB (by omega)
         have HC1:=hid hc1
         clear hc1
         go_wp2_with fail
         (with_reducible refine HC1.out.mono ?_);rintro e w1 ⟨rfl,hB1,hk1⟩
         have hc2:Calls Tryz.prog 49 #[.pointer (some ⟨w.heap.size,0,none⟩),.int .u8 35] w1 fun e w'=>e=.returned .nilIface∧Bld w' w.heap.size (done++[92]++[35])∧Kept w.heap.size w1 w':=wbyte_fn hB1 35 (by simp;omega)
         have HC2:=hid hc2
         clear hc2
         go_wp2_with fail
         (with_reducible refine HC2.out.mono ?_);rintro e w2 ⟨rfl,hB2,hk2⟩
         go_wp2
         go_roundg t.length
         case measure=>simp
         case rel=>exact ⟨0+1,done++[92]++[35],t,by go_num,ha.tail,hB2,by rw [HD.out,slash_yes (b:=((0:Nat) == 0)) t (.inr ⟨rfl,rfl⟩)];simp [slash1],hbl.trans (hk1.trans hk2).1,rfl,by simp;omega⟩
        ·have n35:=byte_ne 35 h35 rfl
         go_wp2_with fail
         (with_reducible refine HS.out.mono ?_);rintro e w1 ⟨rfl,hw⟩;subst w1
         have hc2:=hid (wbyte_fn hB c (by omega))
         go_wp2_with fail
         (with_reducible refine hc2.out.mono ?_);rintro e w2 ⟨rfl,hB2,hk2⟩
         go_wp2
         go_roundg t.length
         case measure=>simp
         case rel=>exact ⟨0+1,done++[c],t,by go_num,ha.tail,hB2,by rw [HD.out,slash_no t HQ.out (fun _=>h35)];simp,hbl.trans hk2.1,rfl,by simp;omega⟩
       ·have hj0:((j:Int) == 0)=false:=by rw [beq_eq_false_iff_ne];omega
        go_wp2_with fail
        (with_reducible refine HS.out.mono ?_);rintro e w1 ⟨rfl,hw⟩;subst w1
        have hc2:=hid (wbyte_fn hB c (by omega))
        go_wp2_with fail
        (with_reducible refine hc2.out.mono ?_);rintro e w2 ⟨rfl,hB2,hk2⟩
        go_wp2
        go_roundg t.length
        case measure=>simp
        case rel=>exact ⟨j+1,done++[c],t,by go_num,ha.tail,hB2,by rw [HD.out,slash_no t HQ.out (fun h=>absurd (by simpa using h) h0)];simp,hbl.trans hk2.1,rfl,by simp;omega⟩
   | true=>
    have hsp:=special_fn c w
    have hq:=HB2.out
    rw [List.all_cons,Bool.true_and] at hq
    obtain ⟨S,hS⟩:∃ S,S=special c:=⟨_,rfl⟩
    rw [← hS] at hsp hq
    have HS:=hid hsp
    have HQ:=hid hq
    clear hS hsp hq HB2
    go_wp2_with fail
    (with_reducible refine HS.out.mono ?_);rintro e w1 ⟨rfl,hw⟩;subst w1
    go_wp2
    go_roundg t.length
    case measure=>simp
    case rel=>exact ⟨i+1,!S,t,rfl,by go_num,ha.tail,HQ.out,rfl,rfl⟩
theorem quote_fn (s:Str) (hs:s.length≤1000000) (w:World) (hm:ML w) :
  Calls Tryz.prog 136 #[.string ⟨s.toArray⟩] w fun e w'=>e=.returned (.string ⟨(quote s).toArray⟩)∧Below w.heap.size w w':=by
 cases s with
 | nil=>
  go_enter Tryz.func136,Tryz.ntmps136
  go_wp2
  go_ret
  exact ⟨rfl,Below.refl _ _⟩
 | cons c0 t0=>
  unfold quote
  rw [if_neg (by simp)]
  by_cases h1:plainW (c0::t0)=true
  ·rw [if_pos h1]
   exact quote_plain_fn c0 t0 hs h1 w hm
  ·rw [if_neg h1]
   by_cases h2:balanced (c0::t0)=true
   ·rw [if_pos h2]
    exact quote_brace_fn c0 t0 hs (by simpa using h1) h2 w hm
   ·rw [if_neg h2]
    exact quote_slash_fn c0 t0 hs (by simpa using h1) (by simpa using h2) w hm
end Go.Proofs.YtbilphfbfnohmaaGreatDoor.Pz
namespace Go.Proofs.YtbilphfbfnohmaaGreatDoor.Pz
open Go.RowKit
def writeE (fl:Str) (wd pr:Int) (c:UInt8) (arg:Str):Str×Int:=
 if c=115 then (spreadE fl wd arg 0 false,0) else if c=113 then (spreadE fl wd (quote arg) 0 false,0) else numberE fl wd pr c arg
section
variable {A wd pr:Int} {tx fl:Str} {c:UInt8}
theorem spread0_fn (s:Str) (hs:s.length≤1000000) (h1:-1≤wd) (h2:wd≤1000) (w:World) :
  Calls Tryz.prog 109 #[.agg #[.int .i64 A,.string ⟨tx.toArray⟩,.int .i64 0,.string ⟨fl.toArray⟩,.int .i64 wd,.int .i64 pr,.bool false,.bool false,.int .u8 (c.toNat:Nat),.bool false,.string ⟨#[]⟩],.string ⟨s.toArray⟩,.int .i64 0,.bool false] w fun e w'=>e=.returned (.string ⟨(spreadE fl wd s 0 false).toArray⟩)∧Below w.heap.size w w':=
 spread_fn s hs 0 (Nat.zero_le _) false h1 h2 w
set_option maxRecDepth 1000000 in
theorem texted_s (arg:Str) (ha:arg.length≤100000) (hp:pr<0) (hw1:-1≤wd) (hw2:wd≤1000) (hc:c≠113) (w:World) :
  Calls Tryz.prog 84 #[.agg #[.int .i64 A,.string ⟨tx.toArray⟩,.int .i64 0,.string ⟨fl.toArray⟩,.int .i64 wd,.int .i64 pr,.bool false,.bool false,.int .u8 (c.toNat:Nat),.bool false,.string ⟨#[]⟩],.string ⟨arg.toArray⟩] w fun e w'=>e=.returned (.tuple #[.string ⟨(spreadE fl wd arg 0 false).toArray⟩,.int .i64 0])∧Below w.heap.size w w':=by
 have hI:=CvIn.new w #[.int .i64 A,.string ⟨tx.toArray⟩,.int .i64 0,.string ⟨fl.toArray⟩,.int .i64 wd,.int .i64 pr,.bool false,.bool false,.int .u8 (c.toNat:Nat),.bool false,.string ⟨#[]⟩]
 obtain ⟨w0,hw0⟩:∃ w0,w0=w.alloc (.cells #[.int .i64 A,.string ⟨tx.toArray⟩,.int .i64 0,.string ⟨fl.toArray⟩,.int .i64 wd,.int .i64 pr,.bool false,.bool false,.int .u8 (c.toNat:Nat),.bool false,.string ⟨#[]⟩] 78):=⟨_,rfl⟩
 rw [← hw0] at hI
 have n113:=byte_ne 113 hc rfl
 have HSP:=hid (fun w=>spread0_fn (A:=A) (wd:=wd) (pr:=pr) (tx:=tx) (fl:=fl) (c:=c) arg (by omega) hw1 hw2 w)
 have HI:=hid hI
 have HW0:=hid hw0
 have hpn:¬ (0≤pr):=by omega
 clear hI hw0 hc
 have q0:=HI.out.cv.cell 0 (v:=.int .i64 A) rfl
 have q1:=HI.out.cv.cell 1 (v:=.string ⟨tx.toArray⟩) rfl
 have q2:=HI.out.cv.cell 2 (v:=.int .i64 0) rfl
 have q3:=HI.out.cv.cell 3 (v:=.string ⟨fl.toArray⟩) rfl
 have q4:=HI.out.cv.cell 4 (v:=.int .i64 wd) rfl
 have q5:=HI.out.cv.cell 5 (v:=.int .i64 pr) rfl
 have q6:=HI.out.cv.cell 6 (v:=.bool false) rfl
 have q7:=HI.out.cv.cell 7 (v:=.bool false) rfl
 have q8:=HI.out.cv.cell 8 (v:=.int .u8 (c.toNat:Nat)) rfl
 have q9:=HI.out.cv.cell 9 (v:=.bool false) rfl
 have q10:=HI.out.cv.cell 10 (v:=.string ⟨#[]⟩) rfl
 go_enter Tryz.func84,Tryz.ntmps84
 go_wp2_with fail
 rw [← HW0.out]
 (with_reducible refine (HSP.out _).mono ?_);rintro e w1 ⟨rfl,hb1⟩
 have HI1:=hid (HI.out.on hb1)
 clear hb1
 go_wp2
 go_ret2
 exact ⟨rfl,HI1.out.low⟩
set_option maxRecDepth 1000000 in
theorem texted_q (arg:Str) (ha:arg.length≤100000) (hp:pr<0) (hw1:-1≤wd) (hw2:wd≤1000) (hc:c=113) (w:World) (hm:ML w) :
  Calls Tryz.prog 84 #[.agg #[.int .i64 A,.string ⟨tx.toArray⟩,.int .i64 0,.string ⟨fl.toArray⟩,.int .i64 wd,.int .i64 pr,.bool false,.bool false,.int .u8 (c.toNat:Nat),.bool false,.string ⟨#[]⟩],.string ⟨arg.toArray⟩] w fun e w'=>e=.returned (.tuple #[.string ⟨(spreadE fl wd (quote arg) 0 false).toArray⟩,.int .i64 0])∧Below w.heap.size w w':=by
 have hI:=CvIn.new w #[.int .i64 A,.string ⟨tx.toArray⟩,.int .i64 0,.string ⟨fl.toArray⟩,.int .i64 wd,.int .i64 pr,.bool false,.bool false,.int .u8 (c.toNat:Nat),.bool false,.string ⟨#[]⟩]
 obtain ⟨w0,hw0⟩:∃ w0,w0=w.alloc (.cells #[.int .i64 A,.string ⟨tx.toArray⟩,.int .i64 0,.string ⟨fl.toArray⟩,.int .i64 wd,.int .i64 pr,.bool false,.bool false,.int .u8 (c.toNat:Nat),.bool false,.string ⟨#[]⟩] 78):=⟨_,rfl⟩
 have hm0:ML w0:=by rw [hw0];exact hm.below (belowS _ _)
 rw [← hw0] at hI
 have y113:((c.toNat:Int) == 113)=true:=by rw [hc];rfl
 have HQ:=hid (quote_fn arg (by omega) w0 hm0)
 have hql:=quote_len arg
 have HSP:=hid (fun w=>spread0_fn (A:=A) (wd:=wd) (pr:=pr) (tx:=tx) (fl:=fl) (c:=c) (quote arg) (by omega) hw1 hw2 w)
 have HI:=hid hI
 have HW0:=hid hw0
 have hpn:¬ (0≤pr):=by omega
 clear hI hw0 hc hm0 hql
 have q0:=HI.out.cv.cell 0 (v:=.int .i64 A) rfl
 have q1:=HI.out.cv.cell 1 (v:=.string ⟨tx.toArray⟩) rfl
 have q2:=HI.out.cv.cell 2 (v:=.int .i64 0) rfl
 have q3:=HI.out.cv.cell 3 (v:=.string ⟨fl.toArray⟩) rfl
 have q4:=HI.out.cv.cell 4 (v:=.int .i64 wd) rfl
 have q5:=HI.out.cv.cell 5 (v:=.int .i64 pr) rfl
 have q6:=HI.out.cv.cell 6 (v:=.bool false) rfl
 have q7:=HI.out.cv.cell 7 (v:=.bool false) rfl
 have q8:=HI.out.cv.cell 8 (v:=.int .u8 (c.toNat:Nat)) rfl
 have q9:=HI.out.cv.cell 9 (v:=.bool false) rfl
 have q10:=HI.out.cv.cell 10 (v:=.string ⟨#[]⟩) rfl
 go_enter Tryz.func84,Tryz.ntmps84
 go_wp2_with fail
 rw [← HW0.out]
 (with_reducible refine HQ.out.mono ?_);rintro e w1 ⟨rfl,hb1⟩
 have HI1:=hid (HI.out.on hb1)
 clear hb1 q0 q1 q2 q3 q4 q5 q6 q7 q8 q9 q10
 have q0:=HI1.out.cv.cell 0 (v:=.int .i64 A) rfl
 have q1:=HI1.out.cv.cell 1 (v:=.string ⟨tx.toArray⟩) rfl
 have q2:=HI1.out.cv.cell 2 (v:=.int .i64 0) rfl
 have q3:=HI1.out.cv.cell 3 (v:=.string ⟨fl.toArray⟩) rfl
 have q4:=HI1.out.cv.cell 4 (v:=.int .i64 wd) rfl
 have q5:=HI1.out.cv.cell 5 (v:=.int .i64 pr) rfl
 have q6:=HI1.out.cv.cell 6 (v:=.bool false) rfl
 have q7:=HI1.out.cv.cell 7 (v:=.bool false) rfl
 have q8:=HI1.out.cv.cell 8 (v:=.int .u8 (c.toNat:Nat)) rfl
 have q9:=HI1.out.cv.cell 9 (v:=.bool false) rfl
 have q10:=HI1.out.cv.cell 10 (v:=.string ⟨#[]⟩) rfl
 go_wp2_with fail
 (with_reducible refine (HSP.out _).mono ?_);rintro e w2 ⟨rfl,hb2⟩
 have HI2:=hid (HI1.out.on hb2)
 clear hb2
 go_wp2
 go_ret2
 exact ⟨rfl,HI2.out.low⟩
end
def rpw (v:Value):Option (DataW Unit×List MemPlace):=match v with
 | .agg a=>match a.toList with
  | [.func (.func n) f c]=>if f.size=0∧c.size=0 then some (.lit (.int .i64 (n:Nat)),[]) else none
  | [.nilFunc]=>some (.lit (.int .i64 (-1)),[])
  | _=>none
 | _=>none
theorem rpw_inv {v:Value} {n:Nat} {ps:List MemPlace} (h:rpw v=some (.lit (.int .i64 (n:Nat)),ps)):v=.agg #[.func (.func n) #[] #[]]:=by
 unfold rpw at h
 split at h
 ·rename_i a
  split at h
  ·rename_i m f c he
   split at h
   ·rename_i hs
    simp only [Option.some.injEq,Prod.mk.injEq,DataW.lit.injEq,Lit.int.injEq,true_and] at h
    have hm:m=n:=Int.ofNat_inj.1 h.1
    subst hm
    have e1:f=#[]:=Array.eq_empty_of_size_eq_zero hs.1
    have e2:c=#[]:=Array.eq_empty_of_size_eq_zero hs.2
    subst e1
    subst e2
    have:a=#[.func (.func m) #[] #[]]:=by
     apply Array.ext'
     exact he
    rw [this]
   ·cases h
  ·simp only [Option.some.injEq,Prod.mk.injEq,DataW.lit.injEq,Lit.int.injEq,true_and] at h
   have h1:(-1:Int)=(n:Int):=h.1
   omega
  ·cases h
 ·cases h
def WMap (w:World) (b n:Nat) (f:UInt8→Int):Prop:=∃ D:DataW Unit,w.ownsMap Tryz.prog 5 rpw b n D∧Maps.IsMap D∧
 ∀ c:UInt8,D.atKey (.int .u8 (c.toNat:Nat)) (.lit (.int .i64 (-1)))=.lit (.int .i64 (f c))
theorem Tryz.keyedW:Maps.Keyed Tryz.prog 5:=Maps.int_keyed Tryz.underlying5
theorem Tryz.zeroWr (w:World):(zeroValue 90).run Tryz.prog w=.ok (.agg #[.nilFunc]) w:=by kernel_rfl
theorem key_w (c:UInt8):keyOf Tryz.prog 5 (.int .u8 (c.toNat:Nat))=some (.int .u8 (c.toNat:Nat)):=by
 exact Maps.keyOf_int_mk Tryz.underlying5 (WalkArith.wf_u8 ⟨by omega,by have:=c.toNat_lt;omega⟩)
theorem key_wne {c d:UInt8} (h:c≠d):(Lit.int .u8 (c.toNat:Nat))≠Lit.int .u8 (d.toNat:Nat):=by
 intro e
 simp only [Lit.int.injEq,true_and] at e
 exact h (UInt8.toNat_inj.1 (by omega))
theorem WMap.of {w w':World} {b n:Nat} {f:UInt8→Int} (h:WMap w b n f) (hb:w'.heap[b]? = w.heap[b]?):WMap w' b n f:=by
 obtain ⟨D,⟨es,clock,h1,h2⟩,h3⟩:=h
 exact ⟨D,⟨es,clock,hb.trans h1,h2⟩,h3⟩
theorem WMap.look {w:World} {b n:Nat} {f:UInt8→Int} (h:WMap w b n f) (c:UInt8) (F:Nat) (hF:f c=(F:Int)) :
  (Instr.lookup 67 (.map (some b)) (.int .u8 (c.toNat:Nat)) false).run Tryz.prog w=.ok (.agg #[.func (.func F) #[] #[]]) w:=by
 obtain ⟨D,ho,_,hat⟩:=h
 obtain ⟨v,ps,hrun,hv⟩:=ho.lookup Tryz.keyedW Tryz.underlying67 (Tryz.zeroWr w) (show rpw (.agg #[.nilFunc])=some (.lit (.int .i64 (-1)),[]) from rfl) (key_w c)
 rw [hat c,hF] at hv
 rw [hrun,rpw_inv hv]
theorem WMap.put {w:World} {b n:Nat} {f:UInt8→Int} {D:DataW Unit} {x:UInt8} {F:Nat} (hm:Maps.IsMap D) (hat:∀ c:UInt8,D.atKey (.int .u8 (c.toNat:Nat)) (.lit (.int .i64 (-1)))=.lit (.int .i64 (f c)))
  (ho:w.ownsMap Tryz.prog 5 rpw b (n+1) (D.put (.int .u8 (x.toNat:Nat)) (.lit (.int .i64 (F:Nat))))):WMap w b (n+1) (fun c=>if c=x then (F:Int) else f c):=by
 refine ⟨_,ho,hm.put _ _,fun c=>?_⟩
 show _=DataW.lit (Lit.int .i64 (if c=x then (F:Int) else f c))
 by_cases h:c=x
 ·subst h
  rw [Maps.atKey_put_same hm (show WideAt.IsKeyLit (.int .u8 (c.toNat:Nat)) from trivial),if_pos rfl]
 ·rw [Maps.atKey_put_other (key_wne h),hat c,if_neg h]
theorem wm_insert {w:World} {ops:Array Oper} {rest:List Oper} {o:Oper} {a:Act} {Q:Exit→Act→World→Prop} (hg:o.guard=none) (m x v:Operand) (hop:o.op=Op.insert 67 m x v)
  {b n:Nat} {f:UInt8→Int} (hm:a.eval m=.map (some b)) (h:WMap w b n f) (hn:n≤100) (k:UInt8) (F:Nat) (hx:a.eval x=.int .u8 (k.toNat:Nat)) (hv:a.eval v=.agg #[.func (.func F) #[] #[]])
  (hK:∀ w',WMap w' b (n+1) (fun c=>if c=k then (F:Int) else f c)→w.grownBy w' (some b)→wpList Tryz.prog ops Q rest (a.put o.dst undef) w'):wpList Tryz.prog ops Q (o::rest) a w:=by
 obtain ⟨D,hown,hmD,hat⟩:=h
 refine wpList_plain hg fun K' hK'=>?_
 obtain ⟨w',hrun,r1,r2⟩:=hown.update Tryz.keyedW Tryz.underlying67 (by unfold maxLen;omega) (key_w k) (show rpw (.agg #[.func (.func F) #[] #[]])=some (.lit (.int .i64 (F:Nat)),[]) from rfl)
 unfold Oper.wp
 simp [execOp,hop,hm,hx,hv,hrun,Result.andThen]
 exact hK' _ _ (hK w' (WMap.put hmD hat r1) r2)
def wrF:UInt8→Int:=(fun c=>if c=(113:UInt8) then ((84:Nat):Int) else (fun c=>if c=(115:UInt8) then ((84:Nat):Int) else (fun c=>if c=(99:UInt8) then ((85:Nat):Int) else (fun c=>if c=(98:UInt8) then ((59:Nat):Int) else (fun c=>if c=(111:UInt8) then ((59:Nat):Int) else (fun c=>if c=(88:UInt8) then ((59:Nat):Int) else (fun c=>if c=(120:UInt8) then ((59:Nat):Int) else (fun c=>if c=(100:UInt8) then ((59:Nat):Int) else (fun _=>(-1:Int)) c) c) c) c) c) c) c) c)
set_option maxRecDepth 1000000 in
set_option maxHeartbeats 2000000 in
theorem writers_fn (w:World):Calls Tryz.prog 45 #[] w fun e w'=>∃ b,e=.returned (.map (some b))∧WMap w' b 8 wrF∧Below w.heap.size w w'∧w.heap.size≤b:=by
 have hmm:=@run_makeMap Tryz.prog
 obtain ⟨w1,hw1⟩:∃ w1,w1=((w.alloc (.cells #[.func (.func 59) #[] #[]] 90)).alloc (.cells #[.func (.func 84) #[] #[]] 90)).alloc (.map #[] 0):=⟨_,rfl⟩
 have h0:WMap w1 (w.heap.size+1+1) 0 (fun _=>(-1:Int)):=by
  have h:=World.ownsMap_made (H:=Unit) ((w.alloc (.cells #[.func (.func 59) #[] #[]] 90)).alloc (.cells #[.func (.func 84) #[] #[]] 90)) Tryz.prog 5 rpw
  simp only [World.size_alloc] at h
  rw [hw1]
  exact ⟨_,h,⟨[],rfl⟩,fun c=>rfl⟩
 have hb1:Below w.heap.size w w1:=by rw [hw1];exact (((Below.refl _ _).alloc (Nat.le_refl _) _).alloc (by simp) _).alloc (by simp;omega) _
 have hn1:w1.heap[w.heap.size]? = some (.cells #[.func (.func 59) #[] #[]] 90 (0,0)):=by
  rw [hw1,Below.heap_alloc _ _ _ (by simp;omega),Below.heap_alloc _ _ _ (by simp)]
  exact heap_alloc_new _ _
 have ht1:w1.heap[w.heap.size+1]? = some (.cells #[.func (.func 84) #[] #[]] 90 (0,0)):=by
  rw [hw1,Below.heap_alloc _ _ _ (by simp)]
  have h:=heap_alloc_new (w.alloc (.cells #[.func (.func 59) #[] #[]] 90)) (.cells #[.func (.func 84) #[] #[]] 90)
  rw [World.size_alloc] at h
  exact h
 have HW1:=hid hw1
 have H0:=hid h0
 have HB0:=hid hb1
 have HN0:=hid hn1
 have HT0:=hid ht1
 clear hw1 h0 hb1 hn1 ht1
 go_enter Tryz.func45,Tryz.ntmps45
 go_wp2_with (first|(rw [← HW1.out];refine wm_insert rfl (.tmp 5) (.const (.int .u8 100)) (.tmp 6) rfl rfl H0.out (by omega) 100 59 rfl rfl ?_;intro w2 hm0 hg0;have H1:=hid hm0;have HN1:=hid ((hg0.block _ (Array.getElem?_eq_some_iff.1 HN0.out).1 (by intro e;have:=Option.some.inj e;omega)).trans HN0.out);have HT1:=hid ((hg0.block _ (Array.getElem?_eq_some_iff.1 HT0.out).1 (by intro e;have:=Option.some.inj e;omega)).trans HT0.out);have HB1:=hid (HB0.out.grown hg0 HB0.out.size (fun g e=>by have:=Option.some.inj e;omega));have n1:w2.cell? ⟨w.heap.size,0,none⟩=some (.func (.func 59) #[] #[]):=(Lib.cell_of_heap HN1.out _).trans rfl;have t1:w2.cell? ⟨w.heap.size+1,0,none⟩=some (.func (.func 84) #[] #[]):=(Lib.cell_of_heap HT1.out _).trans rfl;clear hm0 hg0 H0 HN0 HT0 HB0)|(refine wm_insert rfl (.tmp 5) (.const (.int .u8 120)) (.tmp 7) rfl rfl H1.out (by omega) 120 59 rfl rfl ?_;intro w3 hm1 hg1;have H2:=hid hm1;have HN2:=hid ((hg1.block _ (Array.getElem?_eq_some_iff.1 HN1.out).1 (by intro e;have:=Option.some.inj e;omega)).trans HN1.out);have HT2:=hid ((hg1.block _ (Array.getElem?_eq_some_iff.1 HT1.out).1 (by intro e;have:=Option.some.inj e;omega)).trans HT1.out);have HB2:=hid (HB1.out.grown hg1 HB1.out.size (fun g e=>by have:=Option.some.inj e;omega));have n2:w3.cell? ⟨w.heap.size,0,none⟩=some (.func (.func 59) #[] #[]):=(Lib.cell_of_heap HN2.out _).trans rfl;have t2:w3.cell? ⟨w.heap.size+1,0,none⟩=some (.func (.func 84) #[] #[]):=(Lib.cell_of_heap HT2.out _).trans rfl;clear hm1 hg1 H1 HN1 HT1 HB1)|(refine wm_insert rfl (.tmp 5) (.const (.int .u8 88)) (.tmp 8) rfl rfl H2.out (by omega) 88 59 rfl rfl ?_;intro w4 hm2 hg2;have H3:=hid hm2;have HN3:=hid ((hg2.block _ (Array.getElem?_eq_some_iff.1 HN2.out).1 (by intro e;have:=Option.some.inj e;omega)).trans HN2.out);have HT3:=hid ((hg2.block _ (Array.getElem?_eq_some_iff.1 HT2.out).1 (by intro e;have:=Option.some.inj e;omega)).trans HT2.out);have HB3:=hid (HB2.out.grown hg2 HB2.out.size (fun g e=>by have:=Option.some.inj e;omega));have n3:w4.cell? ⟨w.heap.size,0,none⟩=some (.func (.func 59) #[] #[]):=(Lib.cell_of_heap HN3.out _).trans rfl;have t3:w4.cell? ⟨w.heap.size+1,0,none⟩=some (.func (.func 84) #[] #[]):=(Lib.cell_of_heap HT3.out _).trans rfl;clear hm2 hg2 H2 HN2 HT2 HB2)|(refine wm_insert rfl (.tmp 5) (.const (.int .u8 111)) (.tmp 9) rfl rfl H3.out (by omega) 111 59 rfl rfl ?_;intro w5 hm3 hg3;have H4:=hid hm3;have HN4:=hid ((hg3.block _ (Array.getElem?_eq_some_iff.1 HN3.out).1 (by intro e;have:=Option.some.inj e;omega)).trans HN3.out);have HT4:=hid ((hg3.block _ (Array.getElem?_eq_some_iff.1 HT3.out).1 (by intro e;have:=Option.some.inj e;omega)).trans HT3.out);have HB4:=hid (HB3.out.grown hg3 HB3.out.size (fun g e=>by have:=Option.some.inj e;omega));have n4:w5.cell? ⟨w.heap.size,0,none⟩=some (.func (.func 59) #[] #[]):=(Lib.cell_of_heap HN4.out _).trans rfl;have t4:w5.cell? ⟨w.heap.size+1,0,none⟩=some (.func (.func 84) #[] #[]):=(Lib.cell_of_heap HT4.out _).trans rfl;clear hm3 hg3 H3 HN3 HT3 HB3)|(refine wm_insert rfl (.tmp 5) (.const (.int .u8 98)) (.tmp 10) rfl rfl H4.out (by omega) 98 59 rfl rfl ?_;intro w6 hm4 hg4;have H5:=hid hm4;have HN5:=hid ((hg4.block _ (Array.getElem?_eq_some_iff.1 HN4.out).1 (by intro e;have:=Option.some.inj e;omega)).trans HN4.out);have HT5:=hid ((hg4.block _ (Array.getElem?_eq_some_iff.1 HT4.out).1 (by intro e;have:=Option.some.inj e;omega)).trans HT4.out);have HB5:=hid (HB4.out.grown hg4 HB4.out.size (fun g e=>by have:=Option.some.inj e;omega));have n5:w6.cell? ⟨w.heap.size,0,none⟩=some (.func (.func 59) #[] #[]):=(Lib.cell_of_heap HN5.out _).trans rfl;have t5:w6.cell? ⟨w.heap.size+1,0,none⟩=some (.func (.func 84) #[] #[]):=(Lib.cell_of_heap HT5.out _).trans rfl;clear hm4 hg4 H4 HN4 HT4 HB4)|(refine wm_insert rfl (.tmp 5) (.const (.int .u8 99)) (.tmp 11) rfl rfl H5.out (by omega) 99 85 rfl rfl ?_;intro w7 hm5 hg5;have H6:=hid hm5;have HN6:=hid ((hg5.block _ (Array.getElem?_eq_some_iff.1 HN5.out).1 (by intro e;have:=Option.some.inj e;omega)).trans HN5.out);have HT6:=hid ((hg5.block _ (Array.getElem?_eq_some_iff.1 HT5.out).1 (by intro e;have:=Option.some.inj e;omega)).trans HT5.out);have HB6:=hid (HB5.out.grown hg5 HB5.out.size (fun g e=>by have:=Option.some.inj e;omega));have n6:w7.cell? ⟨w.heap.size,0,none⟩=some (.func (.func 59) #[] #[]):=(Lib.cell_of_heap HN6.out _).trans rfl;have t6:w7.cell? ⟨w.heap.size+1,0,none⟩=some (.func (.func 84) #[] #[]):=(Lib.cell_of_heap HT6.out _).trans rfl;clear hm5 hg5 H5 HN5 HT5 HB5)|(refine wm_insert rfl (.tmp 5) (.const (.int .u8 115)) (.tmp 12) rfl rfl H6.out (by omega) 115 84 rfl rfl ?_;intro w8 hm6 hg6;have H7:=hid hm6;have HN7:=hid ((hg6.block _ (Array.getElem?_eq_some_iff.1 HN6.out).1 (by intro e;have:=Option.some.inj e;omega)).trans HN6.out);have HT7:=hid ((hg6.block _ (Array.getElem?_eq_some_iff.1 HT6.out).1 (by intro e;have:=Option.some.inj e;omega)).trans HT6.out);have HB7:=hid (HB6.out.grown hg6 HB6.out.size (fun g e=>by have:=Option.some.inj e;omega));have n7:w8.cell? ⟨w.heap.size,0,none⟩=some (.func (.func 59) #[] #[]):=(Lib.cell_of_heap HN7.out _).trans rfl;have t7:w8.cell? ⟨w.heap.size+1,0,none⟩=some (.func (.func 84) #[] #[]):=(Lib.cell_of_heap HT7.out _).trans rfl;clear hm6 hg6 H6 HN6 HT6 HB6)|(refine wm_insert rfl (.tmp 5) (.const (.int .u8 113)) (.tmp 13) rfl rfl H7.out (by omega) 113 84 rfl rfl ?_;intro w9 hm7 hg7;have H8:=hid hm7;have HN8:=hid ((hg7.block _ (Array.getElem?_eq_some_iff.1 HN7.out).1 (by intro e;have:=Option.some.inj e;omega)).trans HN7.out);have HT8:=hid ((hg7.block _ (Array.getElem?_eq_some_iff.1 HT7.out).1 (by intro e;have:=Option.some.inj e;omega)).trans HT7.out);have HB8:=hid (HB7.out.grown hg7 HB7.out.size (fun g e=>by have:=Option.some.inj e;omega));have n8:w9.cell? ⟨w.heap.size,0,none⟩=some (.func (.func 59) #[] #[]):=(Lib.cell_of_heap HN8.out _).trans rfl;have t8:w9.cell? ⟨w.heap.size+1,0,none⟩=some (.func (.func 84) #[] #[]):=(Lib.cell_of_heap HT8.out _).trans rfl;clear hm7 hg7 H7 HN7 HT7 HB7))
 go_ret
 exact ⟨_,rfl,H8.out,HB8.out,by omega⟩
end Go.Proofs.YtbilphfbfnohmaaGreatDoor.Pz
