/-
  Part K8 of the proofs of this seat, merged by a program out of 5 texts; remarks are struck.
-/
import Derived.Test.YtbilphfbfnohmaaGreatDoorK5
namespace Go.Proofs.YtbilphfbfnohmaaGreatDoor.Pz
open Go.RowKit
def SIn (w:World) (p:Nat) (s:Str) (i:Nat):Prop:=w.heap[p]? = some (.cells #[.string ⟨s.toArray⟩,.int .i64 (i:Nat)] 96 (0,0))
section
variable {w w':World} {p i:Nat} {s:Str}
theorem SIn.lt (h:SIn w p s i):p<w.heap.size:=(Array.getElem?_eq_some_iff.1 h).1
theorem SIn.c0 (h:SIn w p s i):w.cell? ⟨p,0,none⟩=some (.string ⟨s.toArray⟩):=by rw [Lib.cell_of_heap h];rfl
theorem SIn.c1 (h:SIn w p s i):w.cell? ⟨p,1,none⟩=some (.int .i64 (i:Nat)):=by rw [Lib.cell_of_heap h];rfl
theorem SIn.f1 (h:SIn w p s i):w.frozen? ⟨p,1,none⟩=false:=Lib.frozen_of_heap h 1
theorem SIn.on (h:SIn w p s i) {A:List Nat} (ho:OnlyS A w w') (hp:p ∉ A):SIn w' p s i:=ho.cells h hp
theorem SIn.below (h:SIn w p s i) (hb:Below w.heap.size w w'):SIn w' p s i:=(hb.block p h.lt).trans h
theorem SIn.drewN (h:SIn w p s i) (n:Nat):SIn (w.drewN n) p s i:=h
theorem SIn.set (h:SIn w p s i) (j:Nat):SIn (w.setCell ⟨p,1,none⟩ (.int .i64 (j:Nat))) p s j:=by
 unfold SIn at h ⊢
 simp [World.setCell,Array.getElem?_modify,h]
theorem SIn.put (h:SIn w p s i) (j:Nat) {x:Int} (hx:x=(j:Nat)):SIn (w.setCell ⟨p,1,none⟩ (.int .i64 x)) p s j:=by
 subst hx
 exact h.set j
end
set_option maxRecDepth 100000 in
set_option maxHeartbeats 2000000 in
theorem white_in {w:World} {p i:Nat} {s l:Str} (h:SIn w p s i) (ha:At s l i) (hs:s.length≤1000000) :
  Calls Tryz.prog 96 #[.pointer (some ⟨p,0,none⟩)] w fun e w'=>e=.returned (.tuple #[])∧(∃ i',SIn w' p s i'∧At s (l.dropWhile white) i')∧OnlyS [p] w w':=by
 have hsz:(⟨s.toArray⟩:ByteArray).size=s.length:=by rw [Lib.size_mk]
 have HWF:=hid white_fn
 go_enter Tryz.func96,Tryz.ntmps96
 go_wp2_with fail
 go_loopg [] l.length (fun k wr=>∃ (r:Str) (j:Nat),SIn wr p s j∧At s r j∧k=r.length∧Hid (r.dropWhile white=l.dropWhile white)∧OnlyS [p] w wr)
 case atStart=>exact ⟨l,i,h,ha,rfl,hid rfl,OnlyS.refl _ _⟩
 case round=>
  obtain ⟨r,j,hrd,hat,rfl,HR,hon⟩:=hrel
  clear h ha
  have c0:=hrd.c0
  have c1:=hrd.c1
  have f1:=hrd.f1
  cases r with
  | nil=>
   have hdec:decide ((j:Int)<(s.length:Int))=false:=decide_eq_false (by have:=hat.len;simp at this;omega)
   have hdeN:¬ ((j:Int)<(s.length:Int)):=by have:=hat.len;simp at this;omega
   have hdN:decide (j<s.length)=false:=decide_eq_false (by omega)
   have HAT:=hid hat
   clear hat
   go_wp2
   go_quiet ((go_at_call 95;exact Calls.quiet_of_same (HWF.out _ _)))
   go_wp2
   go_end0
   exact ⟨rfl,⟨j,hrd.drewN _,by rw [← HR.out];exact HAT.out⟩,hon.trans (OnlyS.drewN _ _ _)⟩
  | cons c t=>
   have hlt:(j:Int)<(s.length:Int):=by have:=hat.lt;omega
   have hlN:j<s.length:=hat.lt
   have hg:∀ h',(⟨s.toArray⟩:ByteArray)[j]'h'=c:=hat.byte
   have HAT:=hid hat
   clear hat
   cases hc:white c with
   | true=>
    have HW:=hid (show ∀ w,Calls Tryz.prog 95 #[.int .u8 (c.toNat:Nat)] w fun e w'=>e=.returned (.bool true)∧w'=w from fun w=>by rw [← hc];exact white_fn c w)
    have HC:=hid hc
    clear hc
    go_wp2
    go_quiet ((go_at_call 95;exact Calls.quiet_of_same (HW.out _)))
    go_wp2
    go_roundg t.length
    case measure=>simp
    case rel=>exact ⟨t,j+1,SIn.put (i:=j) hrd (j+1) (by omega),HAT.out.tail,rfl,hid (by rw [← HR.out,List.dropWhile_cons,HC.out];rfl),hon.trans ((OnlyS.drewN _ _ _).trans (OnlyS.set (by simp) _))⟩
   | false=>
    have HW:=hid (show ∀ w,Calls Tryz.prog 95 #[.int .u8 (c.toNat:Nat)] w fun e w'=>e=.returned (.bool false)∧w'=w from fun w=>by rw [← hc];exact white_fn c w)
    have HC:=hid hc
    clear hc
    go_wp2
    go_quiet ((go_at_call 95;exact Calls.quiet_of_same (HW.out _)))
    go_wp2
    go_end0
    exact ⟨rfl,⟨j,hrd.drewN _,by rw [← HR.out,List.dropWhile_cons,HC.out];exact HAT.out⟩,hon.trans (OnlyS.drewN _ _ _)⟩
def valE (c:UInt8):Nat:=if isDig c then c.toNat-48 else if 97≤c.toNat∧c.toNat≤102 then c.toNat-97+10 else if 65≤c.toNat∧c.toNat≤70 then c.toNat-65+10 else 16
set_option maxRecDepth 100000 in
theorem value_in (c:UInt8) (w:World):Calls Tryz.prog 147 #[.int .u8 (c.toNat:Nat)] w fun e w'=>e=.returned (.int .i64 (valE c:Nat))∧w'=w:=by
 cases hc:isDig c with
 | true=>
  have hb:=isDig_of hc
  have hb1:(48:Int)≤(c.toNat:Int):=by omega
  have hb2:(c.toNat:Int)≤57:=by omega
  have HV:=hid (show valE c=c.toNat-48 by unfold valE;rw [if_pos hc])
  have HD:=hid (show ∀ w,Calls Tryz.prog 187 #[.int .u8 (c.toNat:Nat)] w fun e w'=>e=.returned (.bool true)∧w'=w from fun w=>by rw [← hc];exact digit_fn c w)
  clear hc hb
  go_enter Tryz.func147,Tryz.ntmps147
  go_wp2_with ((with_reducible refine (HD.out _).mono ?_);rintro e w1 ⟨rfl,rfl⟩)
  go_ret
  exact ⟨by rw [HV.out];first | rfl | exact congrArg (fun x=>Ending.returned (Value.int .i64 x)) (by omega),rfl⟩
 | false=>
  have HV:=hid (show valE c=if 97≤c.toNat∧c.toNat≤102 then c.toNat-97+10 else if 65≤c.toNat∧c.toNat≤70 then c.toNat-65+10 else 16 by unfold valE;rw [hc];rfl)
  have HD:=hid (show ∀ w,Calls Tryz.prog 187 #[.int .u8 (c.toNat:Nat)] w fun e w'=>e=.returned (.bool false)∧w'=w from fun w=>by rw [← hc];exact digit_fn c w)
  generalize valE c=V at *
  have hl:c.toNat<256:=c.toNat_lt
  clear hc
  generalize c.toNat=n at *
  by_cases h1:97≤n
  ·have d1:decide ((97:Int)≤(n:Int))=true:=decide_eq_true (by omega)
   have p1:(97:Int)≤(n:Int):=by omega
   by_cases h2:n≤102
   ·have d2:decide ((n:Int)≤102)=true:=decide_eq_true (by omega)
    have p2:(n:Int)≤102:=by omega
    have HQ:=hid (show V=n-97+10 by rw [HV.out,if_pos ⟨h1,h2⟩])
    clear HV
    go_enter Tryz.func147,Tryz.ntmps147
    go_wp2_with ((with_reducible refine (HD.out _).mono ?_);rintro e w1 ⟨rfl,rfl⟩)
    go_ret
    exact ⟨by rw [HQ.out];exact congrArg (fun x=>Ending.returned (Value.int .i64 x)) (by omega),rfl⟩
   ·have d2:decide ((n:Int)≤102)=false:=decide_eq_false (by omega)
    have p2:¬ (n:Int)≤102:=by omega
    have d3:decide ((65:Int)≤(n:Int))=true:=decide_eq_true (by omega)
    have d4:decide ((n:Int)≤70)=false:=decide_eq_false (by omega)
    have p3:(65:Int)≤(n:Int):=by omega
    have p4:¬ (n:Int)≤70:=by omega
    have HQ:=hid (show V=16 by rw [HV.out,if_neg (by omega),if_neg (by omega)])
    clear HV
    go_enter Tryz.func147,Tryz.ntmps147
    go_wp2_with ((with_reducible refine (HD.out _).mono ?_);rintro e w1 ⟨rfl,rfl⟩)
    go_ret
    exact ⟨by rw [HQ.out];rfl,rfl⟩
  ·have d1:decide ((97:Int)≤(n:Int))=false:=decide_eq_false (by omega)
   have p1:¬ (97:Int)≤(n:Int):=by omega
   by_cases h3:65≤n
   ·have d3:decide ((65:Int)≤(n:Int))=true:=decide_eq_true (by omega)
    have p3:(65:Int)≤(n:Int):=by omega
    by_cases h4:n≤70
    ·have d4:decide ((n:Int)≤70)=true:=decide_eq_true (by omega)
     have p4:(n:Int)≤70:=by omega
     have HQ:=hid (show V=n-65+10 by rw [HV.out,if_neg (by omega),if_pos ⟨h3,h4⟩])
     clear HV
     go_enter Tryz.func147,Tryz.ntmps147
     go_wp2_with ((with_reducible refine (HD.out _).mono ?_);rintro e w1 ⟨rfl,rfl⟩)
     go_ret
     exact ⟨by rw [HQ.out];exact congrArg (fun x=>Ending.returned (Value.int .i64 x)) (by omega),rfl⟩
    ·have d4:decide ((n:Int)≤70)=false:=decide_eq_false (by omega)
     have p4:¬ (n:Int)≤70:=by omega
     have HQ:=hid (show V=16 by rw [HV.out,if_neg (by omega),if_neg (by omega)])
     clear HV
     go_enter Tryz.func147,Tryz.ntmps147
     go_wp2_with ((with_reducible refine (HD.out _).mono ?_);rintro e w1 ⟨rfl,rfl⟩)
     go_ret
     exact ⟨by rw [HQ.out];rfl,rfl⟩
   ·have d3:decide ((65:Int)≤(n:Int))=false:=decide_eq_false (by omega)
    have p3:¬ (65:Int)≤(n:Int):=by omega
    have HQ:=hid (show V=16 by rw [HV.out,if_neg (by omega),if_neg (by omega)])
    clear HV
    go_enter Tryz.func147,Tryz.ntmps147
    go_wp2_with ((with_reducible refine (HD.out _).mono ?_);rintro e w1 ⟨rfl,rfl⟩)
    go_ret
    exact ⟨by rw [HQ.out];rfl,rfl⟩
def signC (c:UInt8):Bool:=c == 45 || c == 43
theorem sign_in (c:UInt8) (w:World):Calls Tryz.prog 145 #[.int .u8 (c.toNat:Nat)] w fun e w'=>e=.returned (.bool (signC c))∧w'=w:=by
 by_cases h1:c=45
 ·subst h1
  go_enter Tryz.func145,Tryz.ntmps145
  go_wp2
  go_ret
  exact ⟨rfl,rfl⟩
 have n1:=byte_ne 45 h1 rfl
 by_cases h2:c=43
 ·subst h2
  go_enter Tryz.func145,Tryz.ntmps145
  go_wp2
  go_ret
  exact ⟨rfl,rfl⟩
 have n2:=byte_ne 43 h2 rfl
 have HQ:=hid (show signC c=false by unfold signC;simp [h1,h2])
 clear h1 h2
 go_enter Tryz.func145,Tryz.ntmps145
 go_wp2
 go_ret
 exact ⟨by rw [HQ.out];rfl,rfl⟩
theorem dark_in (c:UInt8) (w:World):Calls Tryz.prog 99 #[.int .u8 (c.toNat:Nat)] w fun e w'=>e=.returned (.bool (!white c))∧w'=w:=by
 have HW:=hid (white_fn c w)
 go_enter Tryz.func99,Tryz.ntmps99
 go_wp2_with ((with_reducible refine HW.out.mono ?_);rintro e w1 ⟨rfl,h1⟩;subst h1)
 go_ret
 exact ⟨rfl,rfl⟩
theorem fits_in (c:UInt8) {w:World} {k b:Nat} (h:w.cell? ⟨k,0,none⟩=some (.int .i64 (b:Nat))):Calls Tryz.prog 146 #[.int .u8 (c.toNat:Nat),.pointer (some ⟨k,0,none⟩)] w fun e w'=>e=.returned (.bool (decide (valE c<b)))∧∃ n,w'=w.drewN n:=by
 have HV:=hid (value_in c)
 have hd:decide ((valE c:Int)<(b:Int))=decide (valE c<b):=by simp
 obtain ⟨d,hd2⟩:∃ d,d=decide (valE c<b):=⟨_,rfl⟩
 rw [← hd2] at hd ⊢
 generalize valE c=V at *
 have HD:=hid hd
 clear hd hd2
 go_enter Tryz.func146,Tryz.ntmps146
 go_wp2
 go_quiet ((go_at_call 147;exact Calls.quiet_of_same (HV.out _)))
 go_wp2
 go_ret
 exact ⟨by rw [← HD.out];first | rfl | simp,_,rfl⟩
end Go.Proofs.YtbilphfbfnohmaaGreatDoor.Pz
namespace Go.Proofs.YtbilphfbfnohmaaGreatDoor.Pz
open Go.RowKit
def runE (m:Int) (f:UInt8→Bool) (l:Str):Str:=if m<0 then l.takeWhile f else (l.take m.toNat).takeWhile f
theorem takeW_all (f:UInt8→Bool):∀ (a r:Str),a.all f=true→(a++r).takeWhile f=a++r.takeWhile f
 | [],_,_=>rfl
 | x::a,r,h=>by
  rw [List.all_cons,Bool.and_eq_true] at h
  show List.takeWhile f (x::(a++r))=_
  rw [List.takeWhile_cons,h.1,if_pos rfl,takeW_all f a r h.2]
  rfl
theorem runE_stop {m:Int} {f:UInt8→Bool} {a r:Str} (ha:a.all f=true) (hm:m<0∨(a.length:Int)≤m) (hr:(0≤m∧m≤(a.length:Int))∨∀ c t,r=c::t→f c=false):runE m f (a++r)=a:=by
 unfold runE
 by_cases h:m<0
 ·rw [if_pos h,takeW_all f a r ha]
  rcases hr with hr | hr
  ·omega
  ·cases r with
   | nil=>simp
   | cons c t=>rw [List.takeWhile_cons,hr c t rfl];simp
 ·rw [if_neg h,List.take_append,List.take_of_length_le (by omega),takeW_all f a _ ha]
  rcases hr with hr | hr
  ·rw [show m.toNat-a.length=0 by omega]
   simp
  ·cases r with
   | nil=>simp
   | cons c t=>
    cases hk:m.toNat-a.length with
    | zero=>simp
    | succ k=>rw [List.take_succ_cons,List.takeWhile_cons,hr c t rfl];simp
theorem mid_app {s l a r:Str} {i:Nat} (h:At s l i) (hl:l=a++r):(s.take (i+a.length)).drop i=a:=by
 have h1:s.drop i=a++r:=by rw [← hl];exact h.rest
 rw [List.drop_take,h1,show i+a.length-i=a.length by omega]
 simp
set_option maxRecDepth 100000 in
set_option maxHeartbeats 4000000 in
theorem run_in0 {w:World} {p i:Nat} {s l:Str} (h:SIn w p s i) (ha:At s l i) (hs:s.length≤1000000) (m:Int) (hm0:-1≤m) (hm9:m≤1000000) (f:UInt8→Bool) (k:Nat) (eg:∀ args w,(callFunc k args).run Tryz.prog w=.ok (.enter k args) w)
  (hF:∀ (c:UInt8) (u:World),OnlyS [p] w u→Calls Tryz.prog k #[.int .u8 (c.toNat:Nat)] u fun e u'=>e=.returned (.bool (f c))∧∃ n,u'=u.drewN n) :
  Calls Tryz.prog 98 #[.pointer (some ⟨p,0,none⟩),.int .i64 m,.func (.func k) #[] #[]] w fun e w'=>e=.returned (.string ⟨(runE m f l).toArray⟩)∧SIn w' p s (i+(runE m f l).length)∧OnlyS [p] w w':=by
 have hsz:(⟨s.toArray⟩:ByteArray).size=s.length:=by rw [Lib.size_mk]
 have HF:=hid hF
 have H:=hid h
 have HA:=hid ha
 have hil:i≤s.length:=by have:=ha.len;omega
 have c0:=h.c0
 have c1:=h.c1
 clear h ha hF
 go_enter Tryz.func98,Tryz.ntmps98
 go_wp2_with fail
 clear c0 c1
 go_loopg [] (s.length) (fun k wr=>∃ (a r:Str) (j:Nat),Hid (l=a++r)∧Hid (a.all f=true)∧Hid (m<0∨(a.length:Int)≤m)∧Hid (j=a.length)∧SIn wr p s (i+j)∧At s r (i+j)∧k+j=s.length∧OnlyS [p] w wr)
 case atStart=>exact ⟨[],l,0,hid rfl,hid rfl,hid (by by_cases h9:m<0<;>simp<;>omega),hid rfl,H.out,HA.out,rfl,OnlyS.refl _ _⟩
 case round=>
  obtain ⟨a,r,j,HL,HD,HM,HJ,hrd,hat,hkk,hon⟩:=hrel
  have hjl:i+j≤s.length:=by have:=hat.len;omega
  have c0:=hrd.c0
  have c1:=hrd.c1
  have f1:=hrd.f1
  rw [show ((i+j:Nat):Int)=(i:Int)+(j:Int) by omega] at c1
  have HMD:=hid (show (s.take (i+j)).drop i=a by rw [HJ.out];exact mid_app HA.out HL.out)
  have hidx:((i:Int)+(j:Int)).toNat=i+j:=by omega
  have hsub:(i:Int)+(j:Int)-(i:Int)=(j:Int):=by omega
  by_cases hmn:m<0
  ·have e1:decide (m<0)=true:=decide_eq_true hmn
   cases r with
   | nil=>
    have hdec:decide ((i:Int)+(j:Int)<(s.length:Int))=false:=decide_eq_false (by have:=hat.len;simp at this;omega)
    have hdeN:¬ ((i:Int)+(j:Int)<(s.length:Int)):=by have:=hat.len;simp at this;omega
    have HR:=hid (show runE m f l=a by rw [HL.out];exact runE_stop HD.out HM.out (.inr fun c t e=>by cases e))
    clear hat
    go_wp2
    go_quiet ((exact Calls.quiet_of (HF.out _ _ (hon.trans (OnlyS.drewN _ _ _)))))
    go_wp2
    go_quiet (fail)
    go_wp2
    go_ret
    exact ⟨by rw [HR.out,← HMD.out,Lib.extract_mk];first | rfl|(rw [List.drop_take];rfl),by rw [HR.out,← HJ.out];exact hrd,hon.trans (by first | exact OnlyS.drewN _ _ _ | exact (OnlyS.drewN _ _ _).trans (OnlyS.drewN _ _ _))⟩
   | cons c t=>
    have hlt:(i:Int)+(j:Int)<(s.length:Int):=by have:=hat.lt;omega
    have hdec:decide ((i:Int)+(j:Int)<(s.length:Int))=true:=decide_eq_true hlt
    have hlN:i+j<s.length:=hat.lt
    have hg:∀ h',(⟨s.toArray⟩:ByteArray)[i+j]'h'=c:=hat.byte
    have HAT:=hid hat
    clear hat
    cases hc:f c with
    | true=>
     have HW:=hid (show ∀ u,OnlyS [p] w u→Calls Tryz.prog k #[.int .u8 (c.toNat:Nat)] u fun e w'=>e=.returned (.bool true)∧∃ n,w'=u.drewN n from fun u hu=>by rw [← hc];exact HF.out c u hu)
     have HC:=hid hc
     clear hc
     go_wp2
     go_quiet ((exact Calls.quiet_of (HW.out _ (hon.trans (OnlyS.drewN _ _ _)))))
     go_wp2
     go_roundg (s.length-(j+1))
     case measure=>omega
     case rel=>exact ⟨a++[c],t,j+1,hid (by rw [HL.out,List.append_assoc];rfl),hid (by rw [List.all_append,HD.out,List.all_cons,HC.out];rfl),hid (by rw [List.length_append,← HJ.out];simp;omega),hid (by rw [List.length_append,← HJ.out];rfl),SIn.put (i:=i+j) hrd (i+(j+1)) (by omega),HAT.out.tail,by omega,hon.trans ((OnlyS.drewN _ _ _).trans (OnlyS.set (by simp) _))⟩
    | false=>
     have HW:=hid (show ∀ u,OnlyS [p] w u→Calls Tryz.prog k #[.int .u8 (c.toNat:Nat)] u fun e w'=>e=.returned (.bool false)∧∃ n,w'=u.drewN n from fun u hu=>by rw [← hc];exact HF.out c u hu)
     have HR:=hid (show runE m f l=a by rw [HL.out];exact runE_stop HD.out HM.out (.inr fun c' t' e=>by cases e;exact hc))
     have hat:=HAT.out
     clear hc
     clear hat
     go_wp2
     go_quiet ((exact Calls.quiet_of (HW.out _ (hon.trans (OnlyS.drewN _ _ _)))))
     go_wp2
     go_quiet (fail)
     go_wp2
     go_ret
     exact ⟨by rw [HR.out,← HMD.out,Lib.extract_mk];first | rfl|(rw [List.drop_take];rfl),by rw [HR.out,← HJ.out];exact hrd,hon.trans (by first | exact OnlyS.drewN _ _ _ | exact (OnlyS.drewN _ _ _).trans (OnlyS.drewN _ _ _))⟩
  ·have e1:decide (m<0)=false:=decide_eq_false hmn
   by_cases hjm:(j:Int)<m
   ·have e2:decide ((j:Int)<m)=true:=decide_eq_true hjm
    cases r with
    | nil=>
     have hdec:decide ((i:Int)+(j:Int)<(s.length:Int))=false:=decide_eq_false (by have:=hat.len;simp at this;omega)
     have hdeN:¬ ((i:Int)+(j:Int)<(s.length:Int)):=by have:=hat.len;simp at this;omega
     have HR:=hid (show runE m f l=a by rw [HL.out];exact runE_stop HD.out HM.out (.inr fun c t e=>by cases e))
     clear hat
     go_wp2
     go_quiet ((exact Calls.quiet_of (HF.out _ _ (hon.trans (OnlyS.drewN _ _ _)))))
     go_wp2
     go_quiet (fail)
     go_wp2
     go_ret
     exact ⟨by rw [HR.out,← HMD.out,Lib.extract_mk];first | rfl|(rw [List.drop_take];rfl),by rw [HR.out,← HJ.out];exact hrd,hon.trans (by first | exact OnlyS.drewN _ _ _ | exact (OnlyS.drewN _ _ _).trans (OnlyS.drewN _ _ _))⟩
    | cons c t=>
     have hlt:(i:Int)+(j:Int)<(s.length:Int):=by have:=hat.lt;omega
     have hdec:decide ((i:Int)+(j:Int)<(s.length:Int))=true:=decide_eq_true hlt
     have hlN:i+j<s.length:=hat.lt
     have hg:∀ h',(⟨s.toArray⟩:ByteArray)[i+j]'h'=c:=hat.byte
     have HAT:=hid hat
     clear hat
     cases hc:f c with
     | true=>
      have HW:=hid (show ∀ u,OnlyS [p] w u→Calls Tryz.prog k #[.int .u8 (c.toNat:Nat)] u fun e w'=>e=.returned (.bool true)∧∃ n,w'=u.drewN n from fun u hu=>by rw [← hc];exact HF.out c u hu)
      have HC:=hid hc
      clear hc
      go_wp2
      go_quiet ((exact Calls.quiet_of (HW.out _ (hon.trans (OnlyS.drewN _ _ _)))))
      go_wp2
      go_roundg (s.length-(j+1))
      case measure=>omega
      case rel=>exact ⟨a++[c],t,j+1,hid (by rw [HL.out,List.append_assoc];rfl),hid (by rw [List.all_append,HD.out,List.all_cons,HC.out];rfl),hid (by rw [List.length_append,← HJ.out];simp;omega),hid (by rw [List.length_append,← HJ.out];rfl),SIn.put (i:=i+j) hrd (i+(j+1)) (by omega),HAT.out.tail,by omega,hon.trans ((OnlyS.drewN _ _ _).trans (OnlyS.set (by simp) _))⟩
     | false=>
      have HW:=hid (show ∀ u,OnlyS [p] w u→Calls Tryz.prog k #[.int .u8 (c.toNat:Nat)] u fun e w'=>e=.returned (.bool false)∧∃ n,w'=u.drewN n from fun u hu=>by rw [← hc];exact HF.out c u hu)
      have HR:=hid (show runE m f l=a by rw [HL.out];exact runE_stop HD.out HM.out (.inr fun c' t' e=>by cases e;exact hc))
      have hat:=HAT.out
      clear hc
      clear hat
      go_wp2
      go_quiet ((exact Calls.quiet_of (HW.out _ (hon.trans (OnlyS.drewN _ _ _)))))
      go_wp2
      go_quiet (fail)
      go_wp2
      go_ret
      exact ⟨by rw [HR.out,← HMD.out,Lib.extract_mk];first | rfl|(rw [List.drop_take];rfl),by rw [HR.out,← HJ.out];exact hrd,hon.trans (by first | exact OnlyS.drewN _ _ _ | exact (OnlyS.drewN _ _ _).trans (OnlyS.drewN _ _ _))⟩
   ·have e2:decide ((j:Int)<m)=false:=decide_eq_false hjm
    have HR:=hid (show runE m f l=a by rw [HL.out];exact runE_stop HD.out HM.out (.inl ⟨by omega,by rw [← HJ.out];omega⟩))
    cases r with
    | nil=>
     have hdec:decide ((i:Int)+(j:Int)<(s.length:Int))=false:=decide_eq_false (by have:=hat.len;simp at this;omega)
     have hdeN:¬ ((i:Int)+(j:Int)<(s.length:Int)):=by have:=hat.len;simp at this;omega
     clear hat
     go_wp2
     go_quiet ((exact Calls.quiet_of (HF.out _ _ (hon.trans (OnlyS.drewN _ _ _)))))
     go_wp2
     go_quiet (fail)
     go_wp2
     go_ret
     exact ⟨by rw [HR.out,← HMD.out,Lib.extract_mk];first | rfl|(rw [List.drop_take];rfl),by rw [HR.out,← HJ.out];exact hrd,hon.trans (by first | exact OnlyS.drewN _ _ _ | exact (OnlyS.drewN _ _ _).trans (OnlyS.drewN _ _ _))⟩
    | cons c t=>
     have hlt:(i:Int)+(j:Int)<(s.length:Int):=by have:=hat.lt;omega
     have hdec:decide ((i:Int)+(j:Int)<(s.length:Int))=true:=decide_eq_true hlt
     have hlN:i+j<s.length:=hat.lt
     clear hat
     go_wp2
     go_quiet ((exact Calls.quiet_of (HF.out _ _ (hon.trans (OnlyS.drewN _ _ _)))))
     go_wp2
     go_quiet (fail)
     go_wp2
     go_ret
     exact ⟨by rw [HR.out,← HMD.out,Lib.extract_mk];first | rfl|(rw [List.drop_take];rfl),by rw [HR.out,← HJ.out];exact hrd,hon.trans (by first | exact OnlyS.drewN _ _ _ | exact (OnlyS.drewN _ _ _).trans (OnlyS.drewN _ _ _))⟩
set_option maxRecDepth 100000 in
set_option maxHeartbeats 4000000 in
theorem run_in1 {w:World} {p i:Nat} {s l:Str} (h:SIn w p s i) (ha:At s l i) (hs:s.length≤1000000) (m:Int) (hm0:-1≤m) (hm9:m≤1000000) (f:UInt8→Bool) (k:Nat) (cx:Value) (eg:∀ args w,(callFunc k args).run Tryz.prog w=.ok (.enter k args) w)
  (hF:∀ (c:UInt8) (u:World),OnlyS [p] w u→Calls Tryz.prog k #[.int .u8 (c.toNat:Nat),cx] u fun e u'=>e=.returned (.bool (f c))∧∃ n,u'=u.drewN n) :
  Calls Tryz.prog 98 #[.pointer (some ⟨p,0,none⟩),.int .i64 m,.func (.func k) #[] #[cx]] w fun e w'=>e=.returned (.string ⟨(runE m f l).toArray⟩)∧SIn w' p s (i+(runE m f l).length)∧OnlyS [p] w w':=by
 have hsz:(⟨s.toArray⟩:ByteArray).size=s.length:=by rw [Lib.size_mk]
 have HF:=hid hF
 have H:=hid h
 have HA:=hid ha
 have hil:i≤s.length:=by have:=ha.len;omega
 have c0:=h.c0
 have c1:=h.c1
 clear h ha hF
 go_enter Tryz.func98,Tryz.ntmps98
 go_wp2_with fail
 clear c0 c1
 go_loopg [] (s.length) (fun k wr=>∃ (a r:Str) (j:Nat),Hid (l=a++r)∧Hid (a.all f=true)∧Hid (m<0∨(a.length:Int)≤m)∧Hid (j=a.length)∧SIn wr p s (i+j)∧At s r (i+j)∧k+j=s.length∧OnlyS [p] w wr)
 case atStart=>exact ⟨[],l,0,hid rfl,hid rfl,hid (by by_cases h9:m<0<;>simp<;>omega),hid rfl,H.out,HA.out,rfl,OnlyS.refl _ _⟩
 case round=>
  obtain ⟨a,r,j,HL,HD,HM,HJ,hrd,hat,hkk,hon⟩:=hrel
  have hjl:i+j≤s.length:=by have:=hat.len;omega
  have c0:=hrd.c0
  have c1:=hrd.c1
  have f1:=hrd.f1
  rw [show ((i+j:Nat):Int)=(i:Int)+(j:Int) by omega] at c1
  have HMD:=hid (show (s.take (i+j)).drop i=a by rw [HJ.out];exact mid_app HA.out HL.out)
  have hidx:((i:Int)+(j:Int)).toNat=i+j:=by omega
  have hsub:(i:Int)+(j:Int)-(i:Int)=(j:Int):=by omega
  by_cases hmn:m<0
  ·have e1:decide (m<0)=true:=decide_eq_true hmn
   cases r with
   | nil=>
    have hdec:decide ((i:Int)+(j:Int)<(s.length:Int))=false:=decide_eq_false (by have:=hat.len;simp at this;omega)
    have hdeN:¬ ((i:Int)+(j:Int)<(s.length:Int)):=by have:=hat.len;simp at this;omega
    have HR:=hid (show runE m f l=a by rw [HL.out];exact runE_stop HD.out HM.out (.inr fun c t e=>by cases e))
    clear hat
    go_wp2
    go_quiet ((exact Calls.quiet_of (HF.out _ _ (hon.trans (OnlyS.drewN _ _ _)))))
    go_wp2
    go_quiet (fail)
    go_wp2
    go_ret
    exact ⟨by rw [HR.out,← HMD.out,Lib.extract_mk];first | rfl|(rw [List.drop_take];rfl),by rw [HR.out,← HJ.out];exact hrd,hon.trans (by first | exact OnlyS.drewN _ _ _ | exact (OnlyS.drewN _ _ _).trans (OnlyS.drewN _ _ _))⟩
   | cons c t=>
    have hlt:(i:Int)+(j:Int)<(s.length:Int):=by have:=hat.lt;omega
    have hdec:decide ((i:Int)+(j:Int)<(s.length:Int))=true:=decide_eq_true hlt
    have hlN:i+j<s.length:=hat.lt
    have hg:∀ h',(⟨s.toArray⟩:ByteArray)[i+j]'h'=c:=hat.byte
    have HAT:=hid hat
    clear hat
    cases hc:f c with
    | true=>
     have HW:=hid (show ∀ u,OnlyS [p] w u→Calls Tryz.prog k #[.int .u8 (c.toNat:Nat),cx] u fun e w'=>e=.returned (.bool true)∧∃ n,w'=u.drewN n from fun u hu=>by rw [← hc];exact HF.out c u hu)
     have HC:=hid hc
     clear hc
     go_wp2
     go_quiet ((exact Calls.quiet_of (HW.out _ (hon.trans (OnlyS.drewN _ _ _)))))
     go_wp2
     go_roundg (s.length-(j+1))
     case measure=>omega
     case rel=>exact ⟨a++[c],t,j+1,hid (by rw [HL.out,List.append_assoc];rfl),hid (by rw [List.all_append,HD.out,List.all_cons,HC.out];rfl),hid (by rw [List.length_append,← HJ.out];simp;omega),hid (by rw [List.length_append,← HJ.out];rfl),SIn.put (i:=i+j) hrd (i+(j+1)) (by omega),HAT.out.tail,by omega,hon.trans ((OnlyS.drewN _ _ _).trans (OnlyS.set (by simp) _))⟩
    | false=>
     have HW:=hid (show ∀ u,OnlyS [p] w u→Calls Tryz.prog k #[.int .u8 (c.toNat:Nat),cx] u fun e w'=>e=.returned (.bool false)∧∃ n,w'=u.drewN n from fun u hu=>by rw [← hc];exact HF.out c u hu)
     have HR:=hid (show runE m f l=a by rw [HL.out];exact runE_stop HD.out HM.out (.inr fun c' t' e=>by cases e;exact hc))
     have hat:=HAT.out
     clear hc
     clear hat
     go_wp2
     go_quiet ((exact Calls.quiet_of (HW.out _ (hon.trans (OnlyS.drewN _ _ _)))))
     go_wp2
     go_quiet (fail)
     go_wp2
     go_ret
     exact ⟨by rw [HR.out,← HMD.out,Lib.extract_mk];first | rfl|(rw [List.drop_take];rfl),by rw [HR.out,← HJ.out];exact hrd,hon.trans (by first | exact OnlyS.drewN _ _ _ | exact (OnlyS.drewN _ _ _).trans (OnlyS.drewN _ _ _))⟩
  ·have e1:decide (m<0)=false:=decide_eq_false hmn
   by_cases hjm:(j:Int)<m
   ·have e2:decide ((j:Int)<m)=true:=decide_eq_true hjm
    cases r with
    | nil=>
     have hdec:decide ((i:Int)+(j:Int)<(s.length:Int))=false:=decide_eq_false (by have:=hat.len;simp at this;omega)
     have hdeN:¬ ((i:Int)+(j:Int)<(s.length:Int)):=by have:=hat.len;simp at this;omega
     have HR:=hid (show runE m f l=a by rw [HL.out];exact runE_stop HD.out HM.out (.inr fun c t e=>by cases e))
     clear hat
     go_wp2
     go_quiet ((exact Calls.quiet_of (HF.out _ _ (hon.trans (OnlyS.drewN _ _ _)))))
     go_wp2
     go_quiet (fail)
     go_wp2
     go_ret
     exact ⟨by rw [HR.out,← HMD.out,Lib.extract_mk];first | rfl|(rw [List.drop_take];rfl),by rw [HR.out,← HJ.out];exact hrd,hon.trans (by first | exact OnlyS.drewN _ _ _ | exact (OnlyS.drewN _ _ _).trans (OnlyS.drewN _ _ _))⟩
    | cons c t=>
     have hlt:(i:Int)+(j:Int)<(s.length:Int):=by have:=hat.lt;omega
     have hdec:decide ((i:Int)+(j:Int)<(s.length:Int))=true:=decide_eq_true hlt
     have hlN:i+j<s.length:=hat.lt
     have hg:∀ h',(⟨s.toArray⟩:ByteArray)[i+j]'h'=c:=hat.byte
     have HAT:=hid hat
     clear hat
     cases hc:f c with
     | true=>
      have HW:=hid (show ∀ u,OnlyS [p] w u→Calls Tryz.prog k #[.int .u8 (c.toNat:Nat),cx] u fun e w'=>e=.returned (.bool true)∧∃ n,w'=u.drewN n from fun u hu=>by rw [← hc];exact HF.out c u hu)
      have HC:=hid hc
      clear hc
      go_wp2
      go_quiet ((exact Calls.quiet_of (HW.out _ (hon.trans (OnlyS.drewN _ _ _)))))
      go_wp2
      go_roundg (s.length-(j+1))
      case measure=>omega
      case rel=>exact ⟨a++[c],t,j+1,hid (by rw [HL.out,List.append_assoc];rfl),hid (by rw [List.all_append,HD.out,List.all_cons,HC.out];rfl),hid (by rw [List.length_append,← HJ.out];simp;omega),hid (by rw [List.length_append,← HJ.out];rfl),SIn.put (i:=i+j) hrd (i+(j+1)) (by omega),HAT.out.tail,by omega,hon.trans ((OnlyS.drewN _ _ _).trans (OnlyS.set (by simp) _))⟩
     | false=>
      have HW:=hid (show ∀ u,OnlyS [p] w u→Calls Tryz.prog k #[.int .u8 (c.toNat:Nat),cx] u fun e w'=>e=.returned (.bool false)∧∃ n,w'=u.drewN n from fun u hu=>by rw [← hc];exact HF.out c u hu)
      have HR:=hid (show runE m f l=a by rw [HL.out];exact runE_stop HD.out HM.out (.inr fun c' t' e=>by cases e;exact hc))
      have hat:=HAT.out
      clear hc
      clear hat
      go_wp2
      go_quiet ((exact Calls.quiet_of (HW.out _ (hon.trans (OnlyS.drewN _ _ _)))))
      go_wp2
      go_quiet (fail)
      go_wp2
      go_ret
      exact ⟨by rw [HR.out,← HMD.out,Lib.extract_mk];first | rfl|(rw [List.drop_take];rfl),by rw [HR.out,← HJ.out];exact hrd,hon.trans (by first | exact OnlyS.drewN _ _ _ | exact (OnlyS.drewN _ _ _).trans (OnlyS.drewN _ _ _))⟩
   ·have e2:decide ((j:Int)<m)=false:=decide_eq_false hjm
    have HR:=hid (show runE m f l=a by rw [HL.out];exact runE_stop HD.out HM.out (.inl ⟨by omega,by rw [← HJ.out];omega⟩))
    cases r with
    | nil=>
     have hdec:decide ((i:Int)+(j:Int)<(s.length:Int))=false:=decide_eq_false (by have:=hat.len;simp at this;omega)
     have hdeN:¬ ((i:Int)+(j:Int)<(s.length:Int)):=by have:=hat.len;simp at this;omega
     clear hat
     go_wp2
     go_quiet ((exact Calls.quiet_of (HF.out _ _ (hon.trans (OnlyS.drewN _ _ _)))))
     go_wp2
     go_quiet (fail)
     go_wp2
     go_ret
     exact ⟨by rw [HR.out,← HMD.out,Lib.extract_mk];first | rfl|(rw [List.drop_take];rfl),by rw [HR.out,← HJ.out];exact hrd,hon.trans (by first | exact OnlyS.drewN _ _ _ | exact (OnlyS.drewN _ _ _).trans (OnlyS.drewN _ _ _))⟩
    | cons c t=>
     have hlt:(i:Int)+(j:Int)<(s.length:Int):=by have:=hat.lt;omega
     have hdec:decide ((i:Int)+(j:Int)<(s.length:Int))=true:=decide_eq_true hlt
     have hlN:i+j<s.length:=hat.lt
     clear hat
     go_wp2
     go_quiet ((exact Calls.quiet_of (HF.out _ _ (hon.trans (OnlyS.drewN _ _ _)))))
     go_wp2
     go_quiet (fail)
     go_wp2
     go_ret
     exact ⟨by rw [HR.out,← HMD.out,Lib.extract_mk];first | rfl|(rw [List.drop_take];rfl),by rw [HR.out,← HJ.out];exact hrd,hon.trans (by first | exact OnlyS.drewN _ _ _ | exact (OnlyS.drewN _ _ _).trans (OnlyS.drewN _ _ _))⟩
end Go.Proofs.YtbilphfbfnohmaaGreatDoor.Pz
namespace Go.Proofs.YtbilphfbfnohmaaGreatDoor.Pz
open Go.RowKit
theorem calls_wrld {P:Program} {f:FuncId} {args:Array Value} {w:World} {Q:Ending→World→Prop} (h:∀ W,W=w→Calls P f args W Q):Calls P f args w Q:=h w rfl
theorem runE_pre (m:Int) (f:UInt8→Bool) (l:Str):runE m f l++l.drop (runE m f l).length=l:=by
 have h:runE m f l <+: l:=by
  unfold runE
  split
  ·exact List.takeWhile_prefix _
  ·exact (List.takeWhile_prefix _).trans (List.take_prefix _ _)
 obtain ⟨t,ht⟩:=h
 generalize runE m f l=a at ht ⊢
 subst ht
 simp
theorem At.run {s l:Str} {i:Nat} (h:At s l i) (m:Int) (f:UInt8→Bool):At s (l.drop (runE m f l).length) (i+(runE m f l).length):=by
 have h1:At s (runE m f l++l.drop (runE m f l).length) i:=by rw [runE_pre];exact h
 exact h1.app
def sgE (l:Str):Str:=runE 1 signC (l.dropWhile white)
def dgF (b:Nat) (x:UInt8):Bool:=decide (valE x<b)
def dgE (b:Nat) (l:Str):Str:=runE (-1) (dgF b) ((l.dropWhile white).drop (sgE l).length)
def restN (b:Nat) (l:Str):Str:=((l.dropWhile white).drop (sgE l).length).drop (dgE b l).length
def numIn (b:Nat) (l:Str):Str:=if sgE l=[45] then (negRes (readRes (dgE b l) b).1).1 else (readRes (dgE b l) b).1
structure NumOk (b:Nat) (l:Str):Prop where
 some:dgE b l≠[]
 read:(readRes (dgE b l) b).2=0
 len:(readRes (dgE b l) b).1.length≤1000000
 neg:sgE l=[45]→(negRes (readRes (dgE b l) b).1).2=0
theorem sgE_cases (l:Str):sgE l=[]∨sgE l=[45]∨sgE l=[43]:=by
 unfold sgE runE
 rw [if_neg (by omega),show (1:Int).toNat=1 from rfl]
 generalize l.dropWhile white=r
 cases r with
 | nil=>exact .inl rfl
 | cons c t=>
  rw [List.take_succ_cons,List.take_zero,List.takeWhile_cons]
  cases hc:signC c with
  | false=>exact .inl rfl
  | true=>
   rw [if_pos rfl]
   unfold signC at hc
   rw [Bool.or_eq_true,beq_iff_eq,beq_iff_eq] at hc
   rcases hc with rfl | rfl
   ·exact .inr (.inl rfl)
   ·exact .inr (.inr rfl)
set_option maxRecDepth 100000 in
set_option maxHeartbeats 4000000 in
theorem number_in {w:World} {p i:Nat} {s l:Str} {c:UInt8} {A:Int} (h:SIn w p s i) (ha:At s l i) (hs:s.length≤1000000) (hok:NumOk (baseC c) l) :
  Calls Tryz.prog 97 #[.pointer (some ⟨p,0,none⟩),.agg #[.int .i64 A,.string ⟨#[]⟩,.int .i64 0,.string ⟨#[]⟩,.int .i64 (-1),.int .i64 0,.bool false,.bool false,.int .u8 (c.toNat:Nat),.bool false,.string ⟨#[]⟩]] w fun e w'=>
   e=.returned (.tuple #[.string ⟨(numIn (baseC c) l).toArray⟩,.bool true])∧(∃ i',SIn w' p s i'∧At s (restN (baseC c) l) i')∧OnlyS [p] w w':=by
 have hmf:∀ (fn:Fn) (first cap:Array Value) (w:World),(Instr.makeFunc fn first cap).run Tryz.prog w=.ok (.func fn first cap) w:=fun _ _ _ _=>rfl
 obtain ⟨cs,hcs⟩:∃ cs:Array Value,cs=#[.int .i64 A,.string ⟨#[]⟩,.int .i64 0,.string ⟨#[]⟩,.int .i64 (-1),.int .i64 0,.bool false,.bool false,.int .u8 (c.toNat:Nat),.bool false,.string ⟨#[]⟩]:=⟨_,rfl⟩
 have hcv0:CvS (w.alloc (.cells cs 78)) w.heap.size cs:=heap_alloc_new _ _
 have hin0:SIn (w.alloc (.cells cs 78)) p s i:=h.below (belowS _ _)
 have hpl:=h.lt
 have hlo0:OnlyS [p] w (w.alloc (.cells cs 78)):=OnlyS.of (belowS _ _) _
 obtain ⟨w0,hw0⟩:∃ w0,w0=w.alloc (.cells cs 78):=⟨_,rfl⟩
 rw [← hw0] at hcv0 hin0 hlo0
 rw [hcs] at hw0
 have hpn:w.heap.size ∉ [p]:=by simp;omega
 have HW0:=hid hw0
 have HCV0:=hid hcv0
 have HLO0:=hid hlo0
 have HI:=hid (white_in hin0 ha hs)
 have HOK:=hid hok
 have HCS:=hid hcs
 clear hw0 hcv0 hin0 hlo0 hok hcs h ha
 go_enter Tryz.func97,Tryz.ntmps97
 go_wp2_with fail
 rw [← HW0.out]
 (with_reducible refine HI.out.mono ?_);rintro e w1 ⟨rfl,⟨i1,h1,a1⟩,ho1⟩
 have hcv1:=HCV0.out.on ho1 hpn
 have q8:=hcv1.cell 8 (v:=.int .u8 (c.toNat:Nat)) (by rw [HCS.out];rfl)
 have HB:=hid (base_c c w1)
 have HCV1:=hid hcv1
 have H1:=hid h1
 have A1:=hid a1
 have HO1:=hid (HLO0.out.trans ho1)
 clear hcv1 h1 a1 ho1 HI HCV0 HLO0
 go_wp2_with fail
 (with_reducible refine HB.out.mono ?_);rintro e w2 ⟨rfl,hw2⟩;subst hw2
 go_wp2_with fail
 refine calls_wrld ?_
 intro w3 hw3
 have hb23:Below w2.heap.size w2 w3:=by rw [hw3];exact belowS _ _
 have hbx:w3.heap[w2.heap.size]? = some (.cells #[.int .i64 (baseC c:Nat)] 3 (0,0)):=by rw [hw3];exact heap_alloc_new _ _
 clear hw3
 have h3:SIn w3 p s i1:=H1.out.below hb23
 have hcv3:CvS w3 w.heap.size cs:=(hb23.block _ HCV1.out.lt).trans HCV1.out
 have hpx:w2.heap.size ∉ [p]:=by have:=H1.out.lt;simp;omega
 have HO3:=hid (HO1.out.trans (OnlyS.of hb23 [p]))
 have hr1:=run_in0 h3 A1.out hs 1 (by omega) (by omega) signC 145 (enters_of Tryz.func145 (by kernel_rfl) rfl) (fun c u _=>(sign_in c u).mono (by rintro e w' ⟨rfl,rfl⟩;exact ⟨rfl,0,rfl⟩))
 have a4:=A1.out.run 1 signC
 obtain ⟨sg,hsg⟩:∃ sg,sg=sgE l:=⟨_,rfl⟩
 rw [show runE 1 signC (l.dropWhile white)=sg from hsg.symm] at hr1 a4
 have HR1:=hid hr1
 have A4:=hid a4
 have HSG:=hid hsg
 have HCV3:=hid hcv3
 have HBX:=hid hbx
 clear hr1 a4 hsg hcv3 hbx h3 hb23 H1 HCV1 HO1 HB q8
 (with_reducible refine HR1.out.mono ?_);rintro e w4 ⟨rfl,h4,ho4⟩
 have hcv4:=HCV3.out.on ho4 hpn
 have q4:=hcv4.cell 4 (v:=.int .i64 (-1)) (by rw [HCS.out];rfl)
 have hbx4:=ho4.cells HBX.out hpx
 have hr2:=run_in1 h4 A4.out hs (-1) (by omega) (by omega) (dgF (baseC c)) 146 (.pointer (some ⟨w2.heap.size,0,none⟩)) (enters_of Tryz.func146 (by kernel_rfl) rfl) (fun x u hu=>fits_in x (by rw [Lib.cell_of_heap (hu.cells hbx4 hpx)];rfl))
 have a5:=A4.out.run (-1) (dgF (baseC c))
 obtain ⟨dg,hdg⟩:∃ dg,dg=dgE (baseC c) l:=⟨_,rfl⟩
 rw [show runE (-1) (dgF (baseC c)) ((l.dropWhile white).drop sg.length)=dg by rw [hdg,HSG.out];rfl] at hr2 a5
 have hdl:dg.length≤1000000:=by have:=a5.len;omega
 have HR2:=hid hr2
 have A5:=hid a5
 have HDG:=hid hdg
 have HBX4:=hid hbx4
 have HO4:=hid (HO3.out.trans ho4)
 clear hr2 a5 hdg hcv4 hbx4 ho4 h4 HCV3 HBX HR1 A4 HO3
 go_wp2_with fail
 (with_reducible refine HR2.out.mono ?_);rintro e w5 ⟨rfl,h5,ho5⟩
 have hbx5:=HBX4.out
 have hbx5:=ho5.cells hbx5 hpx
 have b5:w5.cell? ⟨w2.heap.size,0,none⟩=some (.int .i64 (baseC c:Nat)):=by rw [Lib.cell_of_heap hbx5];rfl
 have hem:dg.isEmpty=false:=by
  rw [HDG.out]
  cases hd:dgE (baseC c) l with
  | nil=>exact absurd hd HOK.out.some
  | cons x t=>rfl
 have HRB:=hid (read_big dg (by omega) (baseC c:Nat) w5)
 have H5:=hid h5
 have HO5:=hid (HO4.out.trans ho5)
 clear q4 h5 ho5 hbx5 HBX4 HO4 HR2
 go_wp2_with fail
 (with_reducible refine HRB.out.mono ?_);rintro e w6 ⟨rfl,hb6⟩
 have hz:(readRes dg (baseC c:Nat)).2=0:=by rw [HDG.out];exact HOK.out.read
 have hzl:(readRes dg (baseC c:Nat)).1.length≤1000000:=by rw [HDG.out];exact HOK.out.len
 have hng:sg=[45]→(negRes (readRes dg (baseC c:Nat)).1).2=0:=by
  intro e9
  rw [HDG.out]
  exact HOK.out.neg (by rw [← HSG.out];exact e9)
 have hnum:numIn (baseC c) l=if sg=[45] then (negRes (readRes dg (baseC c:Nat)).1).1 else (readRes dg (baseC c:Nat)).1:=by rw [HDG.out,HSG.out];rfl
 have hrest:restN (baseC c) l=((l.dropWhile white).drop sg.length).drop dg.length:=by rw [HDG.out,HSG.out];rfl
 have hsgc:sg=[]∨sg=[45]∨sg=[43]:=by rw [HSG.out];exact sgE_cases l
 have h6:SIn w6 p s (i1+sg.length+dg.length):=H5.out.below hb6
 have HO6:=hid (HO5.out.trans (OnlyS.of hb6 [p]))
 obtain ⟨n,hn⟩:∃ n,n=(readRes dg (baseC c:Nat)).1:=⟨_,rfl⟩
 rw [← hn] at hzl hng hnum ⊢
 rw [hz]
 have HNUM:=hid hnum
 have HREST:=hid hrest
 have H6:=hid h6
 have HNG:=hid hng
 clear hz hnum hrest h6 hng hn HRB H5 HO5 HDG HSG hb6 b5
 rcases hsgc with rfl | rfl | rfl
 ·go_wp2
  go_ret2
  exact ⟨by rw [HNUM.out];rfl,⟨_,H6.out,by rw [HREST.out];exact A5.out⟩,HO6.out⟩
 ·have HNB:=hid (neg_fn n (by omega) w6)
  have hz2:=HNG.out rfl
  obtain ⟨n2,hn2⟩:∃ n2,n2=(negRes n).1:=⟨_,rfl⟩
  have hnu2:numIn (baseC c) l=n2:=by rw [HNUM.out,hn2];rfl
  rw [hz2,← hn2] at HNB
  have HNU2:=hid hnu2
  clear hz2 hn2 hnu2
  go_wp2_with fail
  (with_reducible refine HNB.out.mono ?_);rintro e w7 ⟨rfl,hb7⟩
  go_wp2
  go_ret2
  exact ⟨by rw [HNU2.out];rfl,⟨_,H6.out.below hb7,by rw [HREST.out];exact A5.out⟩,HO6.out.trans (OnlyS.of hb7 _)⟩
 ·go_wp2
  go_ret2
  exact ⟨by rw [HNUM.out];rfl,⟨_,H6.out,by rw [HREST.out];exact A5.out⟩,HO6.out⟩
end Go.Proofs.YtbilphfbfnohmaaGreatDoor.Pz
namespace Go.Proofs.YtbilphfbfnohmaaGreatDoor.Pz
open Go.RowKit
def plainE:Str→Str→Bool×Str
 | [],l=>(true,l)
 | c::t,l=>if white c then plainE t (l.dropWhile white) else match l with
  | []=>(false,[])
  | x::r=>if x == c then plainE t r else (false,x::r)
theorem plainE_white {c:UInt8} (h:white c=true) (t l:Str):plainE (c::t) l=plainE t (l.dropWhile white):=by
 rw [plainE.eq_def]
 show (if white c then _ else _)=_
 rw [if_pos h]
theorem plainE_nil {c:UInt8} (h:white c=false) (t:Str):plainE (c::t) []=(false,[]):=by
 rw [plainE.eq_def]
 show (if white c then _ else _)=_
 rw [if_neg (by rw [h];simp)]
theorem plainE_eq {c:UInt8} (h:white c=false) (t r:Str):plainE (c::t) (c::r)=plainE t r:=by
 rw [plainE.eq_def]
 show (if white c then _ else if c == c then _ else _)=_
 rw [if_neg (by rw [h];simp),if_pos (by simp)]
theorem plainE_ne {c x:UInt8} (h:white c=false) (hx:x≠c) (t r:Str):plainE (c::t) (x::r)=(false,x::r):=by
 rw [plainE.eq_def]
 show (if white c then _ else if x == c then _ else _)=_
 rw [if_neg (by rw [h];simp),if_neg (by simpa using hx)]
set_option maxRecDepth 100000 in
set_option maxHeartbeats 4000000 in
theorem plain_in {w:World} {p i:Nat} {s l:Str} (h:SIn w p s i) (ha:At s l i) (hs:s.length≤1000000) (q:Str) (hq:q.length≤1000000) :
    Calls Tryz.prog 55 #[.pointer (some ⟨p,0,none⟩),.string ⟨q.toArray⟩] w fun e w'=>e=.returned (.bool (plainE q l).1)∧(∃ i',SIn w' p s i'∧At s (plainE q l).2 i')∧OnlyS [p] w w':=by
  have hsz:(⟨s.toArray⟩:ByteArray).size=s.length:=by rw [Lib.size_mk]
  have hsq:(⟨q.toArray⟩:ByteArray).size=q.length:=by rw [Lib.size_mk]
  go_enter Tryz.func55,Tryz.ntmps55
  go_wp2_with fail
  go_loopg [5,8] q.length (fun k v5 v8 wr=>∃ (a t r:Str) (n j:Nat),Hid (q=a++t)∧Hid (n=a.length)∧v8=.int .i64 (n:Nat)∧SIn wr p s j∧At s r j∧k+n=q.length∧Hid (plainE t r=plainE q l)∧OnlyS [p] w wr)
  case atStart=>exact ⟨[],q,l,0,i,hid rfl,hid rfl,rfl,h,ha,rfl,hid rfl,OnlyS.refl _ _⟩
  case round=>
    obtain ⟨a,t,r,n,j,HQ,HN,rfl,hrd,hat,hkn,HR,hon⟩:=hrel
    clear h ha
    cases t with
    | nil=>
      have hn:n=q.length:=by rw [HQ.out,HN.out];simp
      have hdec:decide ((n:Int)<(q.length:Int))=false:=decide_eq_false (by omega)
      have hdN:decide (n<q.length)=false:=decide_eq_false (by omega)
      have HR2:=hid (show plainE q l=(true,r) by rw [← HR.out];rfl)
      have HAT:=hid hat
      clear hn hat
      go_wp2
      go_ret
      exact ⟨by rw [HR2.out];rfl,⟨j,hrd,by rw [HR2.out];exact HAT.out⟩,hon⟩
    | cons c t=>
      have hnl:n<q.length:=by rw [HQ.out,HN.out];simp
      have hnI:(n:Int)<(q.length:Int):=by omega
      have hdec:decide ((n:Int)<(q.length:Int))=true:=decide_eq_true (by omega)
      have hgq:∀ h',(⟨q.toArray⟩:ByteArray)[n]'h'=c:=by
        have h9:At q (c::t) n:=⟨by rw [HQ.out,HN.out];simp,by rw [HQ.out,HN.out];simp⟩
        exact h9.byte
      have HQ2:=hid (show q=(a++[c])++t by rw [HQ.out,List.append_assoc];rfl)
      have HN2:=hid (show n+1=(a++[c]).length by rw [HN.out,List.length_append];rfl)
      have hk2:q.length-(n+1)+(n+1)=q.length:=by omega
      cases hc:white c with
      | true=>
        have HW:=hid (show ∀ w,Calls Tryz.prog 95 #[.int .u8 (c.toNat:Nat)] w fun e w'=>e=.returned (.bool true)∧w'=w from fun w=>by rw [← hc];exact white_fn c w)
        have HI:=hid (white_in hrd hat hs)
        have HR2:=hid (show plainE t (r.dropWhile white)=plainE q l by rw [← HR.out,plainE_white hc])
        clear hc hat hrd
        go_wp2_with ((with_reducible refine (HW.out _).mono ?_);rintro e w1 ⟨rfl,rfl⟩)
        go_wp2_with fail
        (with_reducible refine HI.out.mono ?_);rintro e w2 ⟨rfl,⟨j2,hrd2,hat2⟩,ho2⟩
        go_wp2
        go_roundg (q.length-(n+1))
        case measure=>omega
        case rel=>exact ⟨a++[c],t,_,n+1,j2,HQ2,HN2,by go_num,hrd2,hat2,hk2,HR2,hon.trans ho2⟩
      | false=>
        have HW:=hid (show ∀ w,Calls Tryz.prog 95 #[.int .u8 (c.toNat:Nat)] w fun e w'=>e=.returned (.bool false)∧w'=w from fun w=>by rw [← hc];exact white_fn c w)
        have c0:=hrd.c0
        have c1:=hrd.c1
        have f1:=hrd.f1
        cases r with
        | nil=>
          have hde2:decide ((j:Int)<(s.length:Int))=false:=decide_eq_false (by have:=hat.len;simp at this;omega)
          have hdeN:¬ ((j:Int)<(s.length:Int)):=by have:=hat.len;simp at this;omega
          have hdN:decide (j<s.length)=false:=decide_eq_false (by omega)
          have HR2:=hid (show plainE q l=(false,[]) by rw [← HR.out,plainE_nil hc])
          have HAT:=hid hat
          clear hc hat
          go_wp2_with ((with_reducible refine (HW.out _).mono ?_);rintro e w1 ⟨rfl,rfl⟩)
          go_quiet (fail)
          go_wp2
          go_ret
          exact ⟨by rw [HR2.out];rfl,⟨j,hrd.drewN _,by rw [HR2.out];exact HAT.out⟩,hon.trans (OnlyS.drewN _ _ _)⟩
        | cons x r=>
          have hlt:(j:Int)<(s.length:Int):=by have:=hat.lt;omega
          have hlN:j<s.length:=hat.lt
          have hg:∀ h',(⟨s.toArray⟩:ByteArray)[j]'h'=x:=hat.byte
          have HAT:=hid hat
          clear hat
          by_cases hx:x=c
          · have hxc:((x.toNat:Int) == (c.toNat:Int))=true:=by rw [hx];simp
            have HR2:=hid (show plainE t r=plainE q l by rw [← HR.out,hx,plainE_eq hc])
            clear hc hx
            go_wp2_with ((with_reducible refine (HW.out _).mono ?_);rintro e w1 ⟨rfl,rfl⟩)
            go_quiet (fail)
            go_wp2
            go_roundg (q.length-(n+1))
            case measure=>omega
            case rel=>exact ⟨a++[c],t,r,n+1,j+1,HQ2,HN2,by go_num,SIn.put (i:=j) hrd (j+1) (by omega),HAT.out.tail,hk2,HR2,hon.trans ((OnlyS.drewN _ _ _).trans (OnlyS.set (by simp) _))⟩
          · have hxc : ((x.toNat : Int) == (c.toNat : Int)) = false := by
              rw [beq_eq_false_iff_ne]
              intro e
              exact hx (UInt8.toNat_inj.1 (by omega))
            have HR2:=hid (show plainE q l=(false,x::r) by rw [← HR.out,plainE_ne hc hx])
            clear hc hx
            go_wp2_with ((with_reducible refine (HW.out _).mono ?_);rintro e w1 ⟨rfl,rfl⟩)
            go_quiet (fail)
            go_wp2
            go_ret
            exact ⟨by rw [HR2.out];rfl,⟨j,hrd.drewN _,by rw [HR2.out];exact HAT.out⟩,hon.trans (OnlyS.drewN _ _ _)⟩
end Go.Proofs.YtbilphfbfnohmaaGreatDoor.Pz
namespace Go.Proofs.YtbilphfbfnohmaaGreatDoor.Pz
open Go.RowKit
def darkC (c:UInt8):Bool:=!white c
def readIn (c:UInt8) (l:Str):Str×Str:=if c=115 then (runE (-1) darkC (l.dropWhile white),(l.dropWhile white).drop (runE (-1) darkC (l.dropWhile white)).length) else (numIn (baseC c) l,restN (baseC c) l)
def ReadOk (c:UInt8) (l:Str):Prop:=if c=115 then runE (-1) darkC (l.dropWhile white)≠[] else NumOk (baseC c) l
set_option maxRecDepth 1000000 in
set_option maxHeartbeats 4000000 in
theorem read_in {w:World} {p i:Nat} {s l:Str} {c:UInt8} {A:Int} (h:SIn w p s i) (ha:At s l i) (hs:s.length≤1000000) (hc:isLet true c=true) (hok:ReadOk c l) :
  Calls Tryz.prog 56 #[.pointer (some ⟨p,0,none⟩),.agg #[.int .i64 A,.string ⟨#[]⟩,.int .i64 0,.string ⟨#[]⟩,.int .i64 (-1),.int .i64 0,.bool false,.bool false,.int .u8 (c.toNat:Nat),.bool false,.string ⟨#[]⟩]] w fun e w'=>
   e=.returned (.tuple #[.string ⟨(readIn c l).1.toArray⟩,.bool true])∧(∃ i',SIn w' p s i'∧At s (readIn c l).2 i')∧OnlyS [p] w w':=by
 obtain ⟨cs,hcs⟩:∃ cs:Array Value,cs=#[.int .i64 A,.string ⟨#[]⟩,.int .i64 0,.string ⟨#[]⟩,.int .i64 (-1),.int .i64 0,.bool false,.bool false,.int .u8 (c.toNat:Nat),.bool false,.string ⟨#[]⟩]:=⟨_,rfl⟩
 have hcv0:CvS (w.alloc (.cells cs 78)) w.heap.size cs:=heap_alloc_new _ _
 have hin0:SIn (w.alloc (.cells cs 78)) p s i:=h.below (belowS _ _)
 have hpl:=h.lt
 have hlo0:OnlyS [p] w (w.alloc (.cells cs 78)):=OnlyS.of (belowS _ _) _
 obtain ⟨w0,hw0⟩:∃ w0,w0=w.alloc (.cells cs 78):=⟨_,rfl⟩
 rw [← hw0] at hcv0 hin0 hlo0
 rw [hcs] at hw0
 have hpn:w.heap.size ∉ [p]:=by simp;omega
 have HW0:=hid hw0
 have HCV0:=hid hcv0
 have HLO0:=hid hlo0
 have HIN0:=hid hin0
 have HA:=hid ha
 have q0:=hcv0.cell 0 (v:=.int .i64 A) (by rw [hcs];rfl)
 have q1:=hcv0.cell 1 (v:=.string ⟨#[]⟩) (by rw [hcs];rfl)
 have q2:=hcv0.cell 2 (v:=.int .i64 0) (by rw [hcs];rfl)
 have q3:=hcv0.cell 3 (v:=.string ⟨#[]⟩) (by rw [hcs];rfl)
 have q4:=hcv0.cell 4 (v:=.int .i64 (-1)) (by rw [hcs];rfl)
 have q5:=hcv0.cell 5 (v:=.int .i64 0) (by rw [hcs];rfl)
 have q6:=hcv0.cell 6 (v:=.bool false) (by rw [hcs];rfl)
 have q7:=hcv0.cell 7 (v:=.bool false) (by rw [hcs];rfl)
 have q8:=hcv0.cell 8 (v:=.int .u8 (c.toNat:Nat)) (by rw [hcs];rfl)
 have q9:=hcv0.cell 9 (v:=.bool false) (by rw [hcs];rfl)
 have q10:=hcv0.cell 10 (v:=.string ⟨#[]⟩) (by rw [hcs];rfl)
 have HCS:=hid hcs
 by_cases h115:c=115
 ·have hok2:runE (-1) darkC (l.dropWhile white)≠[]:=by unfold ReadOk at hok;rw [if_pos h115] at hok;exact hok
  have hrd:readIn c l=(runE (-1) darkC (l.dropWhile white),(l.dropWhile white).drop (runE (-1) darkC (l.dropWhile white)).length):=if_pos h115
  have HI:=hid (white_in hin0 ha hs)
  have HOK:=hid hok2
  have HRD:=hid hrd
  clear hw0 hcv0 hin0 hlo0 hok hok2 hcs h ha hrd hc q0 q1 q2 q3 q4 q5 q6 q7 q9 q10
  subst h115
  rw [show (((115:UInt8).toNat:Nat):Int)=115 from rfl] at HW0 q8 HCS
  go_enter Tryz.func56,Tryz.ntmps56
  go_wp2_with fail
  rw [← HW0.out]
  (with_reducible refine HI.out.mono ?_);rintro e w1 ⟨rfl,⟨i1,h1,a1⟩,ho1⟩
  have hcv1:=HCV0.out.on ho1 hpn
  have q4:=hcv1.cell 4 (v:=.int .i64 (-1)) (by rw [HCS.out];rfl)
  have hr1:=run_in0 h1 a1 hs (-1) (by omega) (by omega) darkC 99 (enters_of Tryz.func99 (by kernel_rfl) rfl) (fun c u _=>(dark_in c u).mono (by rintro e w' ⟨rfl,rfl⟩;exact ⟨rfl,0,rfl⟩))
  have a2:=a1.run (-1) darkC
  obtain ⟨rs,hrs⟩:∃ rs,rs=runE (-1) darkC (l.dropWhile white):=⟨_,rfl⟩
  have hok3:=HOK.out
  have hrd3:=HRD.out
  rw [← hrs] at hr1 a2 hok3 hrd3
  have hem:rs.isEmpty=false:=by
   cases rs with
   | nil=>exact absurd rfl hok3
   | cons x t=>rfl
  have HR1:=hid hr1
  have A2:=hid a2
  have HRD3:=hid hrd3
  have HO1:=hid (HLO0.out.trans ho1)
  clear hr1 a2 hok3 hrd3 hcv1 ho1 h1 a1 hrs HRD HOK HCV0 HLO0 q8
  go_wp2_with fail
  (with_reducible refine HR1.out.mono ?_);rintro e w2 ⟨rfl,h2,ho2⟩
  go_wp2
  go_ret2
  exact ⟨by rw [HRD3.out];simp,⟨_,h2,by rw [HRD3.out];exact A2.out⟩,HO1.out.trans ho2⟩
 ·have hok2:NumOk (baseC c) l:=by unfold ReadOk at hok;rw [if_neg h115] at hok;exact hok
  have hrd:readIn c l=(numIn (baseC c) l,restN (baseC c) l):=if_neg h115
  have HI:=hid (number_in (A:=A) hin0 ha hs hok2)
  have HRD:=hid hrd
  have HC:=hid hc
  clear hw0 hcv0 hin0 hlo0 hok hok2 hcs h ha hrd hc HCV0 HIN0 HA HCS
  rcases isLet_scan HC.out with rfl | rfl | rfl | rfl | rfl
  case inr.inr.inr.inr=>exact absurd rfl h115
  all_goals
   clear h115
   first
    | rw [show (((100:UInt8).toNat:Nat):Int)=100 from rfl] at HW0 HI q8
    | rw [show (((120:UInt8).toNat:Nat):Int)=120 from rfl] at HW0 HI q8
    | rw [show (((111:UInt8).toNat:Nat):Int)=111 from rfl] at HW0 HI q8
    | rw [show (((98:UInt8).toNat:Nat):Int)=98 from rfl] at HW0 HI q8
   go_enter Tryz.func56,Tryz.ntmps56
   go_wp2_with fail
   rw [← HW0.out]
   (with_reducible refine HI.out.mono ?_);rintro e w1 ⟨rfl,hin,ho1⟩
   go_wp2
   go_ret2
   exact ⟨by rw [HRD.out];rfl,by rw [HRD.out];exact hin,HLO0.out.trans ho1⟩
end Go.Proofs.YtbilphfbfnohmaaGreatDoor.Pz
