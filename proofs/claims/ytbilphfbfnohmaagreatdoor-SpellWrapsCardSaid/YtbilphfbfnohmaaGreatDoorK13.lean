/-
  Part K13 of the proofs of this seat, merged by a program out of 5 texts; remarks are struck.
-/
import Derived.Shelf.Strings.OnBuilder
import Derived.Shelf.LaysM
import Derived.Test.YtbilphfbfnohmaaGreatDoorProg
import Derived.Test.YtbilphfbfnohmaaGreatDoorK11
import Derived.Test.YtbilphfbfnohmaaGreatDoorK9
namespace Go.Proofs.YtbilphfbfnohmaaGreatDoor.Pz
open Go.RowKit
def wordsGo:Str→Str→List Str
 | p,[]=>if p=[] then [] else [p]
 | p,c::t=>if white c then (if p=[] then wordsGo [] t else p::wordsGo [] t) else wordsGo (p++[c]) t
def wordsE (s:Str):List Str:=wordsGo [] s
theorem wordsGo_cons (p:Str) (c:UInt8) (t:Str):wordsGo p (c::t)=if white c then (if p=[] then wordsGo [] t else p::wordsGo [] t) else wordsGo (p++[c]) t:=rfl
set_option maxRecDepth 100000 in
set_option maxHeartbeats 2000000 in
theorem wordsP_fn (s:Str) (hs:s.length≤1000000) (w:World):Calls Tryz.prog 64 #[.string ⟨s.toArray⟩] w fun e w'=>∃ v,e=.returned v∧RowS w.heap.size w' v (wordsE s)∧Below w.heap.size w w':=by
  have hsz:(⟨s.toArray⟩:ByteArray).size=s.length:=Lib.size_mk _
  obtain ⟨R,hR⟩:∃ R,R=wordsE s:=⟨_,rfl⟩
  rw [← hR]
  have HR:=hid hR
  clear hR
  go_enter Tryz.func64,Tryz.ntmps64
  go_wp2_with fail
  go_loopg [3,4,5] (s.length+1) (fun k ov bv iv wr=>∃ (i b:Nat) (out:List Str),iv=.int .i64 (i:Nat)∧bv=.int .i64 (b:Nat)∧RowS w.heap.size wr ov out∧Below w.heap.size w wr∧k=s.length+1-i∧
    ((∃ (p l:Str),At s l i∧b≤i∧p=(s.take i).drop b∧R=out++wordsGo p l∧out.length≤i)∨(i=s.length+1∧out=R)))
  case atStart=>exact ⟨0,0,[],rfl,rfl,RowS.nil _ _,Below.refl _ _,rfl,.inl ⟨[],s,At.start s,Nat.le_refl _,by simp,by rw [HR.out];rfl,Nat.le_refl _⟩⟩
  case round=>
    obtain ⟨i,b,out,rfl,rfl,hrow,hbl,rfl,hc⟩:=hrel
    obtain ⟨ao,co,hov⟩:=hrow.shape
    subst hov
    have HROW:=hid hrow
    have HBL:=hid hbl
    rcases hc with ⟨p,l,ha,hbi,hp,hR,hol⟩ | ⟨rfl,hout⟩
    · have hpl : p.length = i - b := by
        have:=ha.len
        rw [hp,List.length_drop,List.length_take]
        omega
      have hlen:=ha.len
      have HA:=hid ha
      have HP:=hid hp
      have HRR:=hid hR
      have hex:(⟨s.toArray⟩:ByteArray).extract b i=⟨p.toArray⟩:=by rw [Lib.extract_mk,hp,List.drop_take]
      have hile:(i:Int)≤(s.length:Int):=by omega
      have hnl:out.length≤10000000:=by omega
      have hBr:w.heap.size≤wr.heap.size:=hbl.size
      clear hrow hbl ha hp hR
      cases l with
      | nil=>
        have hie:i=s.length:=by simpa using hlen
        by_cases hp0:p=[]
        · have hbe:¬ ((b:Int)<(i:Int)):=by rw [hp0] at hpl;simp at hpl;omega
          have HI:=hid hie
          have HP0:=hid hp0
          clear hie hp0
          have hii:((i:Int) == (s.length:Int))=true:=by rw [beq_iff_eq];have:=HI.out;omega
          go_wp2
          go_roundg 0
          case measure=>have:=HI.out;omega
          case rel=>exact ⟨i+1,i+1,out,by go_num,by go_num,HROW.out,HBL.out,by have:=HI.out;omega,.inr ⟨by rw [HI.out],by rw [HRR.out,HP0.out];simp [wordsGo]⟩⟩
        · have hp1:0<p.length:=List.length_pos_iff.2 hp0
          have hbe:(b:Int)<(i:Int):=by omega
          have HI:=hid hie
          have HP0:=hid hp0
          clear hie hp0
          have hii:((i:Int) == (s.length:Int))=true:=by rw [beq_iff_eq];have:=HI.out;omega
          go_wp2_with (at_builtin;refine app_one rfl rfl (.tmp 25) (.tmp 30) rfl w.heap.size _ _ p rfl HROW.out rfl hBr hnl ?_;intro v9 w9 hr9 hg9 hv9;have HR9:=hid hr9;have HG9:=hid hg9;have HV9:=hid hv9;clear hr9 hg9 hv9)
          go_roundg 0
          case measure=>have:=HI.out;omega
          case rel=>exact ⟨i+1,i+1,out++[p],by go_num,by go_num,HR9.out,HBL.out.grown HG9.out hBr (fun k hk=>(HROW.out.lt k hk).2),by have:=HI.out;omega,.inr ⟨by rw [HI.out],by rw [HRR.out];show out++[p]=out++(if p=[] then [] else [p]);rw [if_neg HP0.out]⟩⟩
      | cons c t=>
        have hlt:=HA.out.lt
        have hx:=HA.out.byte
        have hii:((i:Int) == (s.length:Int))=false:=by rw [beq_eq_false_iff_ne];omega
        have hwf:=white_fn c wr
        have hR2:=HRR.out
        rw [wordsGo_cons] at hR2
        have hp2:(s.take (i+1)).drop b=p++[c]:=by
          rw [HP.out,← List.take_append_getElem hlt,List.drop_append_of_le_length (by rw [List.length_take];omega)]
          have h9:=HA.out.head
          rw [List.getElem?_eq_getElem hlt] at h9
          rw [Option.some.inj h9]
        have HP2:=hid hp2
        have hkk:s.length+1-(i+1)<s.length+1-i:=by omega
        clear hp2
        cases hw:white c with
        | true=>
          rw [hw] at hwf hR2
          rw [if_pos rfl] at hR2
          have HWF:=hid hwf
          by_cases hp0:p=[]
          · rw [if_pos hp0] at hR2
            have hbe:¬ ((b:Int)<(i:Int)):=by rw [hp0] at hpl;simp at hpl;omega
            have HR2:=hid hR2
            clear hR2 hwf hp0 hw
            go_wp2_with ((with_reducible refine HWF.out.mono ?_);rintro e w1 ⟨rfl,hw⟩;subst hw)
            go_roundg (s.length+1-(i+1))
            case measure=>exact hkk
            case rel=>exact ⟨i+1,i+1,out,by go_num,by go_num,HROW.out,HBL.out,rfl,.inl ⟨[],t,HA.out.tail,Nat.le_refl _,by rw [List.drop_of_length_le (by rw [List.length_take];omega)],HR2.out,by omega⟩⟩
          · rw [if_neg hp0] at hR2
            have hp1:0<p.length:=List.length_pos_iff.2 hp0
            have hbe:(b:Int)<(i:Int):=by omega
            have HR2:=hid hR2
            clear hR2 hwf hp0 hw
            go_wp2_with (first|((with_reducible refine HWF.out.mono ?_);rintro e w1 ⟨rfl,hw⟩;subst hw)|(at_builtin;refine app_one rfl rfl (.tmp 25) (.tmp 30) rfl w.heap.size _ _ p rfl HROW.out rfl hBr hnl ?_;intro v9 w9 hr9 hg9 hv9;have HR9:=hid hr9;have HG9:=hid hg9;have HV9:=hid hv9;clear hr9 hg9 hv9))
            go_roundg (s.length+1-(i+1))
            case measure=>exact hkk
            case rel=>exact ⟨i+1,i+1,out++[p],by go_num,by go_num,HR9.out,HBL.out.grown HG9.out hBr (fun k hk=>(HROW.out.lt k hk).2),rfl,.inl ⟨[],t,HA.out.tail,Nat.le_refl _,by rw [List.drop_of_length_le (by rw [List.length_take];omega)],by rw [HR2.out];simp,by rw [List.length_append];simp;omega⟩⟩
        | false=>
          rw [hw] at hwf hR2
          rw [if_neg (by simp)] at hR2
          have HWF:=hid hwf
          have HR2:=hid hR2
          clear hR2 hwf hw
          go_wp2_with ((with_reducible refine HWF.out.mono ?_);rintro e w1 ⟨rfl,hw⟩;subst hw)
          go_roundg (s.length+1-(i+1))
          case measure=>exact hkk
          case rel=>exact ⟨i+1,b,out,by go_num,rfl,HROW.out,HBL.out,rfl,.inl ⟨p++[c],t,HA.out.tail,by omega,HP2.out.symm,HR2.out,by omega⟩⟩
    · have hile:¬ ((s.length:Int)+1≤(s.length:Int)):=by omega
      have HO:=hid hout
      clear hrow hbl hout
      go_wp2
      go_ret
      exact ⟨_,rfl,by rw [← HO.out];exact HROW.out,HBL.out⟩
theorem words_skip:∀ l:Str,wordsGo [] l=wordsGo [] (l.dropWhile white)
 | []=>rfl
 | c::t=>by
  cases h:white c with
  | true=>rw [List.dropWhile_cons_of_pos h,wordsGo_cons,if_pos h,if_pos rfl];exact words_skip t
  | false=>rw [List.dropWhile_cons_of_neg (by simp [h])]
theorem words_run:∀ (q p r:Str),(∀ c∈q,white c=false)→wordsGo p (q++r)=wordsGo (p++q) r
 | [],p,r,_=>by simp
 | c::q,p,r,h=>by
  rw [List.cons_append,wordsGo_cons,if_neg (by simp [h c (by simp)]),words_run q (p++[c]) r fun x hx=>h x (by simp [hx])]
  simp
theorem words_end (p r:Str) (hp:p≠[]) (hr:r=[]∨∃ c t,r=c::t∧white c=true):wordsGo p r=p::wordsGo [] r:=by
 rcases hr with rfl | ⟨c,t,rfl,hc⟩
 ·show (if p=[] then [] else [p])=_
  rw [if_neg hp]
  rfl
 ·rw [wordsGo_cons,if_pos hc,if_neg hp,wordsGo_cons,if_pos hc,if_pos rfl]
section
attribute [local go_sem] Oper.semAt_some
set_option maxRecDepth 100000 in
set_option maxHeartbeats 2000000 in
theorem whiteAt_fn (s l:Str) (hs:s.length≤1000000) (i:Nat) (ha:At s l i) (w:World):Calls Tryz.prog 115 #[.string ⟨s.toArray⟩,.int .i64 (i:Nat)] w fun e w'=>(∃ j:Nat,e=.returned (.int .i64 (j:Nat))∧At s (l.dropWhile white) j)∧w'=w:=by
 have hsz:(⟨s.toArray⟩:ByteArray).size=s.length:=Lib.size_mk _
 obtain ⟨R,hR⟩:∃ R,R=l.dropWhile white:=⟨_,rfl⟩
 rw [← hR]
 have HR:=hid hR
 have HA:=hid ha
 clear hR ha
 go_enter Tryz.func115,Tryz.ntmps115
 go_wp2_with fail
 go_loopg [1] l.length (fun k iv wr=>∃ (j:Nat) (m:Str),iv=.int .i64 (j:Nat)∧At s m j∧m.dropWhile white=R∧wr=w∧k=m.length)
 case atStart=>exact ⟨i,l,rfl,HA.out,HR.out.symm,rfl,rfl⟩
 case round=>
  obtain ⟨j,m,rfl,ha2,hm,hw,hk⟩:=hrel
  replace hk:=hk.symm
  subst hk
  subst hw
  have HA2:=hid ha2
  have HM:=hid hm
  have hlen:=ha2.len
  clear ha2 hm
  cases m with
  | nil=>
   have hjl:¬ ((j:Int)<(s.length:Int)):=by simp at hlen;omega
   go_wp2
   go_ret
   exact ⟨⟨j,rfl,by rw [← HM.out];exact HA2.out⟩,rfl⟩
  | cons c t=>
   have hlt:=HA2.out.lt
   have hltI:(j:Int)<(s.length:Int):=by omega
   have hx:=HA2.out.byte
   have hwf:=whiteR_fn c wr
   cases hw:white c with
   | true=>
    rw [hw] at hwf
    have HWF:=hid hwf
    have HM2:=hid (show t.dropWhile white=R by have h:=HM.out;rw [List.dropWhile_cons_of_pos hw] at h;exact h)
    have hkk:t.length<(c::t).length:=by simp
    clear hwf hw
    go_wp2_with (go_at_call 116;(with_reducible refine HWF.out.mono ?_);rintro e w3 ⟨rfl,rfl⟩)
    go_roundg t.length
    case measure=>exact hkk
    case rel=>exact ⟨j+1,t,by go_num,HA2.out.tail,HM2.out,rfl,rfl⟩
   | false=>
    rw [hw] at hwf
    have HWF:=hid hwf
    have HM2:=hid (show c::t=R by have h:=HM.out;rw [List.dropWhile_cons_of_neg (by rw [hw];decide)] at h;exact h)
    clear hwf hw
    go_wp2_with (go_at_call 116;(with_reducible refine HWF.out.mono ?_);rintro e w3 ⟨rfl,rfl⟩)
    go_ret
    exact ⟨⟨j,rfl,by rw [← HM2.out];exact HA2.out⟩,rfl⟩
theorem drop_white (l:Str):(l.dropWhile white).dropWhile white=l.dropWhile white:=by
 induction l with
 | nil=>rfl
 | cons c t ih=>
  cases h:white c with
  | true=>rw [List.dropWhile_cons_of_pos h];exact ih
  | false=>
   rw [List.dropWhile_cons_of_neg (by rw [h];decide),List.dropWhile_cons_of_neg (by rw [h];decide)]
theorem drop_white_len (l:Str):(l.dropWhile white).length≤l.length:=by
 induction l with
 | nil=>exact Nat.le_refl _
 | cons c t ih=>
  cases h:white c with
  | true=>rw [List.dropWhile_cons_of_pos h,List.length_cons];omega
  | false=>rw [List.dropWhile_cons_of_neg (by rw [h];decide)];exact Nat.le_refl _
set_option maxRecDepth 100000 in
set_option maxHeartbeats 4000000 in
theorem wordsR_fn (s:Str) (hs:s.length≤1000000) (w:World):Calls Tryz.prog 65 #[.string ⟨s.toArray⟩] w fun e w'=>∃ v,e=.returned v∧RowS w.heap.size w' v (wordsE s)∧Below w.heap.size w w':=by
 have hsz:(⟨s.toArray⟩:ByteArray).size=s.length:=Lib.size_mk _
 obtain ⟨R,hR⟩:∃ R,R=wordsE s:=⟨_,rfl⟩
 rw [← hR]
 have HR:=hid hR
 clear hR
 have HWA:=hid (fun l i ha u=>whiteAt_fn s l hs i ha u)
 go_enter Tryz.func65,Tryz.ntmps65
 go_wp2_with (go_at_call 115;refine (HWA.out s 0 (At.start s) _).mono ?_;rintro e w1 ⟨⟨j0,rfl,hj0⟩,hw⟩;subst hw)
 have HJ0:=hid hj0
 clear hj0
 go_loopg [3,4,5] (s.length+1-j0) (fun k ov iv ev wr=>∃ (i:Nat) (l:Str) (out:List Str),iv=.int .i64 (i:Nat)∧At s l i∧l.dropWhile white=l∧R=out++wordsGo [] l∧RowS w1.heap.size wr ov out∧Below w1.heap.size w1 wr∧out.length≤i∧k=s.length+1-i)
 case atStart=>exact ⟨j0,s.dropWhile white,[],rfl,HJ0.out,drop_white s,by rw [HR.out];exact words_skip s,RowS.nil _ _,Below.refl _ _,Nat.zero_le _,rfl⟩
 case round=>
  obtain ⟨i,l,out,rfl,ha,hdw,hR,hrow,hbl,hol,hk⟩:=hrel
  replace hk:=hk.symm
  subst hk
  obtain ⟨ao,co,hov⟩:=hrow.shape
  subst hov
  have HA:=hid ha
  have HDW:=hid hdw
  have HRR:=hid hR
  have HROW:=hid hrow
  have HBL:=hid hbl
  have hlen:=ha.len
  have hBr:w1.heap.size≤wr.heap.size:=hbl.size
  clear ha hdw hR hrow hbl HJ0
  cases l with
  | nil=>
   have hil:¬ ((i:Int)<(s.length:Int)):=by simp at hlen;omega
   go_wp2
   go_ret
   exact ⟨_,rfl,by rw [HRR.out];show RowS _ _ _ (out++[]);rw [List.append_nil];exact HROW.out,HBL.out⟩
  | cons c t=>
   have hdark:white c=false:=by
    cases h:white c with
    | false=>rfl
    | true=>
     have h2:=HDW.out
     rw [List.dropWhile_cons_of_pos h] at h2
     have h3:=drop_white_len t
     rw [h2,List.length_cons] at h3
     omega
   have HDK:=hid hdark
   have hlt:=HA.out.lt
   have hltI:(i:Int)<(s.length:Int):=by omega
   clear hdark HDW
   go_wp2_with fail
   go_loopg [5] (c::t).length (fun k ev w2=>∃ (j:Nat) (q r:Str),ev=.int .i64 (j:Nat)∧At s r j∧c::t=q++r∧(∀ x∈q,white x=false)∧j=i+q.length∧w2=wr∧k=r.length)
   case atStart=>exact ⟨i,[],c::t,rfl,HA.out,rfl,by simp,rfl,rfl,rfl⟩
   case round=>
    obtain ⟨j,q,r,rfl,har,hqr,hq,hj,hw2,hk⟩:=hrel
    replace hk:=hk.symm
    subst hk
    subst hw2
    have HAR:=hid har
    have HQR:=hid hqr
    have HQ:=hid hq
    have HJ:=hid hj
    have hlr:=har.len
    have HFIN:=hid (show (r=[]∨∃ c t,r=c::t∧white c=true)→1≤q.length∧R=(out++[q])++wordsGo [] (r.dropWhile white) by
     intro hr
     have hq1:q≠[]:=by
      rintro rfl
      rcases hr with rfl | ⟨d,r',rfl,hd⟩
      ·cases HQR.out
      ·have h:=HQR.out
       rw [List.nil_append] at h
       rw [← (List.cons.inj h).1,HDK.out] at hd
       cases hd
     refine ⟨List.length_pos_iff.2 hq1,?_⟩
     have e:=words_run q [] r HQ.out
     rw [List.nil_append] at e
     rw [HRR.out,HQR.out,e,words_end q r hq1 hr,← words_skip r,List.append_assoc]
     rfl)
    have hext:(⟨s.toArray⟩:ByteArray).extract i j=⟨q.toArray⟩:=by
     have h:=HA.out
     rw [HQR.out] at h
     rw [HJ.out]
     exact h.text
    have hij:(i:Int)≤(j:Int):=by omega
    have hjs:(j:Int)≤(s.length:Int):=by omega
    have hnl:out.length≤10000000:=by omega
    have hj1:i+q.length≤j:=by omega
    have hj2:j≤i+q.length:=by omega
    clear har hqr hq hj
    cases r with
    | nil=>
     have hjl:¬ ((j:Int)<(s.length:Int)):=by simp at hlr;omega
     obtain ⟨hq1,hRN⟩:=HFIN.out (.inl rfl)
     have HRN:=hid hRN
     clear hRN
     clear HFIN
     go_wp2_with (first|(at_builtin;refine app_one rfl rfl (.tmp 29) (.tmp 34) rfl w1.heap.size _ _ q rfl HROW.out rfl hBr hnl ?_;intro v9 w9 hr9 hg9 hv9;have HR9:=hid hr9;have HG9:=hid hg9;clear hr9 hg9 hv9)|(go_at_call 115;refine (HWA.out ([]:Str) j HAR.out _).mono ?_;rintro e w5 ⟨⟨j2,rfl,hj2⟩,hw5⟩;subst hw5;have HJ2:=hid hj2;clear hj2))
     have hj2l:=HJ2.out.len
     have hdl:=drop_white_len ([]:Str)
     have hl0:=HAR.out.len
     go_roundg (s.length+1-j2)
     case measure=>omega
     case rel=>exact ⟨j2,([]:Str).dropWhile white,out++[q],rfl,HJ2.out,drop_white ([]:Str),HRN.out,HR9.out,HBL.out.grown HG9.out hBr (fun k hk=>(HROW.out.lt k hk).2),by rw [List.length_append];simp only [List.length_cons,List.length_nil];omega,rfl⟩
    | cons d r'=>
     have hltj:=HAR.out.lt
     have hltjI:(j:Int)<(s.length:Int):=by omega
     have hx:=HAR.out.byte
     have hwf:=whiteR_fn d wr
     cases hwd:white d with
     | false=>
      rw [hwd] at hwf
      have HWF:=hid hwf
      have HDD:=hid hwd
      clear hwf hwd hext hij
      go_wp2_with (go_at_call 116;(with_reducible refine HWF.out.mono ?_);rintro e w3 ⟨rfl,rfl⟩)
      go_roundg r'.length
      case measure=>simp
      case rel=>exact ⟨j+1,q++[d],r',by go_num,HAR.out.tail,by rw [HQR.out];simp,fun x hx=>by rcases List.mem_append.1 hx with h | h;exact HQ.out x h;rw [List.mem_singleton.1 h];exact HDD.out,by rw [HJ.out,List.length_append];simp only [List.length_cons,List.length_nil];omega,rfl,rfl⟩
     | true=>
      rw [hwd] at hwf
      have HWF:=hid hwf
      obtain ⟨hq1,hRN⟩:=HFIN.out (.inr ⟨d,r',rfl,hwd⟩)
      have HRN:=hid hRN
      clear hwf hwd hRN
      clear HFIN
      go_wp2_with (first|(go_at_call 116;(with_reducible refine HWF.out.mono ?_);rintro e w3 ⟨rfl,rfl⟩)|(at_builtin;refine app_one rfl rfl (.tmp 29) (.tmp 34) rfl w1.heap.size _ _ q rfl HROW.out rfl hBr hnl ?_;intro v9 w9 hr9 hg9 hv9;have HR9:=hid hr9;have HG9:=hid hg9;clear hr9 hg9 hv9)|(go_at_call 115;refine (HWA.out (d::r') j HAR.out _).mono ?_;rintro e w5 ⟨⟨j2,rfl,hj2⟩,hw5⟩;subst hw5;have HJ2:=hid hj2;clear hj2))
      have hj2l:=HJ2.out.len
      have hdl:=drop_white_len (d::r')
      have hl0:=HAR.out.len
      go_roundg (s.length+1-j2)
      case measure=>omega
      case rel=>exact ⟨j2,(d::r').dropWhile white,out++[q],rfl,HJ2.out,drop_white (d::r'),HRN.out,HR9.out,HBL.out.grown HG9.out hBr (fun k hk=>(HROW.out.lt k hk).2),by rw [List.length_append];simp only [List.length_cons,List.length_nil];omega,rfl⟩
theorem wordsRR_fn (s:Str) (hs:s.length≤1000000) (w:World):Calls Tryz.prog 26 #[.string ⟨s.toArray⟩] w fun e w'=>∃ v,e=.returned v∧RowS w.heap.size w' v (wordsE s)∧Below w.heap.size w w':=by
 have HW:=hid (wordsR_fn s hs w)
 go_enter Tryz.func26,Tryz.ntmps26
 go_wp2_with (go_at_call 65;refine HW.out.mono ?_;rintro e w1 ⟨v,rfl,hr,hb⟩;have HR:=hid hr;have HB:=hid hb;clear hr hb)
 go_ret
 exact ⟨_,rfl,HR.out,HB.out⟩
end
end Go.Proofs.YtbilphfbfnohmaaGreatDoor.Pz
namespace Go.Proofs.YtbilphfbfnohmaaGreatDoor.Pz
open Go.RowKit
def joinB:List Str→Str
 | []=>[]
 | [x]=>x
 | x::y::l=>x++32::joinB (y::l)
def Dark (w:Str):Prop:=w≠[]∧∀ c∈w,white c=false
theorem words_join:∀ l:List Str,(∀ w∈l,Dark w)→wordsE (joinB l)=l
 | [],_=>rfl
 | [x],h=>by
  have hx:=h x (by simp)
  have e:=words_run x [] [] hx.2
  rw [List.append_nil,List.nil_append] at e
  show wordsGo [] x=[x]
  rw [e,words_end x [] hx.1 (.inl rfl)]
  rfl
 | x::y::l,h=>by
  have hx:=h x (by simp)
  have ih:=words_join (y::l) fun w hw=>h w (by simp [List.mem_cons.1 hw])
  have e:=words_run x [] (32::joinB (y::l)) hx.2
  rw [List.nil_append] at e
  show wordsGo [] (x++32::joinB (y::l))=_
  rw [e,words_end x _ hx.1 (.inr ⟨32,_,rfl,by decide⟩),wordsGo_cons,if_pos (by decide),if_pos rfl]
  exact congrArg (x :: ·) ih
theorem words_dark:∀ (l p:Str),(∀ c∈p,white c=false)→∀ w∈wordsGo p l,Dark w
 | [],p,hp,w,hw=>by
  unfold wordsGo at hw
  split at hw
  ·cases hw
  ·rename_i h
   rw [List.mem_singleton.1 hw]
   exact ⟨h,hp⟩
 | c::t,p,hp,w,hw=>by
  rw [wordsGo_cons] at hw
  by_cases hc:white c=true
  ·rw [if_pos hc] at hw
   by_cases h0:p=[]
   ·rw [if_pos h0] at hw
    exact words_dark t [] (by simp) w hw
   ·rw [if_neg h0] at hw
    rcases List.mem_cons.1 hw with rfl | h
    ·exact ⟨h0,hp⟩
    ·exact words_dark t [] (by simp) w h
  ·rw [if_neg hc] at hw
   refine words_dark t (p++[c]) (fun x hx=>?_) w hw
   rcases List.mem_append.1 hx with h | h
   ·exact hp x h
   ·rw [List.mem_singleton.1 h];simpa using hc
def lensB (l:List Str):Nat:=(l.map fun w=>w.length+1).sum
theorem words_lens:∀ (l p:Str),lensB (wordsGo p l)≤p.length+l.length+1
 | [],p=>by
  unfold wordsGo
  split
  ·simp [lensB]
  ·simp [lensB]
 | c::t,p=>by
  rw [wordsGo_cons]
  have h1:=words_lens t []
  have h2:=words_lens t (p++[c])
  simp only [List.length_append,List.length_cons,List.length_nil] at *
  split
  ·split
   ·omega
   ·simp only [lensB,List.map_cons,List.sum_cons] at *
    omega
  ·omega
theorem joinB_lens:∀ l:List Str,(joinB l).length≤lensB l
 | []=>Nat.le_refl _
 | [x]=>by simp [joinB,lensB]
 | x::y::l=>by
  have h:=joinB_lens (y::l)
  simp only [joinB,lensB,List.length_append,List.length_cons,List.map_cons,List.sum_cons] at *
  omega
theorem joinB_cons (x:Str) {l:List Str} (h:l≠[]):joinB (x::l)=x++32::joinB l:=by
 cases l with
 | nil=>exact absurd rfl h
 | cons y t=>rfl
theorem joinB_app:∀ (g:List Str) (w:Str),g≠[]→joinB (g++[w])=joinB g++32::w
 | [],_,h=>absurd rfl h
 | [x],w,_=>rfl
 | x::y::l,w,_=>by
  have h:=joinB_app (y::l) w (by simp)
  show x++32::joinB ((y::l)++[w])=_
  rw [h]
  simp [joinB]
theorem joinB_two:∀ (g h:List Str),g≠[]→h≠[]→joinB (g++h)=joinB g++32::joinB h
 | [],_,h,_=>absurd rfl h
 | [x],h,_,hh=>by rw [List.singleton_append,joinB_cons x hh];rfl
 | x::y::l,h,_,hh=>by
  have e:=joinB_two (y::l) h (by simp) hh
  show x++32::joinB ((y::l)++h)=_
  rw [e]
  simp [joinB]
theorem joinB_flat:∀ gs:List (List Str),(∀ g∈gs,g≠[])→joinB (gs.map joinB)=joinB gs.flatten
 | [],_=>rfl
 | [g],_=>by simp [joinB]
 | g::h::t,hn=>by
  have e:=joinB_flat (h::t) fun x hx=>hn x (List.mem_cons_of_mem _ hx)
  rw [List.map_cons,joinB_cons _ (by simp),e]
  show _=joinB (g++(h::t).flatten)
  rw [joinB_two g _ (hn g (by simp)) (by
   rw [List.flatten_cons]
   intro h0
   exact hn h (by simp) (List.append_eq_nil_iff.1 h0).1)]
def wrapGo (width:Int):Str→List Str→List Str
 | cur,[]=>[cur]
 | cur,w::t=>if (cur.length:Int)+1+(w.length:Int)≤width then wrapGo width (cur++32::w) t else cur::wrapGo width w t
def wrapL (width:Int):List Str→List Str
 | []=>[]
 | w::t=>wrapGo width w t
def wrapE (s:Str) (width:Int):List Str×Int:=if 1≤width∧width≤999 then (wrapL width (wordsE s),0) else ([],7)
def Full (width:Int):List (List Str)→Prop
 | a::b::t=>width<((joinB a).length:Int)+1+((b.headD []).length:Int)∧Full width (b::t)
 | _=>True
theorem wrapGo_groups (width:Int):∀ (ws g:List Str),g≠[]→(∀ w∈g,Dark w)→(∀ w∈ws,Dark w)→(1<g.length→((joinB g).length:Int)≤width)→
    ∃ (g1:List Str) (gs:List (List Str)),wrapGo width (joinB g) ws=(g1::gs).map joinB∧(g1::gs).flatten=g++ws∧g1.headD []=g.headD []∧Full width (g1::gs)∧
      ∀ x∈g1::gs,x≠[]∧(∀ w∈x,Dark w)∧(1<x.length→((joinB x).length:Int)≤width)
  | [],g,h0,hg,_,hl=>⟨g,[],rfl,by simp,rfl,trivial,fun x hx=>by
      rw [List.mem_singleton.1 hx]
      exact ⟨h0,hg,hl⟩⟩
  | w::t,g,h0,hg,hw,hl=>by
    by_cases h:((joinB g).length:Int)+1+(w.length:Int)≤width
    · obtain ⟨g1, gs, e, hf, hh, hF, ha⟩ := wrapGo_groups width t (g ++ [w]) (by simp) (fun x hx => by
        rcases List.mem_append.1 hx with k | k
        · exact hg x k
        · rw [List.mem_singleton.1 k];exact hw w (by simp)) (fun x hx=>hw x (List.mem_cons_of_mem _ hx)) (fun _=>by
          rw [joinB_app g w h0]
          simp only [List.length_append,List.length_cons]
          omega)
      refine ⟨g1,gs,?_,by rw [hf];simp,?_,hF,ha⟩
      · rw [← e,joinB_app g w h0,wrapGo,if_pos h]
      · rw [hh]
        cases g with
        | nil=>exact absurd rfl h0
        | cons a b=>rfl
    · obtain ⟨g1,gs,e,hf,hh,hF,ha⟩:=wrapGo_groups width t [w] (by simp) (fun x hx=>by rw [List.mem_singleton.1 hx];exact hw w (by simp)) (fun x hx=>hw x (List.mem_cons_of_mem _ hx)) (fun k=>by simp at k)
      refine ⟨g,g1::gs,?_,by rw [List.flatten_cons,hf];simp,rfl,⟨?_,hF⟩,?_⟩
      · rw [wrapGo,if_neg h,List.map_cons,← e]
        rfl
      · rw [hh]
        show width<_+1+(w.length:Int)
        omega
      · intro x hx
        rcases List.mem_cons.1 hx with rfl | k
        · exact ⟨h0,hg,hl⟩
        · exact ha x k
theorem Full.at {width:Int}:∀ {gs:List (List Str)},Full width gs→∀ i,(h:i+1<gs.length)→width<((joinB gs[i]).length:Int)+1+((gs[i+1].headD []).length:Int)
 | [],_,_,h=>by simp at h
 | [_],_,_,h=>by simp at h
 | _::_::_,hF,0,_=>hF.1
 | _::_::_,hF,i+1,h=>Full.at hF.2 i (by simpa using h)
theorem wrap_groups (s:Str) (width:Int):∃ gs:List (List Str),wrapL width (wordsE s)=gs.map joinB∧gs.flatten=wordsE s∧Full width gs∧∀ x∈gs,x≠[]∧(∀ w∈x,Dark w)∧(1<x.length→((joinB x).length:Int)≤width):=by
 have hd:=words_dark s [] (by simp)
 show ∃ gs,wrapL width (wordsGo [] s)=_∧_=wordsGo [] s∧_
 generalize wordsGo [] s=ws at *
 cases ws with
 | nil=>exact ⟨[],rfl,rfl,trivial,by simp⟩
 | cons w t=>
  obtain ⟨g1,gs,e,hf,-,hF,ha⟩:=wrapGo_groups width t [w] (by simp) (fun x hx=>by rw [List.mem_singleton.1 hx];exact hd w (by simp)) (fun x hx=>hd x (List.mem_cons_of_mem _ hx)) (fun k=>by simp at k)
  exact ⟨g1::gs,e,by simpa using hf,hF,ha⟩
theorem wrap_words (s:Str) (width:Int):wordsE (joinB (wrapL width (wordsE s)))=wordsE s:=by
 obtain ⟨gs,e,hf,-,ha⟩:=wrap_groups s width
 rw [e,joinB_flat gs fun g hg=>(ha g hg).1,hf]
 exact words_join _ (words_dark s [] (by simp))
theorem wrap_line (s:Str) (width:Int) (i:Nat) {l:Str} (h:(wrapL width (wordsE s))[i]? = some l) :
  wordsE l≠[]∧¬ (width<(l.length:Int)∧1<(wordsE l).length)∧∀ p,0<i→(wrapL width (wordsE s))[i-1]? = some p→width<(p.length:Int)+1+(((wordsE l).headD []).length:Int):=by
 obtain ⟨gs,e,-,hF,ha⟩:=wrap_groups s width
 rw [e] at h ⊢
 rw [List.getElem?_map,Option.map_eq_some_iff] at h
 obtain ⟨g,hg,rfl⟩:=h
 have hm:=ha g (List.mem_of_getElem? hg)
 have ew:wordsE (joinB g)=g:=words_join g hm.2.1
 rw [ew]
 refine ⟨hm.1,fun k=>absurd (hm.2.2 k.2) (by omega),fun p hi hp=>?_⟩
 rw [List.getElem?_map,Option.map_eq_some_iff] at hp
 obtain ⟨q,hq,rfl⟩:=hp
 obtain ⟨j,rfl⟩:∃ j,i=j+1:=⟨i-1,by omega⟩
 rw [Nat.add_sub_cancel] at hq
 obtain ⟨h1,e1⟩:=List.getElem?_eq_some_iff.1 hg
 obtain ⟨h2,e2⟩:=List.getElem?_eq_some_iff.1 hq
 have:=hF.at j h1
 rw [e1,e2] at this
 exact this
end Go.Proofs.YtbilphfbfnohmaaGreatDoor.Pz
namespace Go.Proofs.YtbilphfbfnohmaaGreatDoor.Pz
open Go.RowKit
theorem strCellsW_set (l:List Str) (i:Nat) (x:Str):strCells (l.set i x)=(strCells l).set i (.string ⟨x.toArray⟩):=by simp [strCells,List.map_set]
theorem RowS.storedW {B:Nat} {w:World} {g n c:Nat} {l:List Str} (h:RowS B w (.slice (some ⟨g,0,none⟩) n c) l) (i:Nat) (x:Str) :
  RowS B (w.setCell ⟨g,i,none⟩ (.string ⟨x.toArray⟩)) (.slice (some ⟨g,0,none⟩) n c) (l.set i x)∧Below B w (w.setCell ⟨g,i,none⟩ (.string ⟨x.toArray⟩))∧w.frozen? ⟨g,i,none⟩=false:=by
 have hn:n=l.length:=by
  obtain ⟨a',c',e⟩:=h.shape
  simp only [Value.slice.injEq] at e
  exact e.2.1
 have hr':=h
 unfold RowS at hr'
 rw [← hn] at hr'
 obtain ⟨s1,s2⟩:=World.ownsRow.stored hr' i (.string ⟨x.toArray⟩)
 obtain ⟨_,cur,hc⟩:=ownsRow_lt h g rfl
 refine ⟨?_,?_,Lib.frozen_of_heap hc i⟩
 ·show World.ownsRow _ _ _ _ _ _ _
  rw [strCellsW_set,List.length_set,← hn]
  exact s1
 ·refine ⟨rfl,rfl,rfl,by simp [World.setCell],fun k hk=>Below.heap_setCell _ _ _ _ ?_⟩
  have:=(h.lt g rfl).2
  intro e
  have:k=g:=e
  omega
def WrapAt (width:Int) (ws R:List Str) (i:Nat) (out:List Str):Prop:=
 (i=0∧out=[]∧R=wrapL width ws)∨∃ done cur,out=done++[cur]∧R=done++wrapGo width cur (ws.drop i)
section
variable {width:Int} {ws R out:List Str} {i:Nat} {x:Str}
theorem WrapAt.fin (h:WrapAt width ws R i out) (hi:i=ws.length):R=out:=by
 subst hi
 rcases h with ⟨h0,rfl,rfl⟩ | ⟨done,cur,rfl,rfl⟩
 ·rw [List.length_eq_zero_iff.1 h0]
  rfl
 ·rw [List.drop_length]
  rfl
theorem WrapAt.first (h:WrapAt width ws R i []) (hx:ws[i]? = some x):WrapAt width ws R (i+1) [x]:=by
 rcases h with ⟨rfl,-,rfl⟩ | ⟨done,cur,e,-⟩
 ·refine .inr ⟨[],x,rfl,?_⟩
  cases ws with
  | nil=>simp at hx
  | cons y t=>
   rw [show y=x by simpa using hx]
   rfl
 ·have:=congrArg List.length e
  simp at this
theorem drop_cons_of {l:List Str} {i:Nat} {x:Str} (hx:l[i]? = some x):l.drop i=x::l.drop (i+1):=by
 obtain ⟨h,e⟩:=List.getElem?_eq_some_iff.1 hx
 rw [List.drop_eq_getElem_cons h,e]
theorem WrapAt.fits {done:List Str} {cur:Str} (h:R=done++wrapGo width cur (ws.drop i)) (hx:ws[i]? = some x) (hf:(cur.length:Int)+1+(x.length:Int)≤width) :
  WrapAt width ws R (i+1) ((done++[cur]).set done.length (cur++([32]++x))):=by
 refine .inr ⟨done,cur++([32]++x),by simp,?_⟩
 rw [h,drop_cons_of hx,wrapGo,if_pos hf]
 rfl
theorem WrapAt.next {done:List Str} {cur:Str} (h:R=done++wrapGo width cur (ws.drop i)) (hx:ws[i]? = some x) (hf:¬ (cur.length:Int)+1+(x.length:Int)≤width) :
  WrapAt width ws R (i+1) ((done++[cur])++[x]):=by
 refine .inr ⟨done++[cur],x,rfl,?_⟩
 rw [h,drop_cons_of hx,wrapGo,if_neg hf]
 simp
end
theorem words_many (s:Str):(wordsE s).length≤s.length+1∧∀ x∈wordsE s,x.length≤s.length+1:=by
 have h:=words_lens s []
 have h2:∀ l:List Str,l.length≤lensB l∧∀ x∈l,x.length≤lensB l:=by
  intro l
  induction l with
  | nil=>exact ⟨Nat.le_refl _,by simp⟩
  | cons y t ih=>
   simp only [lensB,List.map_cons,List.sum_cons,List.length_cons] at *
   refine ⟨by omega,fun x hx=>?_⟩
   rcases List.mem_cons.1 hx with rfl | k
   ·omega
   ·have:=ih.2 x k;omega
 have h3:=h2 (wordsE s)
 have h4:lensB (wordsE s)≤s.length+1:=by
  show lensB (wordsGo [] s)≤_
  simpa using h
 exact ⟨by omega,fun x hx=>by have:=h3.2 x hx;omega⟩
set_option maxRecDepth 100000 in
set_option maxHeartbeats 4000000 in
theorem wrapP_fn (s:Str) (hs:s.length≤100000) (width:Int) (w:World):Calls Tryz.prog 24 #[.string ⟨s.toArray⟩,.int .i64 width] w fun e w'=>∃ v,e=.returned (.tuple #[v,.int .i64 (wrapE s width).2])∧RowS w.heap.size w' v (wrapE s width).1∧Below w.heap.size w w':=by
 have hsz:(⟨s.toArray⟩:ByteArray).size=s.length:=Lib.size_mk _
 have HWI:=hid (within_fn width 1 999)
 have HWO:=hid (wordsP_fn s (by omega) w)
 by_cases h:1≤width∧width≤999
 ·have hE:wrapE s width=(wrapL width (wordsE s),0):=if_pos h
  rw [hE]
  obtain ⟨hmany,hwl⟩:=words_many s
  obtain ⟨ws,hws⟩:∃ ws,ws=wordsE s:=⟨_,rfl⟩
  rw [← hws] at HWO hmany hwl ⊢
  obtain ⟨R,hR⟩:∃ R,R=wrapL width ws:=⟨_,rfl⟩
  rw [← hR]
  have HR:=hid hR
  have hw9:=h.2
  have d1:decide ((1:Int)≤width)=true:=decide_eq_true h.1
  have d2:decide (width≤999)=true:=decide_eq_true h.2
  clear hR hws hE h
  go_enter Tryz.func24,Tryz.ntmps24
  go_wp2_with (first|(go_at_call 57;(with_reducible refine (HWI.out _).mono ?_);rintro e w0 ⟨rfl,hw0⟩;subst hw0)|(go_at_call 64;(with_reducible refine HWO.out.mono ?_);rintro e w1 ⟨v1,rfl,hr1,hb1⟩;obtain ⟨a1,c1,he1⟩:=hr1.shape;subst he1;have HR1:=hid hr1;have HB1:=hid hb1;clear hr1 hb1))
  go_loopg [6,16] (ws.length+1) (fun k ov iv wr=>∃ (i:Nat) (out:List Str),iv=.int .i64 (i:Nat)∧RowS w1.heap.size wr ov out∧Below w1.heap.size w1 wr∧WrapAt width ws R i out∧(∀ x∈out,x.length≤200000)∧i≤ws.length∧out.length≤i∧k=ws.length+1-i)
  case atStart=>exact ⟨0,[],rfl,RowS.nil _ _,Below.refl _ _,.inl ⟨rfl,rfl,HR.out⟩,by simp,Nat.zero_le _,Nat.le_refl _,rfl⟩
  case round=>
   obtain ⟨i,out,rfl,hrow,hbl,hat,hall,hi,hol,rfl⟩:=hrel
   have HALL:=hid hall
   have HROW:=hid hrow
   have HBL:=hid hbl
   have hBr:w1.heap.size≤wr.heap.size:=hbl.size
   by_cases hil:i<ws.length
   ·have hilI:(i:Int)<(ws.length:Int):=by omega
    have hrw:=HR1.out.below hbl (fun g hg=>(HR1.out.lt g hg).1)
    obtain ⟨g1,hg1,-,hc1⟩:=hrw.at hil
    subst hg1
    have hx:ws[i]? = some ws[i]:=List.getElem?_eq_getElem hil
    generalize ws[i]=x at hc1 hx
    have hxz:(⟨x.toArray⟩:ByteArray).size=x.length:=Lib.size_mk _
    have HX:=hid hx
    have hxb:x.length≤200000:=by have:=hwl x (List.mem_of_getElem? hx);omega
    have hnl:out.length≤10000000:=by omega
    have hkk:ws.length+1-(i+1)<ws.length+1-i:=by omega
    rcases hat with ⟨h0,rfl,hR0⟩ | ⟨done,cur,rfl,hR1⟩
    ·subst h0
     obtain ⟨ao,co,hov⟩:=hrow.shape
     subst hov
     have HAT:=hid (WrapAt.first (R:=R) (width:=width) (.inl ⟨rfl,rfl,hR0⟩) hx)
     clear hrow hbl hR0 hx hrw hall hwl
     go_wp2_with (at_builtin;refine app_one rfl rfl (.tmp 46) (.tmp 48) rfl w1.heap.size _ _ x rfl HROW.out rfl hBr hnl ?_;intro v9 w9 hr9 hg9 hv9;have HR9:=hid hr9;have HG9:=hid hg9;clear hr9 hg9 hv9)
     go_roundg (ws.length+1-(0+1))
     case measure=>exact hkk
     case rel=>exact ⟨0+1,[x],by go_num,HR9.out,HBL.out.grown HG9.out hBr (fun k hk=>(HROW.out.lt k hk).2),HAT.out,by intro z hz;rw [List.mem_singleton.1 hz];exact hxb,by omega,by simp,rfl⟩
    ·have hcb:cur.length≤200000:=hall cur (by simp)
     have hdl:done.length<(done++[cur]).length:=by simp
     obtain ⟨ao,co,hov⟩:=hrow.shape
     subst hov
     obtain ⟨g2,hg2,-,hc2⟩:=hrow.at hdl
     subst hg2
     rw [List.getElem_append_right (Nat.le_refl _)] at hc2
     simp only [Nat.sub_self,List.getElem_cons_zero] at hc2
     have hlen:(done++[cur]).length=done.length+1:=by simp
     rw [hlen] at HROW hnl hol
     have hcz:(⟨cur.toArray⟩:ByteArray).size=cur.length:=Lib.size_mk _
     have hge0:(0:Int)≤(done.length:Int):=by omega
     rw [hlen]
     by_cases hf:(cur.length:Int)+1+(x.length:Int)≤width
     ·have hfd:decide ((cur.length:Int)+1+(x.length:Int)≤width)=true:=decide_eq_true hf
      have HAT:=hid (WrapAt.fits hR1 hx hf)
      have hst:=hrow.storedW done.length (cur++([32]++x))
      rw [hlen] at hst
      have hfz:=hst.2.2
      have HST:=hid hst
      have hct1:∀ u,(Op.stringOp .add ⟨#[32]⟩ ⟨x.toArray⟩).run Tryz.prog u=.ok (.string ⟨([32]++x).toArray⟩) u:=fun u=>cat_run [32] x (by simp) (by omega) u
      have hct2:=cat_run cur ([32]++x) (by omega) (by simp;omega)
      clear hrow hbl hR1 hx hrw hst hall hwl
      go_wp2
      go_roundg (ws.length+1-(i+1))
      case measure=>exact hkk
      case rel=>exact ⟨i+1,_,by go_num,HST.out.1,HBL.out.trans HST.out.2.1,HAT.out,by intro z hz;rcases List.mem_or_eq_of_mem_set hz with k | k;exact HALL.out z k;rw [k];simp;omega,by omega,by rw [List.length_set,hlen];omega,rfl⟩
     ·have hfd:decide ((cur.length:Int)+1+(x.length:Int)≤width)=false:=decide_eq_false hf
      have HAT:=hid (WrapAt.next hR1 hx hf)
      have HROW2:=hid hrow
      clear hrow hbl hR1 hx hrw hf hall hwl
      go_wp2_with (at_builtin;refine app_one rfl rfl (.tmp 46) (.tmp 48) rfl w1.heap.size _ _ x rfl (by first | exact HROW.out|(rw [hlen] at HROW2;exact HROW2.out)) rfl hBr (by rw [hlen];exact hnl) ?_;intro v9 w9 hr9 hg9 hv9;have HR9:=hid hr9;have HG9:=hid hg9;clear hr9 hg9 hv9)
      go_roundg (ws.length+1-(i+1))
      case measure=>exact hkk
      case rel=>exact ⟨i+1,_,by go_num,HR9.out,HBL.out.grown HG9.out hBr (fun k hk=>(HROW.out.lt k hk).2),HAT.out,by intro z hz;rcases List.mem_append.1 hz with k | k;exact HALL.out z k;rw [List.mem_singleton.1 k];exact hxb,by omega,by rw [List.length_append,hlen];simp;omega,rfl⟩
   ·have hilI:¬ ((i:Int)<(ws.length:Int)):=by omega
    have hfin:=hid (hat.fin (by omega))
    clear hrow hbl hat hall hwl
    go_wp2
    go_ret2
    exact ⟨_,rfl,by rw [hfin.out];exact HROW.out.mono HB1.out.size,HB1.out.trans (HBL.out.mono HB1.out.size)⟩
 ·have hE:wrapE s width=([],7):=if_neg h
  rw [hE]
  by_cases h1:1≤width
  ·have d1:decide ((1:Int)≤width)=true:=decide_eq_true h1
   have d2:decide (width≤999)=false:=decide_eq_false (by omega)
   clear h hE HWO
   go_enter Tryz.func24,Tryz.ntmps24
   go_wp2_with ((with_reducible refine (HWI.out _).mono ?_);rintro e w1 ⟨rfl,rfl⟩)
   go_ret2
   exact ⟨_,rfl,RowS.nil _ _,Below.refl _ _⟩
  ·have d1:decide ((1:Int)≤width)=false:=decide_eq_false h1
   clear h hE HWO
   go_enter Tryz.func24,Tryz.ntmps24
   go_wp2_with ((with_reducible refine (HWI.out _).mono ?_);rintro e w1 ⟨rfl,rfl⟩)
   go_ret2
   exact ⟨_,rfl,RowS.nil _ _,Below.refl _ _⟩
set_option maxRecDepth 100000 in
set_option maxHeartbeats 4000000 in
theorem wrapR_fn (s:Str) (hs:s.length≤100000) (width:Int) (w:World):Calls Tryz.prog 25 #[.string ⟨s.toArray⟩,.int .i64 width] w fun e w'=>∃ v,e=.returned (.tuple #[v,.int .i64 (wrapE s width).2])∧RowS w.heap.size w' v (wrapE s width).1∧Below w.heap.size w w':=by
 have hsz:(⟨s.toArray⟩:ByteArray).size=s.length:=Lib.size_mk _
 have HWO:=hid (wordsR_fn s (by omega) w)
 by_cases h:1≤width∧width≤999
 ·have hE:wrapE s width=(wrapL width (wordsE s),0):=if_pos h
  rw [hE]
  obtain ⟨hmany,hwl⟩:=words_many s
  obtain ⟨ws,hws⟩:∃ ws,ws=wordsE s:=⟨_,rfl⟩
  rw [← hws] at HWO hmany hwl ⊢
  obtain ⟨R,hR⟩:∃ R,R=wrapL width ws:=⟨_,rfl⟩
  rw [← hR]
  have HR:=hid hR
  have hw9:=h.2
  have d1:decide (width<(1:Int))=false:=decide_eq_false (by omega)
  have d2:decide ((999:Int)<width)=false:=decide_eq_false (by omega)
  clear hR hws hE h
  go_enter Tryz.func25,Tryz.ntmps25
  go_wp2_with (first|(go_at_call 65;(with_reducible refine HWO.out.mono ?_);rintro e w1 ⟨v1,rfl,hr1,hb1⟩;obtain ⟨a1,c1,he1⟩:=hr1.shape;subst he1;have HR1:=hid hr1;have HB1:=hid hb1;clear hr1 hb1))
  go_loopg [6,19] (ws.length+1) (fun k ov iv wr=>∃ (i:Nat) (out:List Str),iv=.int .i64 (i:Nat)∧RowS w1.heap.size wr ov out∧Below w1.heap.size w1 wr∧WrapAt width ws R i out∧(∀ x∈out,x.length≤200000)∧i≤ws.length∧out.length≤i∧k=ws.length+1-i)
  case atStart=>exact ⟨0,[],rfl,RowS.nil _ _,Below.refl _ _,.inl ⟨rfl,rfl,HR.out⟩,by simp,Nat.zero_le _,Nat.le_refl _,rfl⟩
  case round=>
   obtain ⟨i,out,rfl,hrow,hbl,hat,hall,hi,hol,rfl⟩:=hrel
   have HALL:=hid hall
   have HROW:=hid hrow
   have HBL:=hid hbl
   have hBr:w1.heap.size≤wr.heap.size:=hbl.size
   by_cases hil:i<ws.length
   ·have hilI:(i:Int)<(ws.length:Int):=by omega
    have hrw:=HR1.out.below hbl (fun g hg=>(HR1.out.lt g hg).1)
    obtain ⟨g1,hg1,-,hc1⟩:=hrw.at hil
    subst hg1
    have hx:ws[i]? = some ws[i]:=List.getElem?_eq_getElem hil
    generalize ws[i]=x at hc1 hx
    have hxz:(⟨x.toArray⟩:ByteArray).size=x.length:=Lib.size_mk _
    have HX:=hid hx
    have hxb:x.length≤200000:=by have:=hwl x (List.mem_of_getElem? hx);omega
    have hnl:out.length≤10000000:=by omega
    have hkk:ws.length+1-(i+1)<ws.length+1-i:=by omega
    rcases hat with ⟨h0,rfl,hR0⟩ | ⟨done,cur,rfl,hR1⟩
    ·subst h0
     obtain ⟨ao,co,hov⟩:=hrow.shape
     subst hov
     have HAT:=hid (WrapAt.first (R:=R) (width:=width) (.inl ⟨rfl,rfl,hR0⟩) hx)
     clear hrow hbl hR0 hx hrw hall hwl
     go_wp2_with (at_builtin;refine app_one rfl rfl (.tmp 49) (.tmp 51) rfl w1.heap.size _ _ x rfl HROW.out rfl hBr hnl ?_;intro v9 w9 hr9 hg9 hv9;have HR9:=hid hr9;have HG9:=hid hg9;clear hr9 hg9 hv9)
     go_roundg (ws.length+1-(0+1))
     case measure=>exact hkk
     case rel=>exact ⟨0+1,[x],by go_num,HR9.out,HBL.out.grown HG9.out hBr (fun k hk=>(HROW.out.lt k hk).2),HAT.out,by intro z hz;rw [List.mem_singleton.1 hz];exact hxb,by omega,by simp,rfl⟩
    ·have hcb:cur.length≤200000:=hall cur (by simp)
     have hdl:done.length<(done++[cur]).length:=by simp
     obtain ⟨ao,co,hov⟩:=hrow.shape
     subst hov
     obtain ⟨g2,hg2,-,hc2⟩:=hrow.at hdl
     subst hg2
     rw [List.getElem_append_right (Nat.le_refl _)] at hc2
     simp only [Nat.sub_self,List.getElem_cons_zero] at hc2
     have hlen:(done++[cur]).length=done.length+1:=by simp
     rw [hlen] at HROW hnl hol
     have hcz:(⟨cur.toArray⟩:ByteArray).size=cur.length:=Lib.size_mk _
     have hge0:(0:Int)≤(done.length:Int):=by omega
     rw [hlen]
     by_cases hf:(cur.length:Int)+1+(x.length:Int)≤width
     ·have hfd:decide ((cur.length:Int)+1+(x.length:Int)≤width)=true:=decide_eq_true hf
      have HAT:=hid (WrapAt.fits hR1 hx hf)
      have hst:=hrow.storedW done.length (cur++([32]++x))
      rw [hlen] at hst
      have hfz:=hst.2.2
      have HST:=hid hst
      have hct1:∀ u,(Op.stringOp .add ⟨#[32]⟩ ⟨x.toArray⟩).run Tryz.prog u=.ok (.string ⟨([32]++x).toArray⟩) u:=fun u=>cat_run [32] x (by simp) (by omega) u
      have hct2:=cat_run cur ([32]++x) (by omega) (by simp;omega)
      clear hrow hbl hR1 hx hrw hst hall hwl
      go_wp2
      go_roundg (ws.length+1-(i+1))
      case measure=>exact hkk
      case rel=>exact ⟨i+1,_,by go_num,HST.out.1,HBL.out.trans HST.out.2.1,HAT.out,by intro z hz;rcases List.mem_or_eq_of_mem_set hz with k | k;exact HALL.out z k;rw [k];simp;omega,by omega,by rw [List.length_set,hlen];omega,rfl⟩
     ·have hfd:decide ((cur.length:Int)+1+(x.length:Int)≤width)=false:=decide_eq_false hf
      have HAT:=hid (WrapAt.next hR1 hx hf)
      have HROW2:=hid hrow
      clear hrow hbl hR1 hx hrw hf hall hwl
      go_wp2_with (at_builtin;refine app_one rfl rfl (.tmp 49) (.tmp 51) rfl w1.heap.size _ _ x rfl (by first | exact HROW.out|(rw [hlen] at HROW2;exact HROW2.out)) rfl hBr (by rw [hlen];exact hnl) ?_;intro v9 w9 hr9 hg9 hv9;have HR9:=hid hr9;have HG9:=hid hg9;clear hr9 hg9 hv9)
      go_roundg (ws.length+1-(i+1))
      case measure=>exact hkk
      case rel=>exact ⟨i+1,_,by go_num,HR9.out,HBL.out.grown HG9.out hBr (fun k hk=>(HROW.out.lt k hk).2),HAT.out,by intro z hz;rcases List.mem_append.1 hz with k | k;exact HALL.out z k;rw [List.mem_singleton.1 k];exact hxb,by omega,by rw [List.length_append,hlen];simp;omega,rfl⟩
   ·have hilI:¬ ((i:Int)<(ws.length:Int)):=by omega
    have hfin:=hid (hat.fin (by omega))
    clear hrow hbl hat hall hwl
    go_wp2
    go_ret2
    exact ⟨_,rfl,by rw [hfin.out];exact HROW.out.mono HB1.out.size,HB1.out.trans (HBL.out.mono HB1.out.size)⟩
 ·have hE:wrapE s width=([],7):=if_neg h
  rw [hE]
  by_cases h1:1≤width
  ·have d1:decide (width<(1:Int))=false:=decide_eq_false (by omega)
   have d2:decide ((999:Int)<width)=true:=decide_eq_true (by omega)
   clear h hE HWO
   go_enter Tryz.func25,Tryz.ntmps25
   go_wp2_with fail
   go_ret2
   exact ⟨_,rfl,RowS.nil _ _,Below.refl _ _⟩
  ·have d1:decide (width<(1:Int))=true:=decide_eq_true (by omega)
   clear h hE HWO
   go_enter Tryz.func25,Tryz.ntmps25
   go_wp2_with fail
   go_ret2
   exact ⟨_,rfl,RowS.nil _ _,Below.refl _ _⟩
end Go.Proofs.YtbilphfbfnohmaaGreatDoor.Pz
namespace Go.Proofs.YtbilphfbfnohmaaGreatDoor.Pz
open Go.Shelf
def Tryz.lays156_ren:Go.Shelf.Ren:=⟨fun | 156=>27 | 165=>66 | 166=>48 | 169=>52 | 240=>91 | 241=>117 | 276=>144 | 277=>160 | n=>n,fun | 31=>26 | 9=>9 | 3=>3 | 4=>4 | 0=>0 | 20=>20 | 72=>73 | 76=>81 | 70=>70 | 37=>71 | 75=>80 | 127=>132 | 164=>171 | 5=>5 | 80=>92 | n=>n,fun | n=>n⟩
theorem Tryz.lays156:Go.Proofs.Lays.n156 Tryz.prog Tryz.lays156_ren:={
 mixed:=by kernel_rfl
 f156:=Tryz.func27.trans (congrArg some (by kernel_rfl))
 f165:=Tryz.func66.trans (congrArg some (by kernel_rfl))
 f166:=Tryz.func48.trans (congrArg some (by kernel_rfl))
 f169:=Tryz.func52.trans (congrArg some (by kernel_rfl))
 f240:=Tryz.func91.trans (congrArg some (by kernel_rfl))
 f241:=Tryz.func117.trans (congrArg some (by kernel_rfl))
 f276:=Tryz.func144.trans (congrArg some (by kernel_rfl))
 f277:=Tryz.func160.trans (congrArg some (by kernel_rfl))
 t0:=Tryz.underlying0
 a0:=Tryz.isAgg0
 z0:=Tryz.sizeOf0
 v0:=Tryz.zeroValue0
 t3:=Tryz.underlying3
 a3:=Tryz.isAgg3
 z3:=Tryz.sizeOf3
 v3:=Tryz.zeroValue3
 t4:=Tryz.underlying4
 a4:=Tryz.isAgg4
 z4:=Tryz.sizeOf4
 v4:=Tryz.zeroValue4
 t9:=Tryz.underlying9
 a9:=Tryz.isAgg9
 z9:=Tryz.sizeOf9
 v9:=Tryz.zeroValue9
 t20:=Tryz.underlying20
 a20:=Tryz.isAgg20
 z20:=Tryz.sizeOf20
 v20:=Tryz.zeroValue20
 t31:=Tryz.underlying26
 a31:=Tryz.isAgg26
 z31:=Tryz.sizeOf26
 v31:=Tryz.zeroValue26
 t37:=Tryz.underlying71
 a37:=Tryz.isAgg71
 z37:=Tryz.sizeOf71
 v37:=Tryz.zeroValue71
 t70:=Tryz.underlying70
 a70:=Tryz.isAgg70
 z70:=Tryz.sizeOf70
 v70:=Tryz.zeroValue70
 t72:=Tryz.underlying73
 a72:=Tryz.isAgg73
 z72:=Tryz.sizeOf73
 v72:=Tryz.zeroValue73
 t75:=Tryz.underlying80
 a75:=Tryz.isAgg80
 z75:=Tryz.sizeOf80
 v75:=Tryz.zeroValue80
 t76:=Tryz.underlying81
 a76:=Tryz.isAgg81
 z76:=Tryz.sizeOf81
 v76:=Tryz.zeroValue81
 t127:=Tryz.underlying132
 a127:=Tryz.isAgg132
 z127:=Tryz.sizeOf132
 v127:=Tryz.zeroValue132
 t164:=Tryz.underlying171
 a164:=Tryz.isAgg171
 z164:=Tryz.sizeOf171
 v164:=Tryz.zeroValue171 }
theorem Tryz.Builder_Extra_156:Builder.Extra Tryz.prog Tryz.lays156_ren:={
 sizeBuilder:=by kernel_rfl
 liesBuilder:=by kernel_rfl
 t5:=Tryz.underlying5
 a5:=Tryz.isAgg5
 z5:=Tryz.sizeOf5
 v5:=Tryz.zeroValue5
 infoByte:=by kernel_rfl
 cellsByte:=by kernel_rfl
 sizeByte:=by kernel_rfl
 neB5:=by decide }
open Go.RowKit in
theorem Tryz.strings_Join (bk o c:Nat) (xs:List ByteArray) (sep:ByteArray) (w:World) (hcells:∀ (j:Nat) x,xs[j]? = some x→w.cell? ⟨bk,o+j,none⟩=some (.string x)) (hbk:bk<w.heap.size) (hN:xs.length≤140737488355328) (hcap:xs.length≤c) (hlen:(Lib.join (xs.map (·.data.toList)) sep.data.toList).length≤140737488355328) :
  Calls Tryz.prog 27 #[.slice (some ⟨bk,o,none⟩) xs.length c,.string sep] w fun e w'=>e=.returned (.string ⟨(Lib.join (xs.map (·.data.toList)) sep.data.toList).toArray⟩)∧Below w.heap.size w w':=Any.strings_Join Tryz.lays156 Tryz.Builder_Extra_156 bk o c xs sep w hcells hbk hN hcap hlen
open Go.RowKit in
theorem Tryz.strings_Join_none (a:Option Addr) (c:Nat) (sep:ByteArray) (w:World) :
  Calls Tryz.prog 27 #[.slice a 0 c,.string sep] w fun e w'=>e=.returned (.string ⟨#[]⟩)∧w'=w:=Any.strings_Join_none Tryz.lays156 Tryz.Builder_Extra_156 a c sep w
end Go.Proofs.YtbilphfbfnohmaaGreatDoor.Pz
namespace Go.Proofs.YtbilphfbfnohmaaGreatDoor.Pz
open Go.RowKit
theorem joinB_lib:∀ l:List Str,joinB l=Lib.join l [32]
 | []=>rfl
 | [x]=>(Lib.join_one x [32]).symm
 | x::y::t=>by
  have ih:=joinB_lib (y::t)
  rw [Lib.join_cons] at ih ⊢
  show x++32::joinB (y::t)=_
  rw [ih]
  simp [Lib.joinTail]
theorem joinB_mem:∀ (l:List Str) (x:Str),x∈l→x.length≤(joinB l).length
 | [],_,h=>by cases h
 | [y],x,h=>by rw [List.mem_singleton.1 h];exact Nat.le_refl _
 | y::z::t,x,h=>by
  have h2:=joinB_mem (z::t)
  show x.length≤(y++32::joinB (z::t)).length
  rw [List.length_append,List.length_cons]
  rcases List.mem_cons.1 h with rfl | k
  ·omega
  ·have:=h2 x k;omega
theorem join_fn {B:Nat} {w:World} {v:Value} {l:List Str} (hr:RowS B w v l) (hl:l.length≤10000000) (hlen:(joinB l).length≤10000000) :
    Calls Tryz.prog 27 #[v,.string ⟨#[32]⟩] w fun e w'=>e=.returned (.string ⟨(joinB l).toArray⟩)∧Below w.heap.size w w':=by
  by_cases h0:l=[]
  · subst h0
    obtain ⟨a,c,rfl⟩:=hr.shape
    refine (Tryz.strings_Join_none a c ⟨#[32]⟩ w).mono ?_
    rintro e w1 ⟨rfl,rfl⟩
    exact ⟨rfl,Below.refl _ _⟩
  · rcases hr.2 with ⟨-,hm0⟩ | ⟨g,cap,cur,rfl,hb,hg,hcap,hrest⟩
    · exact absurd (List.length_eq_zero_iff.1 hm0) h0
    · have e1 : (l.map fun s => (⟨s.toArray⟩ : ByteArray)).map (·.data.toList) = l := by
        rw [List.map_map]
        exact List.map_id'' (fun _=>rfl) l
      have h:=Tryz.strings_Join g 0 cap (l.map fun s=>(⟨s.toArray⟩:ByteArray)) ⟨#[32]⟩ w (fun j x hx=>by
        rw [List.getElem?_map,Option.map_eq_some_iff] at hx
        obtain ⟨y,hy,rfl⟩:=hx
        obtain ⟨hj,e⟩:=List.getElem?_eq_some_iff.1 hy
        obtain ⟨g',he,-,hc⟩:=hr.at hj
        obtain rfl:g=g':=by simpa using he
        rw [Nat.zero_add,hc,e]) (hr.lt g rfl).1 (by simp;omega) (by simpa using hcap) (by rw [e1,← joinB_lib];omega)
      rw [e1,List.length_map] at h
      refine h.mono ?_
      rintro e w1 ⟨rfl,h1⟩
      exact ⟨by rw [joinB_lib],h1⟩
theorem wrapE_two (s:Str) (width:Int):(∃ a,a=wrapL width (wordsE s)∧wrapE s width=(a,0))∨wrapE s width=([],7):=by
 by_cases h:1≤width∧width≤999
 ·exact .inl ⟨_,rfl,if_pos h⟩
 ·exact .inr (if_neg h)
theorem wrap_facts (s:Str) (width:Int):(wrapL width (wordsE s)).length≤s.length+1∧(joinB (wrapL width (wordsE s))).length≤s.length+1∧∀ x∈wrapL width (wordsE s),x.length≤s.length+1:=by
 obtain ⟨gs,e,hf,-,ha⟩:=wrap_groups s width
 have h1:(joinB (wrapL width (wordsE s))).length≤s.length+1:=by
  rw [e,joinB_flat gs fun g hg=>(ha g hg).1,hf]
  have h2:=joinB_lens (wordsE s)
  have h3:lensB (wordsE s)≤s.length+1:=by
   have:=words_lens s []
   show lensB (wordsGo [] s)≤_
   simpa using this
  omega
 refine ⟨?_,h1,fun x hx=>Nat.le_trans (joinB_mem _ x hx) h1⟩
 have h4:gs.length≤gs.flatten.length:=by
  clear e hf
  induction gs with
  | nil=>exact Nat.le_refl _
  | cons g t ih=>
   have h5:=ih fun x hx=>ha x (List.mem_cons_of_mem _ hx)
   have h6:=List.length_pos_iff.2 (ha g (by simp)).1
   rw [List.flatten_cons,List.length_append,List.length_cons]
   omega
 rw [e,List.length_map]
 rw [hf] at h4
 have:=(words_many s).1
 omega
set_option maxRecDepth 1000000 in
set_option maxHeartbeats 4000000 in
theorem spellWraps_fn (s:Str) (width:Int) (w:World) (hs:s.length≤9223372036854775807) :
  Calls Tryz.prog 6 #[.string ⟨s.toArray⟩,.int .i64 width] w fun e w'=>e=.returned (.bool true)∧Below w.heap.size w w':=by
 have hsz:(⟨s.toArray⟩:ByteArray).size=s.length:=Lib.size_mk _
 by_cases hlong:1500<s.length
 ·have hd:decide ((1500:Int)<(s.length:Int))=true:=decide_eq_true (by omega)
  have hd2:(1500:Int)<(s.length:Int):=by omega
  have HA:=hid (awake_fn w)
  go_enter Tryz.func6,Tryz.ntmps6
  go_wp2_with ((with_reducible refine HA.out.mono ?_);rintro e w1 ⟨rfl,hb1⟩)
  go_ret
  exact ⟨rfl,hb1⟩
 ·have hd:decide ((1500:Int)<(s.length:Int))=false:=decide_eq_false (by omega)
  have hd2:¬ (1500:Int)<(s.length:Int):=by omega
  have HA:=hid awake_fn
  have H1:=hid (wrapP_fn s (by omega) width w)
  have H2:=hid (fun u=>wrapR_fn s (by omega) width u)
  rcases wrapE_two s width with ⟨a,ha,he⟩ | he
  ·rw [he] at H1 H2
   obtain ⟨hal,hjl,hll⟩:=wrap_facts s width
   have hline:=hid (fun i l h=>wrap_line s width i (l:=l) h)
   have hww:=hid (wrap_words s width)
   simp only [← ha] at hal hjl hll hline hww
   have HW:=hid (fun (l:Str) (h:l.length≤1000000) (u:World)=>wordsRR_fn l h u)
   clear he ha
   go_enter Tryz.func6,Tryz.ntmps6
   go_wp2_with (first|(go_at_call 24;refine H1.out.mono ?_;rintro e w1 ⟨v1,rfl,hr1,hb1⟩;obtain ⟨a1,c1,he1⟩:=hr1.shape;subst he1;have HR1:=hid hr1;have HB1:=hid hb1;clear hr1 hb1)|(go_at_call 25;refine (H2.out _).mono ?_;rintro e w2 ⟨v2,rfl,hr2,hb2⟩;obtain ⟨a2,c2,he2⟩:=hr2.shape;subst he2;have HR2:=hid hr2;have HB2:=hid (HB1.out.trans (hb2.mono HB1.out.size));have HR12:=hid (HR1.out.on hb2);clear hr2 hb2)|(go_at_call 16;refine (sameG_fn HR12.out.strs HR2.out.strs (by omega) (by omega)).mono ?_;rintro e w3 ⟨rfl,hb3⟩;have HB3:=hid (HB2.out.trans (hb3.mono HB2.out.size));have HR3:=hid (HR12.out.on hb3);clear hb3))
   go_loopg [42] (a.length+1) (fun z iv wr=>∃ i:Nat,iv=.int .i64 (i:Nat)∧i≤a.length∧Below w3.heap.size w3 wr∧z=a.length+1-i)
   case atStart=>exact ⟨0,rfl,Nat.zero_le _,Below.refl _ _,rfl⟩
   case round=>
    obtain ⟨i,rfl,hi,hbl,rfl⟩:=hrel
    have HBL:=hid hbl
    have hrr:=HR3.out.on hbl
    by_cases hil:i<a.length
    ·have hilI:(i:Int)<(a.length:Int):=by omega
     obtain ⟨g1,hg1,-,hc1⟩:=hrr.at hil
     subst hg1
     have hx:a[i]? = some a[i]:=List.getElem?_eq_getElem hil
     generalize a[i]=l at hc1 hx
     have hlz:(⟨l.toArray⟩:ByteArray).size=l.length:=Lib.size_mk _
     have hl9:l.length≤2000:=by have:=hll l (List.mem_of_getElem? hx);omega
     obtain ⟨hn0,hone,hprev⟩:=hline.out i l hx
     have HWL:=hid (HW.out l (by omega) wr)
     obtain ⟨ws,hws⟩:∃ ws,ws=wordsE l:=⟨_,rfl⟩
     have hwl:ws.length≤3000:=by have:=(words_many l).1;rw [hws];omega
     rw [← hws] at hn0 hone hprev HWL
     have hpos:0<ws.length:=List.length_pos_iff.2 hn0
     have hzf:((ws.length:Int) == 0)=false:=by rw [beq_eq_false_iff_ne];omega
     have hzf2:¬ ((ws.length:Int)=0):=by omega
     have hw0:ws[0]? = some (ws.headD []):=by
      cases ws with
      | nil=>exact absurd rfl hn0
      | cons y t=>rfl
     have hkk:a.length+1-(i+1)<a.length+1-i:=by omega
     have hh9:(ws.headD []).length≤3000:=by
      have:=(words_many l).2 (ws.headD []) (by rw [← hws];exact List.mem_of_getElem? hw0)
      omega
     generalize ws.headD []=x at hprev hw0 hh9
     have hxz:(⟨x.toArray⟩:ByteArray).size=x.length:=Lib.size_mk _
     have HX:=hid hx
     have HRR:=hid hrr
     clear hws hn0 hbl hx
     by_cases hwd:width<(l.length:Int)
     ·have hwdd:decide (width<(l.length:Int))=true:=decide_eq_true hwd
      have hone1:ws.length=1:=by
       rcases Nat.lt_or_ge 1 ws.length with h | h
       ·exact absurd ⟨hwd,h⟩ hone
       ·omega
      have honed:decide ((1:Int)<(ws.length:Int))=false:=decide_eq_false (by omega)
      clear hone hone1 hrr
      by_cases hi0:i=0
      ·subst hi0
       clear hprev hw0
       go_wp2_with (go_at_call 26;refine HWL.out.mono ?_;rintro e w5 ⟨v5,rfl,hr5,hb5⟩;obtain ⟨a5,c5,he5⟩:=hr5.shape;subst he5;have HR5:=hid hr5;have HB5:=hid (HBL.out.trans (hb5.mono HBL.out.size));clear hr5 hb5)
       go_quiet (fail)
       go_wp2
       go_roundg (a.length+1-(0+1))
       case measure=>exact hkk
       case rel=>exact ⟨0+1,by go_num,by omega,HB5.out.trans ⟨rfl,rfl,rfl,Nat.le_refl _,fun _ _=>rfl⟩,rfl⟩
      ·have HI0:=hid hi0
       obtain ⟨j,rfl⟩:∃ j,i=j+1:=⟨i-1,by omega⟩
       have hja:j<a.length:=by omega
       have hpx:a[j]? = some a[j]:=List.getElem?_eq_getElem hja
       have hp2:=hprev a[j] (by omega) (by rw [Nat.add_sub_cancel];exact hpx)
       have hpl:a[j].length≤2000:=by have:=hll a[j] (List.mem_of_getElem? hpx);omega
       obtain ⟨y,hy⟩:∃ y,y=a[j]:=⟨_,rfl⟩
       rw [← hy] at hp2 hpl
       have HY:=hid hy
       have hyz:(⟨y.toArray⟩:ByteArray).size=y.length:=Lib.size_mk _
       have hfd:decide ((y.length:Int)+1+(x.length:Int)≤width)=false:=decide_eq_false (by omega)
       have hi0d:(0:Int)<(j:Int)+1:=by omega
       replace hilI:(j:Int)+1<(a.length:Int):=by omega
       have hij0:(0:Int)≤(j:Int):=by omega
       have hjI:(j:Int)<(a.length:Int):=by omega
       have HWX:=hid hw0
       clear hprev hw0 hp2 hpx hy hi0
       go_wp2_with (go_at_call 26;refine HWL.out.mono ?_;rintro e w5 ⟨v5,rfl,hr5,hb5⟩;obtain ⟨a5,c5,he5⟩:=hr5.shape;subst he5;obtain ⟨g5,hg5,-,hc5⟩:=hr5.at hpos;subst hg5;obtain ⟨g6,hg6,-,hc6⟩:=(HRR.out.on hb5).at hja;have e6:g1=g6:=congrArg Addr.block (Option.some.inj hg6);subst e6;rw [← HY.out] at hc6;rw [show ws[0]=x from Option.some.inj ((List.getElem?_eq_getElem hpos).symm.trans HWX.out)] at hc5;have HR5:=hid hr5;have HB5:=hid (HBL.out.trans (hb5.mono HBL.out.size));clear hr5 hb5 hg6)
       go_quiet (fail)
       go_wp2
       go_roundg (a.length+1-(j+1+1))
       case measure=>exact hkk
       case rel=>exact ⟨j+1+1,by go_num,by omega,HB5.out.trans ⟨rfl,rfl,rfl,Nat.le_refl _,fun _ _=>rfl⟩,rfl⟩
     ·have hwdd:decide (width<(l.length:Int))=false:=decide_eq_false hwd
      clear hone hrr
      by_cases hi0:i=0
      ·subst hi0
       clear hprev hw0
       go_wp2_with (go_at_call 26;refine HWL.out.mono ?_;rintro e w5 ⟨v5,rfl,hr5,hb5⟩;obtain ⟨a5,c5,he5⟩:=hr5.shape;subst he5;have HR5:=hid hr5;have HB5:=hid (HBL.out.trans (hb5.mono HBL.out.size));clear hr5 hb5)
       go_quiet (fail)
       go_wp2
       go_roundg (a.length+1-(0+1))
       case measure=>exact hkk
       case rel=>exact ⟨0+1,by go_num,by omega,HB5.out.trans ⟨rfl,rfl,rfl,Nat.le_refl _,fun _ _=>rfl⟩,rfl⟩
      ·have HI0:=hid hi0
       obtain ⟨j,rfl⟩:∃ j,i=j+1:=⟨i-1,by omega⟩
       have hja:j<a.length:=by omega
       have hpx:a[j]? = some a[j]:=List.getElem?_eq_getElem hja
       have hp2:=hprev a[j] (by omega) (by rw [Nat.add_sub_cancel];exact hpx)
       have hpl:a[j].length≤2000:=by have:=hll a[j] (List.mem_of_getElem? hpx);omega
       obtain ⟨y,hy⟩:∃ y,y=a[j]:=⟨_,rfl⟩
       rw [← hy] at hp2 hpl
       have HY:=hid hy
       have hyz:(⟨y.toArray⟩:ByteArray).size=y.length:=Lib.size_mk _
       have hfd:decide ((y.length:Int)+1+(x.length:Int)≤width)=false:=decide_eq_false (by omega)
       have hi0d:(0:Int)<(j:Int)+1:=by omega
       replace hilI:(j:Int)+1<(a.length:Int):=by omega
       have hij0:(0:Int)≤(j:Int):=by omega
       have hjI:(j:Int)<(a.length:Int):=by omega
       have HWX:=hid hw0
       clear hprev hw0 hp2 hpx hy hi0
       go_wp2_with (go_at_call 26;refine HWL.out.mono ?_;rintro e w5 ⟨v5,rfl,hr5,hb5⟩;obtain ⟨a5,c5,he5⟩:=hr5.shape;subst he5;obtain ⟨g5,hg5,-,hc5⟩:=hr5.at hpos;subst hg5;obtain ⟨g6,hg6,-,hc6⟩:=(HRR.out.on hb5).at hja;have e6:g1=g6:=congrArg Addr.block (Option.some.inj hg6);subst e6;rw [← HY.out] at hc6;rw [show ws[0]=x from Option.some.inj ((List.getElem?_eq_getElem hpos).symm.trans HWX.out)] at hc5;have HR5:=hid hr5;have HB5:=hid (HBL.out.trans (hb5.mono HBL.out.size));clear hr5 hb5 hg6)
       go_quiet (fail)
       go_wp2
       go_roundg (a.length+1-(j+1+1))
       case measure=>exact hkk
       case rel=>exact ⟨j+1+1,by go_num,by omega,HB5.out.trans ⟨rfl,rfl,rfl,Nat.le_refl _,fun _ _=>rfl⟩,rfl⟩
    ·have hilI:¬ ((i:Int)<(a.length:Int)):=by omega
     have HRF:=hid hrr
     clear hbl hrr
     have HJ:=hid (join_fn HRF.out (by omega) (by omega))
     have HB4:=hid (HB3.out.trans (HBL.out.mono HB3.out.size))
     have HWJ:=hid (fun u=>by have h:=wordsRR_fn (joinB a) (by omega) u;rw [hww.out] at h;exact h)
     have HWS:=hid (fun u=>wordsRR_fn s (by omega) u)
     have hmany:=(words_many s).1
     go_wp2_with (first|(go_at_call 27;refine HJ.out.mono ?_;rintro e w5 ⟨rfl,hb5⟩;have HB5:=hid (HB4.out.trans (hb5.mono HB4.out.size));clear hb5)|(go_at_call 26;refine (HWJ.out _).mono ?_;rintro e w6 ⟨v6,rfl,hr6,hb6⟩;have HR6:=hid hr6;have HB6:=hid (HB5.out.trans (hb6.mono HB5.out.size));clear hr6 hb6 HWJ)|(go_at_call 26;refine (HWS.out _).mono ?_;rintro e w7 ⟨v7,rfl,hr7,hb7⟩;have HR7:=hid hr7;have HR67:=hid (HR6.out.on hb7);have HB7:=hid (HB6.out.trans (hb7.mono HB6.out.size));clear hr7 hb7)|(go_at_call 16;refine (sameG_fn HR67.out.strs HR7.out.strs (by omega) (by omega)).mono ?_;rintro e w8 ⟨rfl,hb8⟩;have HB8:=hid (HB7.out.trans (hb8.mono HB7.out.size));clear hb8)|(go_at_call 12;refine (HA.out _).mono ?_;rintro e w9 ⟨rfl,hb9⟩;have HB9:=hid (HB8.out.trans (hb9.mono HB8.out.size));clear hb9))
     go_ret
     exact ⟨rfl,HB9.out⟩
  ·rw [he] at H1 H2
   clear he
   go_enter Tryz.func6,Tryz.ntmps6
   go_wp2_with (first|(go_at_call 24;refine H1.out.mono ?_;rintro e w1 ⟨v1,rfl,hr1,hb1⟩;have HR1:=hid hr1;have HB1:=hid hb1;clear hr1 hb1)|(go_at_call 25;refine (H2.out _).mono ?_;rintro e w2 ⟨v2,rfl,hr2,hb2⟩;have HR2:=hid hr2;have HB2:=hid (HB1.out.trans (hb2.mono HB1.out.size));have HR12:=hid (HR1.out.on hb2);clear hr2 hb2)|(go_at_call 16;refine (sameG_fn HR12.out.strs HR2.out.strs (by simp) (by simp)).mono ?_;rintro e w3 ⟨rfl,hb3⟩;have HB3:=hid (HB2.out.trans (hb3.mono HB2.out.size));clear hb3)|(go_at_call 12;refine (HA.out _).mono ?_;rintro e w9 ⟨rfl,hb9⟩;have HB9:=hid (HB3.out.trans (hb9.mono HB3.out.size));clear hb9))
   go_ret
   exact ⟨rfl,HB9.out⟩
end Go.Proofs.YtbilphfbfnohmaaGreatDoor.Pz
