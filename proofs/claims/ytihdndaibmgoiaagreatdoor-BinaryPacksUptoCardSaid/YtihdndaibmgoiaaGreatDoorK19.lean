/-
  Part K19 of the proofs of this seat, merged by a program out of 2 texts; remarks are struck.
-/
import Derived.Test.YtihdndaibmgoiaaGreatDoorK18
import Derived.Test.YtihdndaibmgoiaaGreatDoorK15
namespace Go.Proofs.YtihdndaibmgoiaaGreatDoor.Pz
open Go.RowKit
attribute [local go_sem] Oper.semAt_some
set_option maxRecDepth 100000 in
set_option maxHeartbeats 2000000 in
theorem whiteAt_fn (s l:Str) (hs:s.length≤1000000) (i:Nat) (ha:At s l i) (w:World):Calls Tryz.prog 208 #[.string ⟨s.toArray⟩,.int .i64 (i:Nat)] w fun e w'=>(∃ j:Nat,e=.returned (.int .i64 (j:Nat))∧At s (l.dropWhile white) j)∧w'=w:=by
 have hsz:(⟨s.toArray⟩:ByteArray).size=s.length:=Lib.size_mk _
 obtain ⟨R,hR⟩:∃ R,R=l.dropWhile white:=⟨_,rfl⟩
 rw [← hR]
 have HR:=hid hR
 have HA:=hid ha
 clear hR ha
 go_enter Tryz.func208,Tryz.ntmps208
 go_wp2_with fail
 go_loopg [1] l.length (fun k iv wr=>∃ (j:Nat) (m:Str),iv=.int .i64 (j:Nat)∧At s m j∧m.dropWhile white=R∧wr=w∧k=m.length)
 case atStart=>exact ⟨i,l,rfl,HA.out,HR.out.symm,rfl,rfl⟩
 case round=>
  obtain ⟨j,m,rfl,ha2,hm,hw,hk⟩:=hrel
  replace hk:=hk.symm
  subst hk
  subst hw
  have HA2:=hid ha2
  have HM:=hid hm
  have hlen:=ha2.len
  clear ha2 hm
  cases m with
  | nil=>
   have hjl:¬ ((j:Int)<(s.length:Int)):=by simp at hlen;omega
   go_wp2
   go_ret
   exact ⟨⟨j,rfl,by rw [← HM.out];exact HA2.out⟩,rfl⟩
  | cons c t=>
   have hlt:=HA2.out.lt
   have hltI:(j:Int)<(s.length:Int):=by omega
   have hx:=HA2.out.byte
   have hwf:=whiteR_fn c wr
   cases hw:white c with
   | true=>
    rw [hw] at hwf
    have HWF:=hid hwf
    have HM2:=hid (show t.dropWhile white=R by have h:=HM.out;rw [List.dropWhile_cons_of_pos hw] at h;exact h)
    have hkk:t.length<(c::t).length:=by simp
    clear hwf hw
    go_wp2_with (go_at_call 209;(with_reducible refine HWF.out.mono ?_);rintro e w3 ⟨rfl,rfl⟩)
    go_roundg t.length
    case measure=>exact hkk
    case rel=>exact ⟨j+1,t,by go_num,HA2.out.tail,HM2.out,rfl,rfl⟩
   | false=>
    rw [hw] at hwf
    have HWF:=hid hwf
    have HM2:=hid (show c::t=R by have h:=HM.out;rw [List.dropWhile_cons_of_neg (by rw [hw];decide)] at h;exact h)
    clear hwf hw
    go_wp2_with (go_at_call 209;(with_reducible refine HWF.out.mono ?_);rintro e w3 ⟨rfl,rfl⟩)
    go_ret
    exact ⟨⟨j,rfl,by rw [← HM2.out];exact HA2.out⟩,rfl⟩
theorem drop_white (l:Str):(l.dropWhile white).dropWhile white=l.dropWhile white:=by
 induction l with
 | nil=>rfl
 | cons c t ih=>
  cases h:white c with
  | true=>rw [List.dropWhile_cons_of_pos h];exact ih
  | false=>
   rw [List.dropWhile_cons_of_neg (by rw [h];decide),List.dropWhile_cons_of_neg (by rw [h];decide)]
theorem drop_white_len (l:Str):(l.dropWhile white).length≤l.length:=by
 induction l with
 | nil=>exact Nat.le_refl _
 | cons c t ih=>
  cases h:white c with
  | true=>rw [List.dropWhile_cons_of_pos h,List.length_cons];omega
  | false=>rw [List.dropWhile_cons_of_neg (by rw [h];decide)];exact Nat.le_refl _
set_option maxRecDepth 100000 in
set_option maxHeartbeats 4000000 in
theorem wordsR_fn (s:Str) (hs:s.length≤1000000) (w:World):Calls Tryz.prog 187 #[.string ⟨s.toArray⟩] w fun e w'=>∃ v,e=.returned v∧RowS w.heap.size w' v (wordsE s)∧Below w.heap.size w w':=by
 have hsz:(⟨s.toArray⟩:ByteArray).size=s.length:=Lib.size_mk _
 obtain ⟨R,hR⟩:∃ R,R=wordsE s:=⟨_,rfl⟩
 rw [← hR]
 have HR:=hid hR
 clear hR
 have HWA:=hid (fun l i ha u=>whiteAt_fn s l hs i ha u)
 go_enter Tryz.func187,Tryz.ntmps187
 go_wp2_with (go_at_call 208;refine (HWA.out s 0 (At.start s) _).mono ?_;rintro e w1 ⟨⟨j0,rfl,hj0⟩,hw⟩;subst hw)
 have HJ0:=hid hj0
 clear hj0
 go_loopg [3,4,5] (s.length+1-j0) (fun k ov iv ev wr=>∃ (i:Nat) (l:Str) (out:List Str),iv=.int .i64 (i:Nat)∧At s l i∧l.dropWhile white=l∧R=out++wordsGo [] l∧RowS w1.heap.size wr ov out∧Below w1.heap.size w1 wr∧out.length≤i∧k=s.length+1-i)
 case atStart=>exact ⟨j0,s.dropWhile white,[],rfl,HJ0.out,drop_white s,by rw [HR.out];exact words_skip s,RowS.nil _ _,Below.refl _ _,Nat.zero_le _,rfl⟩
 case round=>
  obtain ⟨i,l,out,rfl,ha,hdw,hR,hrow,hbl,hol,hk⟩:=hrel
  replace hk:=hk.symm
  subst hk
  obtain ⟨ao,co,hov⟩:=hrow.shape
  subst hov
  have HA:=hid ha
  have HDW:=hid hdw
  have HRR:=hid hR
  have HROW:=hid hrow
  have HBL:=hid hbl
  have hlen:=ha.len
  have hBr:w1.heap.size≤wr.heap.size:=hbl.size
  clear ha hdw hR hrow hbl HJ0
  cases l with
  | nil=>
   have hil:¬ ((i:Int)<(s.length:Int)):=by simp at hlen;omega
   go_wp2
   go_ret
   exact ⟨_,rfl,by rw [HRR.out];show RowS _ _ _ (out++[]);rw [List.append_nil];exact HROW.out,HBL.out⟩
  | cons c t=>
   have hdark:white c=false:=by
    cases h:white c with
    | false=>rfl
    | true=>
     have h2:=HDW.out
     rw [List.dropWhile_cons_of_pos h] at h2
     have h3:=drop_white_len t
     rw [h2,List.length_cons] at h3
     omega
   have HDK:=hid hdark
   have hlt:=HA.out.lt
   have hltI:(i:Int)<(s.length:Int):=by omega
   clear hdark HDW
   go_wp2_with fail
   go_loopg [5] (c::t).length (fun k ev w2=>∃ (j:Nat) (q r:Str),ev=.int .i64 (j:Nat)∧At s r j∧c::t=q++r∧(∀ x∈q,white x=false)∧j=i+q.length∧w2=wr∧k=r.length)
   case atStart=>exact ⟨i,[],c::t,rfl,HA.out,rfl,by simp,rfl,rfl,rfl⟩
   case round=>
    obtain ⟨j,q,r,rfl,har,hqr,hq,hj,hw2,hk⟩:=hrel
    replace hk:=hk.symm
    subst hk
    subst hw2
    have HAR:=hid har
    have HQR:=hid hqr
    have HQ:=hid hq
    have HJ:=hid hj
    have hlr:=har.len
    have HFIN:=hid (show (r=[]∨∃ c t,r=c::t∧white c=true)→1≤q.length∧R=(out++[q])++wordsGo [] (r.dropWhile white) by
     intro hr
     have hq1:q≠[]:=by
      rintro rfl
      rcases hr with rfl | ⟨d,r',rfl,hd⟩
      ·cases HQR.out
      ·have h:=HQR.out
       rw [List.nil_append] at h
       rw [← (List.cons.inj h).1,HDK.out] at hd
       cases hd
     refine ⟨List.length_pos_iff.2 hq1,?_⟩
     have e:=words_run q [] r HQ.out
     rw [List.nil_append] at e
     rw [HRR.out,HQR.out,e,words_end q r hq1 hr,← words_skip r,List.append_assoc]
     rfl)
    have hext:(⟨s.toArray⟩:ByteArray).extract i j=⟨q.toArray⟩:=by
     have h:=HA.out
     rw [HQR.out] at h
     rw [HJ.out]
     exact h.text
    have hij:(i:Int)≤(j:Int):=by omega
    have hjs:(j:Int)≤(s.length:Int):=by omega
    have hnl:out.length≤10000000:=by omega
    have hj1:i+q.length≤j:=by omega
    have hj2:j≤i+q.length:=by omega
    clear har hqr hq hj
    cases r with
    | nil=>
     have hjl:¬ ((j:Int)<(s.length:Int)):=by simp at hlr;omega
     obtain ⟨hq1,hRN⟩:=HFIN.out (.inl rfl)
     have HRN:=hid hRN
     clear hRN
     clear HFIN
     go_wp2_with (first|(at_builtin;refine app_one rfl rfl (.tmp 29) (.tmp 34) rfl w1.heap.size _ _ q rfl HROW.out rfl hBr hnl ?_;intro v9 w9 hr9 hg9 hv9;have HR9:=hid hr9;have HG9:=hid hg9;clear hr9 hg9 hv9)|(go_at_call 208;refine (HWA.out ([]:Str) j HAR.out _).mono ?_;rintro e w5 ⟨⟨j2,rfl,hj2⟩,hw5⟩;subst hw5;have HJ2:=hid hj2;clear hj2))
     have hj2l:=HJ2.out.len
     have hdl:=drop_white_len ([]:Str)
     have hl0:=HAR.out.len
     go_roundg (s.length+1-j2)
     case measure=>omega
     case rel=>exact ⟨j2,([]:Str).dropWhile white,out++[q],rfl,HJ2.out,drop_white ([]:Str),HRN.out,HR9.out,HBL.out.grown HG9.out hBr (fun k hk=>(HROW.out.lt k hk).2),by rw [List.length_append];simp only [List.length_cons,List.length_nil];omega,rfl⟩
    | cons d r'=>
     have hltj:=HAR.out.lt
     have hltjI:(j:Int)<(s.length:Int):=by omega
     have hx:=HAR.out.byte
     have hwf:=whiteR_fn d wr
     cases hwd:white d with
     | false=>
      rw [hwd] at hwf
      have HWF:=hid hwf
      have HDD:=hid hwd
      clear hwf hwd hext hij
      go_wp2_with (go_at_call 209;(with_reducible refine HWF.out.mono ?_);rintro e w3 ⟨rfl,rfl⟩)
      go_roundg r'.length
      case measure=>simp
      case rel=>exact ⟨j+1,q++[d],r',by go_num,HAR.out.tail,by rw [HQR.out];simp,fun x hx=>by rcases List.mem_append.1 hx with h | h;exact HQ.out x h;rw [List.mem_singleton.1 h];exact HDD.out,by rw [HJ.out,List.length_append];simp only [List.length_cons,List.length_nil];omega,rfl,rfl⟩
     | true=>
      rw [hwd] at hwf
      have HWF:=hid hwf
      obtain ⟨hq1,hRN⟩:=HFIN.out (.inr ⟨d,r',rfl,hwd⟩)
      have HRN:=hid hRN
      clear hwf hwd hRN
      clear HFIN
      go_wp2_with (first|(go_at_call 209;(with_reducible refine HWF.out.mono ?_);rintro e w3 ⟨rfl,rfl⟩)|(at_builtin;refine app_one rfl rfl (.tmp 29) (.tmp 34) rfl w1.heap.size _ _ q rfl HROW.out rfl hBr hnl ?_;intro v9 w9 hr9 hg9 hv9;have HR9:=hid hr9;have HG9:=hid hg9;clear hr9 hg9 hv9)|(go_at_call 208;refine (HWA.out (d::r') j HAR.out _).mono ?_;rintro e w5 ⟨⟨j2,rfl,hj2⟩,hw5⟩;subst hw5;have HJ2:=hid hj2;clear hj2))
      have hj2l:=HJ2.out.len
      have hdl:=drop_white_len (d::r')
      have hl0:=HAR.out.len
      go_roundg (s.length+1-j2)
      case measure=>omega
      case rel=>exact ⟨j2,(d::r').dropWhile white,out++[q],rfl,HJ2.out,drop_white (d::r'),HRN.out,HR9.out,HBL.out.grown HG9.out hBr (fun k hk=>(HROW.out.lt k hk).2),by rw [List.length_append];simp only [List.length_cons,List.length_nil];omega,rfl⟩
theorem wordsRR_fn (s:Str) (hs:s.length≤1000000) (w:World):Calls Tryz.prog 168 #[.string ⟨s.toArray⟩] w fun e w'=>∃ v,e=.returned v∧RowS w.heap.size w' v (wordsE s)∧Below w.heap.size w w':=by
 have HW:=hid (wordsR_fn s hs w)
 go_enter Tryz.func168,Tryz.ntmps168
 go_wp2_with (go_at_call 187;refine HW.out.mono ?_;rintro e w1 ⟨v,rfl,hr,hb⟩;have HR:=hid hr;have HB:=hid hb;clear hr hb)
 go_ret
 exact ⟨_,rfl,HR.out,HB.out⟩
theorem can_cases (s:Str):(canRes s=([],2)∧badW s=11)∨(canRes s=([],4)∧badW s=4)∨(canRes s=(txt (pVal s),0)∧badW s=0∧(pVal s).natAbs<big600):=by
 rw [canRes_eq]
 unfold badW v64
 by_cases h:pOK s=true
 ·rw [if_pos h,if_pos h]
  by_cases hb:big600≤(pVal s).natAbs
  ·rw [if_pos hb,resOf_big _ hb]
   exact .inr (.inl ⟨rfl,rfl⟩)
  ·rw [if_neg hb,resOf_small _ (by omega)]
   exact .inr (.inr ⟨rfl,rfl,by omega⟩)
 ·rw [if_neg h,if_neg h]
  exact .inl ⟨rfl,rfl⟩
def LowQ (s:Str) (K:Nat) (w:World) (e:Ending) (w':World):Prop:=∃ v,e=.returned (.tuple #[v,.int .i64 (badW s)])∧RowY w.heap.size w' v (if badW s=0 then lowE K (pVal s) else [])∧Below w.heap.size w w'
theorem div256_fn (z:Int) (hz:z.natAbs<big600) (w:World):Calls Tryz.prog 14 #[.string ⟨(txt z).toArray⟩,.string ⟨#[50,53,54]⟩] w fun e w'=>e=.returned (.tuple #[.string ⟨(txt (z / 256)).toArray⟩,.string ⟨(txt (z % 256)).toArray⟩,.int .i64 0])∧Below w.heap.size w w':=by
 have h:=divRf_fn (txt z) [50,53,54] (Nat.le_trans (txt_len z hz) (by decide)) (by decide) w
 have h1:=txt_read z
 have h2:pOK [50,53,54]=true∧pVal [50,53,54]=256:=by decide
 have hb:(256:Nat)<big600:=big_room 256 (by decide)
 have e1:z.fdiv 256=z / 256:=Int.fdiv_eq_ediv_of_nonneg _ (by decide)
 have e2:z.fmod 256=z % 256:=Int.fmod_eq_emod_of_nonneg _ (by decide)
 rw [divVal_pos ⟨h1.1,h2.1⟩ (by rw [h2.2];decide),h1.2,h2.2,if_neg (by
  show ¬ (big600≤z.natAbs∨big600≤256)
  omega),divOK_small (by rw [e1];omega) (by rw [e2];omega),e1,e2] at h
 exact h
theorem intByte_fn (c:UInt8) (w:World):Calls Tryz.prog 188 #[.string ⟨(txt (c.toNat:Int)).toArray⟩] w fun e w'=>e=.returned (.tuple #[.int .i64 (c.toNat:Nat),.int .i64 0])∧Below w.heap.size w w':=by
 have hc:=c.toNat_lt
 have hz:((c.toNat:Int)).natAbs<big600:=big_room _ (by omega)
 have h:=intR_fn (txt (c.toNat:Int)) (Nat.le_trans (txt_len _ hz) (by decide)) w
 have h1:=txt_read (c.toNat:Int)
 unfold intRes at h
 rw [if_pos h1.1,h1.2,if_pos ⟨by omega,by omega⟩] at h
 exact h
set_option maxRecDepth 100000 in
set_option maxHeartbeats 4000000 in
theorem lowR_fn (s:Str) (hs:s.length≤1000000) (K:Nat) (hK:K≤8) (w:World):Calls Tryz.prog 169 #[.string ⟨s.toArray⟩,.int .i64 (K:Nat)] w (LowQ s K w):=by
 unfold LowQ
 have hc:=canR_fn s (by omega) w
 rcases can_cases s with ⟨h1,h2⟩ | ⟨h1,h2⟩ | ⟨h1,h2,h3⟩
 ·rw [h1] at hc
  rw [h2,if_neg (by decide)]
  have HC:=hid hc
  clear hc h1 h2
  go_enter Tryz.func169,Tryz.ntmps169
  go_wp2_with (go_at_call 15;refine HC.out.mono ?_;rintro e w1 ⟨rfl,hb⟩;have HB:=hid hb;clear hb)
  go_ret2
  exact ⟨_,rfl,RowY.nil _ _,HB.out⟩
 ·rw [h1] at hc
  rw [h2,if_neg (by decide)]
  have HC:=hid hc
  clear hc h1 h2
  go_enter Tryz.func169,Tryz.ntmps169
  go_wp2_with (go_at_call 15;refine HC.out.mono ?_;rintro e w1 ⟨rfl,hb⟩;have HB:=hid hb;clear hb)
  go_ret2
  exact ⟨_,rfl,RowY.nil _ _,HB.out⟩
 ·rw [h1] at hc
  rw [h2,if_pos rfl]
  have HC:=hid hc
  obtain ⟨z0,hz0⟩:∃ z0,z0=pVal s:=⟨_,rfl⟩
  rw [← hz0] at HC h3 ⊢
  have H3:=hid h3
  clear hc h1 h2 hz0 h3
  go_enter Tryz.func169,Tryz.ntmps169
  go_wp2_with (go_at_call 15;refine HC.out.mono ?_;rintro e w1 ⟨rfl,hb⟩;have HB:=hid hb;clear hb)
  go_loopg [6,8,9,10,11,12,13,25] K (fun k nv ov qv rv xv kv yv iv wr=>∃ (i:Nat) (z:Int) (out:Str),iv=.int .i64 (i:Nat)∧nv=.string ⟨(txt z).toArray⟩∧i≤K∧z.natAbs<big600∧lowE K z0=out++lowE (K-i) z∧out.length=i∧RowY w1.heap.size wr ov out∧Below w1.heap.size w1 wr∧k=K-i)
  case atStart=>exact ⟨0,z0,[],rfl,rfl,Nat.zero_le _,H3.out,rfl,rfl,RowY.nil _ _,Below.refl _ _,rfl⟩
  case round=>
   obtain ⟨i,z,out,rfl,rfl,hiK,hz,hlo,hol,hrow,hbl,hk⟩:=hrel
   replace hk:=hk.symm
   subst hk
   obtain ⟨ao,co,hov⟩:=hrow.shape
   subst hov
   have HLO:=hid hlo
   have HROW:=hid hrow
   have HBL:=hid hbl
   have HZ:=hid hz
   have HOL:=hid hol
   have hs4:=hbl.size
   clear hlo hrow hbl hol
   rcases Nat.lt_or_ge i K with hlt | hge
   ·have hltI:(i:Int)<(K:Int):=by omega
    obtain ⟨ch,hch⟩:∃ ch:UInt8,(z % 256)=(ch.toNat:Int):=⟨UInt8.ofNat (z % 256).toNat,by
     show z % 256=(((z % 256).toNat % 256:Nat):Int)
     omega⟩
    have hd:=div256_fn z hz
    rw [hch] at hd
    have HD:=hid hd
    have HI:=hid (fun u=>intByte_fn ch u)
    have hwc:IntKind.u8.wrap (ch.toNat:Int)=(ch.toNat:Int):=by have:=ch.toNat_lt;rw [IntKind.wrap_u8];omega
    have HLN:=hid (show lowE K z0=(out++[ch])++lowE (K-(i+1)) (z / 256) by
     rw [HLO.out,show K-i=K-(i+1)+1 by omega,lowE,List.append_assoc]
     have e:UInt8.ofNat (z % 256).toNat=ch:=by rw [hch];simp
     rw [e]
     rfl)
    have HZ2:=hid (show (z / 256).natAbs<big600 by have:=HZ.out;omega)
    clear hd hch hz
    go_wp2_with (first|(go_at_call 14;(with_reducible refine (HD.out _).mono ?_);rintro e w3 ⟨rfl,hb3⟩;have HB3:=hid hb3;have HR3:=hid (HROW.out.on hb3);clear hb3)|(go_at_call 188;(with_reducible refine (HI.out _).mono ?_);rintro e w4 ⟨rfl,hb4⟩;have HB4:=hid (HB3.out.trans (hb4.mono HB3.out.size));have HR4:=hid (HR3.out.on hb4);clear hb4)|(at_builtin;refine appB_one rfl rfl (.tmp 38) (.tmp 41) rfl w1.heap.size _ _ ch rfl HR4.out rfl (Nat.le_trans hs4 HB4.out.size) (by have:=HOL.out;omega) ?_;intro v9 w9 hr9 hg9 hv9;have HR9:=hid hr9;have HG9:=hid hg9;clear hr9 hg9 hv9))
    go_roundg (K-(i+1))
    case measure=>omega
    case rel=>exact ⟨i+1,z / 256,out++[ch],by go_num,rfl,hlt,HZ2.out,HLN.out,by rw [List.length_append,HOL.out];rfl,HR9.out,(HBL.out.trans (HB4.out.mono hs4)).grown HG9.out (Nat.le_trans hs4 HB4.out.size) (fun k hk=>(HROW.out.lt k hk).2),rfl⟩
   ·obtain rfl:i=K:=by omega
    have hnl:¬ ((i:Int)<(i:Int)):=by omega
    have HO:=hid (show lowE i z0=out by rw [HLO.out,Nat.sub_self];exact List.append_nil out)
    clear hge hiK
    go_wp2
    go_ret2
    exact ⟨_,rfl,by rw [HO.out];exact HROW.out.mono HB.out.size,HB.out.trans (HBL.out.mono HB.out.size)⟩
end Go.Proofs.YtihdndaibmgoiaaGreatDoor.Pz
namespace Go.Proofs.YtihdndaibmgoiaaGreatDoor.Pz
open Go.RowKit
attribute [local go_sem] Oper.semAt_some
def OneR (r:Sum Int Str) (w:World) (e:Ending) (w':World):Prop:=∃ v z x,e=.returned (.tuple #[v,.int .i64 z])∧RowX w.heap.size w' v x∧Below w.heap.size w w'∧(match r with | .inl k=>z=k | .inr y=>z=0∧x=y)
theorem RowX.nil (B:Nat) (w:World):RowX B w (.slice none 0 0) []:=(RowY.nil B w).toX
theorem grt_num {c:UInt8} (hw:1≤widthL c):grt c=highL c:=by
 have h:(List.range 256).all (fun n=>!decide (1≤widthL (UInt8.ofNat n)) || grt (UInt8.ofNat n) == highL (UInt8.ofNat n))=true:=by kernel_rfl
 have h2:=List.all_eq_true.1 h c.toNat (List.mem_range.2 c.toNat_lt)
 rw [UInt8.ofNat_toNat,decide_eq_true hw] at h2
 simpa using h2
theorem ord_at (hi:Bool) (l:Str) (i:Nat) (h:i<l.length):(ordE hi l)[i]? = some (if hi then l.getD (l.length-1-i) 0 else l.getD i 0):=by
 unfold ordE
 cases hi with
 | true=>
  rw [if_pos rfl,if_pos rfl,List.getElem?_reverse h,List.getD_eq_getElem?_getD,List.getElem?_eq_getElem (show l.length-1-i<l.length by omega)]
  rfl
 | false=>
  rw [if_neg (by simp),if_neg (by simp),List.getD_eq_getElem?_getD,List.getElem?_eq_getElem h]
  rfl
set_option maxRecDepth 1000000 in
set_option maxHeartbeats 16000000 in
theorem numbersR_fn (c:UInt8) (p:Bool) (n:Int) (hn:-2≤n∧n≤9999) (hw1:1≤widthL c) (s:Str) (hs:s.length≤100000) (w:World) :
    Calls Tryz.prog 141 #[.agg #[.int .u8 (c.toNat:Nat),.bool p,.int .i64 n],.string ⟨s.toArray⟩] w (OneR (numberedE ⟨c,p,n⟩ s) w):=by
  have hsz:(⟨s.toArray⟩:ByteArray).size=s.length:=Lib.size_mk _
  obtain ⟨K,hK⟩:∃ K,K=widthL c:=⟨_,rfl⟩
  have hK8:K≤8:=by rw [hK];exact widthL_le c
  have HK:=hid hK
  obtain ⟨R,hR⟩:∃ R,R=numberedE ⟨c,p,n⟩ s:=⟨_,rfl⟩
  rw [← hR]
  rw [numberedE_eq] at hR
  dsimp only at hR
  have hR0:=hid hR
  clear hR
  have HSZ:=hid (show ∀ u,Calls Tryz.prog 83 #[.int .u8 (c.toNat:Nat)] u fun e w'=>e=.returned (.int .i64 (K:Nat))∧w'=u from fun u=>by rw [hK];exact sizeR_fn c u)
  obtain ⟨hi,hhi⟩:∃ hi,hi=highL c:=⟨_,rfl⟩
  have HGR:=hid (show ∀ u,Calls Tryz.prog 133 #[.int .u8 (c.toNat:Nat)] u fun e w'=>e=.returned (.bool hi)∧w'=u from fun u=>by have h:=great_fn c u;rw [grt_num hw1,← hhi] at h;exact h)
  have HHI:=hid hhi
  rw [← hK] at hw1
  have HWB:=hid (wordsGo_bound s [])
  have HLO:=hid (fun (x:Str) (hx:x.length≤1000000) (k:Nat) (hk:k≤8) u=>lowR_fn x hx k hk u)
  obtain ⟨w0,hw0⟩:∃ w0,w0=w.alloc (.cells #[.int .u8 (c.toNat:Nat),.bool p,.int .i64 n] 103):=⟨_,rfl⟩
  obtain ⟨wa,hwa⟩:∃ wa,wa=w0.alloc (.cells #[.string ⟨s.toArray⟩] 9):=⟨_,rfl⟩
  have hz0:w0.heap.size=w.heap.size+1:=by rw [hw0];simp
  have hza:wa.heap.size=w.heap.size+1+1:=by rw [hwa];simp [hz0]
  have hba:Below w0.heap.size w0 wa:=by rw [hwa];exact belowA _ _
  have HC0:=hid (show wa.cell? ⟨w.heap.size,0,none⟩=some (.int .u8 (c.toNat:Nat)) from (hba.cell (p:=⟨w.heap.size,0,none⟩) (by show w.heap.size<w0.heap.size;omega)).trans (by rw [hw0,Lib.cell_of_heap (heap_alloc_new _ _)];rfl))
  have HC2:=hid (show wa.cell? ⟨w.heap.size,2,none⟩=some (.int .i64 n) from (hba.cell (p:=⟨w.heap.size,2,none⟩) (by show w.heap.size<w0.heap.size;omega)).trans (by rw [hw0,Lib.cell_of_heap (heap_alloc_new _ _)];rfl))
  have HBA:=hid (show Below w.heap.size w wa from (show Below w.heap.size w w0 by rw [hw0];exact belowA _ _).trans (hba.mono (by omega)))
  have HSA:=hid (show StrsAt wa (.slice (some ⟨w.heap.size+1,0,none⟩) 1 1) [s] by rw [hwa,← hz0];exact strs_new w0 [s])
  have HZA:=hid hza
  have HWA:=hid (show wa=(w.alloc (.cells #[.int .u8 (c.toNat:Nat),.bool p,.int .i64 n] 103)).alloc (.cells #[.string ⟨s.toArray⟩] 9) by rw [hwa,hw0])
  clear hw0 hwa hz0 hza hba hK hhi
  rcases (show n = -1 ∨ n = -2 ∨ ∃ m : Nat, n = (m : Int) ∧ m ≤ 9999 by
      rcases (show n = -1∨n = -2∨0≤n by omega) with h | h | h
      · exact .inl h
      · exact .inr (.inl h)
      · exact .inr (.inr ⟨n.toNat,by omega,by omega⟩)) with hq | hq | ⟨m,hq,hm9⟩
  · as_aux_lemma =>
      subst hq
      obtain ⟨L,hLe⟩:∃ L,L=[s]:=⟨_,rfl⟩
      have hnl:1=L.length:=by rw [hLe];rfl
      have HR1:=hid (show R=if badsE [s]=0 then .inr (encs c [s]) else .inl (badsE [s]) by rw [hR0.out,if_pos rfl])
      have HSL:=HSA
      rw [← hLe] at HSL
      have HLE:=hid hLe
      have HNL:=hid hnl
      have HNS:=hid (show L.length≤200000 by rw [hLe];show 1≤200000;omega)
      have HLL:=hid (show ∀ x∈L,x.length≤1000000 by rw [hLe];intro x hx;rw [List.mem_singleton.1 hx];omega)
      have HWW:=HBA
      have HCW:=HC0
      have HZW:=hid (show w.heap.size<wa.heap.size by have:=HZA.out;omega)
      have c2:=HC2.out
      rw [HWA.out] at c2
      clear hLe hnl
      go_enter Tryz.func141,Tryz.ntmps141
      go_wp2_with fail
      rw [← HWA.out]
      go_loopg [11,13,14,15,16,58] 1 (fun k ov xv bv ev jv iv wr=>∃ (i:Nat) (out:Str),iv=.int .i64 (i:Nat)∧i≤1∧out=encs c (L.take i)∧RowY wa.heap.size wr ov out∧Below wa.heap.size wa wr∧badsE (L.take i)=0∧k=1-i)
      case atStart=>exact ⟨0,[],rfl,Nat.zero_le _,rfl,RowY.nil _ _,Below.refl _ _,rfl,rfl⟩
      case round=>
        obtain ⟨i,out,rfl,hin,hout,hrow,hbl,hbd,hk⟩:=hrel
        replace hk:=hk.symm
        subst hk
        obtain ⟨ao,co,hov⟩:=hrow.shape
        subst hov
        have HROW:=hid hrow
        have HOUT:=hid hout
        have HBL:=hid hbl
        have HBD:=hid hbd
        have hs4:=hbl.size
        have c0:=(hbl.cell (p:=⟨w.heap.size,0,none⟩) (by have:=HZW.out;show w.heap.size<wa.heap.size;omega)).trans HCW.out
        have HCC:=hid c0
        have hsl:=HSL.out.below hbl
        clear hout hrow hbl hbd
        rcases Nat.lt_or_ge i 1 with hlt | hge
        · have hltI:(i:Int)<((1:Nat):Int):=by omega
          have hil:i<L.length:=by rw [← HNL.out];exact hlt
          obtain ⟨_,_,hsv,_,hcell⟩:=hsl
          obtain ⟨pa,hpa,hpb,hcx⟩:=hcell i hil
          simp only [Value.slice.injEq] at hsv
          obtain ⟨hs1,-,-⟩:=hsv
          rw [← hs1] at hpa
          obtain rfl:⟨w.heap.size+1,0,none⟩=pa:=Option.some.inj hpa
          have hltI1:(i:Int)<1:=by omega
          obtain ⟨x,hx⟩:∃ x,x=L[i]:=⟨_,rfl⟩
          rw [← hx,add_none,Nat.zero_add] at hcx
          have hxl:x.length≤1000000:=by rw [hx];exact HLL.out _ (List.getElem_mem hil)
          have HTK:=hid (show L.take (i+1)=L.take i++[x] by rw [hx,List.take_add_one,List.getElem?_eq_getElem hil];rfl)
          have HXM:=hid (show x∈L by rw [hx];exact List.getElem_mem hil)
          have HLX:=hid (HLO.out x hxl K hK8)
          unfold LowQ at HLX
          clear hx hxl hs1 hcell hpb
          by_cases hbx:badW x=0
          case neg=>
            have HBX:=hid hbx
            have hbn:(badW x == 0)=false:=beq_eq_false_iff_ne.2 hbx
            have hbn2:(badW x != 0)=true:=bne_iff_ne.2 hbx
            rw [if_neg hbx] at HLX
            have HRN := hid (show R = .inl (badW x) by have h1 : x = s := by have h2 := HXM.out; rw [HLE.out] at h2; exact List.mem_singleton.1 h2
                                                       rw [HR1.out, show badsE [s] = badW s by (show (if badW s = 0 then 0 else badW s) = badW s; rw [if_neg (by rw [← h1]; exact HBX.out)]), if_neg (by rw [← h1]; exact HBX.out), h1])
            clear hbx
            go_wp2_with (first|(go_at_call 83;(with_reducible refine (HSZ.out _).mono ?_);rintro e w3 ⟨rfl,hw3⟩;replace hw3:=hw3.symm;subst hw3)|(go_at_call 169;(with_reducible refine (HLX.out _).mono ?_);rintro e w5 ⟨v5,rfl,hr5,hb5⟩;have HB5:=hid hb5;clear hr5 hb5))
            go_ret2
            exact ⟨_,_,[],rfl,RowX.nil _ _,HWW.out.trans ((HBL.out.trans (HB5.out.mono hs4)).mono HWW.out.size),by rw [HRN.out]⟩
          have HBX:=hid hbx
          rw [if_pos hbx,hbx] at HLX
          obtain ⟨B,hB⟩:∃ B,B=lowE K (pVal x):=⟨_,rfl⟩
          have hBl:B.length=K:=by rw [hB];exact lowE_len _ _
          rw [← hB] at HLX
          have HENC:=hid (show encW c x=ordE hi B by unfold encW;rw [← HK.out,← HHI.out,hB])
          have HBL2:=hid hBl
          clear hbx hB
          go_wp2_with (first|(go_at_call 83;(with_reducible refine (HSZ.out _).mono ?_);rintro e w3 ⟨rfl,hw3⟩;replace hw3:=hw3.symm;subst hw3)|(go_at_call 169;(with_reducible refine (HLX.out _).mono ?_);rintro e w5 ⟨v5,rfl,hr5,hb5⟩;obtain ⟨a5,k5,he5⟩:=hr5.shape;rw [HBL2.out] at he5;subst he5;have HR5:=hid hr5;have HB5:=hid hb5;clear hr5 hb5))
          have c5:=(HB5.out.cell (p:=⟨w.heap.size,0,none⟩) (by have:=HZW.out;show w.heap.size<wr.heap.size;omega)).trans HCC.out
          have HC5:=hid c5
          clear c5 c0 hcx
          go_loopg [11,16,75] K (fun k ov jv iv wq=>∃ (j:Nat) (o2:Str),iv=.int .i64 (j:Nat)∧j≤K∧o2=out++(ordE hi B).take j∧RowY wa.heap.size wq ov o2∧RowX wr.heap.size wq (.slice a5 K k5) B∧Below wa.heap.size wa wq∧wq.cell? ⟨w.heap.size,0,none⟩=some (.int .u8 (c.toNat:Nat))∧(∀ g,ov.ownBlock=some g→a5=some ⟨g,0,none⟩→False)∧k=K-j)
          case atStart=>
            refine ⟨0,out,rfl,Nat.zero_le _,by rw [List.take_zero,List.append_nil],HROW.out.on HB5.out,?_,HBL.out.trans (HB5.out.mono hs4),HC5.out,fun g hg ha=>?_,rfl⟩
            · have h:=HR5.out.toX;exact h
            · have h1:=(HROW.out.lt g hg).1
              have h2:=(HR5.out.lt g (by rw [ha];rfl)).2
              omega
          case round=>
            obtain ⟨j,o2,rfl,hjK,ho2,hrow2,hrx,hbl2,hc2,hne,hk⟩:=hrel
            replace hk:=hk.symm
            subst hk
            obtain ⟨a2,co2,hov2⟩:=hrow2.shape
            subst hov2
            have HROW2:=hid hrow2
            have HO2:=hid ho2
            have HRX:=hid hrx
            have HBQ:=hid hbl2
            have HCQ:=hid hc2
            have HNE:=hid hne
            have hs5:=hbl2.size
            have ho9 : o2.length ≤ 1000000000 := by rw [ho2, List.length_append, List.length_take, HOUT.out, encs_len]; have h1 := HNS.out; have h2 : (L.take i).length ≤ 200000 := by rw [List.length_take]; omega
                                                    have h3:=Nat.mul_le_mul (widthL_le c) h2;omega
            clear ho2 hrow2 hrx hbl2 hne
            rcases Nat.lt_or_ge j K with hlt2 | hge2
            · have hltI2:(j:Int)<(K:Int):=by omega
              cases hi with
              | false=>
                obtain ⟨g5,ha5,hc5⟩:=HRX.out.at (i:=j) (by rw [HBL2.out];omega)
                subst ha5
                obtain ⟨q,hqq⟩:∃ q,q=B[j]'(by rw [HBL2.out];omega):=⟨_,rfl⟩
                rw [← hqq] at hc5
                have hq2:B.getD j 0=q:=by rw [List.getD_eq_getElem?_getD,List.getElem?_eq_getElem (by rw [HBL2.out];omega),hqq];rfl
                have HTQ:=hid (show (ordE false B).take (j+1)=(ordE false B).take j++[q] by
                  have h1:=ord_at false B j (by rw [HBL2.out];exact hlt2)
                  rw [if_neg (by simp),hq2] at h1
                  rw [List.take_add_one,h1]
                  rfl)
                clear hq2
                clear hqq
                go_wp2_with (first|(go_at_call 133;(with_reducible refine (HGR.out _).mono ?_);rintro e w3 ⟨rfl,hw3⟩;replace hw3:=hw3.symm;subst hw3)|(at_builtin;refine appB_one rfl rfl (.tmp 92) (.tmp 97) rfl wa.heap.size _ _ q rfl HROW2.out rfl hs5 ho9 ?_;intro v9 w9 hr9 hg9 hv9;have HR9:=hid hr9;have HG9:=hid hg9;have HV9:=hid hv9;clear hr9 hg9 hv9))
                go_roundg (K-(j+1))
                case measure=>omega
                case rel=>
                  have hrl:=HRX.out.lt g5 rfl
                  have hown:(Value.slice a2 o2.length co2).ownBlock≠some g5:=fun e=>HNE.out g5 e rfl
                  have hgl:=Nat.lt_of_lt_of_le HZW.out hs5
                  refine ⟨j+1,o2++[q],by go_num,hlt2,by rw [HO2.out,HTQ.out,List.append_assoc],HR9.out,HRX.out.heap (fun g hg=>HG9.out.block g (HRX.out.lt g hg).1 fun e=>?_) HG9.out.size,HBQ.out.grown HG9.out hs5 (fun k hk=>(HROW2.out.lt k hk).2),?_,fun g hg ha=>?_,rfl⟩
                  · obtain rfl:g5=g:=by cases hg;rfl
                    exact hown e.symm
                  · rw [cell_same (HG9.out.block w.heap.size hgl fun e=>?_)]
                    · exact HCQ.out
                    · have:=(HROW2.out.lt _ e.symm).2;have:=HZW.out;omega
                  · have h3:g5=g:=by cases ha;rfl
                    subst h3
                    rcases HV9.out g5 hg with h | h
                    · exact hown h
                    · omega
              | true=>
                obtain ⟨z,hz⟩:∃ z,z=K-1-j:=⟨_,rfl⟩
                have hzI:(K:Int)-1-(j:Int)=(z:Int):=by omega
                have hzK:(z:Int)<(K:Int):=by omega
                have hzn:z<K:=by omega
                obtain ⟨g5,ha5,hc5⟩:=HRX.out.at (i:=z) (by rw [HBL2.out];omega)
                subst ha5
                obtain ⟨q,hqq⟩:∃ q,q=B[z]'(by rw [HBL2.out];omega):=⟨_,rfl⟩
                rw [← hqq] at hc5
                have hq2:B.getD z 0=q:=by rw [List.getD_eq_getElem?_getD,List.getElem?_eq_getElem (by rw [HBL2.out];omega),hqq];rfl
                have HTQ:=hid (show (ordE true B).take (j+1)=(ordE true B).take j++[q] by
                  have h1:=ord_at true B j (by rw [HBL2.out];exact hlt2)
                  rw [if_pos rfl,show B.length-1-j=z by rw [HBL2.out,hz],hq2] at h1
                  rw [List.take_add_one,h1]
                  rfl)
                clear hq2
                clear hqq hz
                go_wp2_with (first|(go_at_call 133;(with_reducible refine (HGR.out _).mono ?_);rintro e w3 ⟨rfl,hw3⟩;replace hw3:=hw3.symm;subst hw3)|(at_builtin;refine appB_one rfl rfl (.tmp 81) (.tmp 90) rfl wa.heap.size _ _ q rfl HROW2.out rfl hs5 ho9 ?_;intro v9 w9 hr9 hg9 hv9;have HR9:=hid hr9;have HG9:=hid hg9;have HV9:=hid hv9;clear hr9 hg9 hv9))
                go_roundg (K-(j+1))
                case measure=>omega
                case rel=>
                  have hrl:=HRX.out.lt g5 rfl
                  have hown:(Value.slice a2 o2.length co2).ownBlock≠some g5:=fun e=>HNE.out g5 e rfl
                  have hgl:=Nat.lt_of_lt_of_le HZW.out hs5
                  refine ⟨j+1,o2++[q],by go_num,hlt2,by rw [HO2.out,HTQ.out,List.append_assoc],HR9.out,HRX.out.heap (fun g hg=>HG9.out.block g (HRX.out.lt g hg).1 fun e=>?_) HG9.out.size,HBQ.out.grown HG9.out hs5 (fun k hk=>(HROW2.out.lt k hk).2),?_,fun g hg ha=>?_,rfl⟩
                  · obtain rfl:g5=g:=by cases hg;rfl
                    exact hown e.symm
                  · rw [cell_same (HG9.out.block w.heap.size hgl fun e=>?_)]
                    · exact HCQ.out
                    · have:=(HROW2.out.lt _ e.symm).2;have:=HZW.out;omega
                  · have h3:g5=g:=by cases ha;rfl
                    subst h3
                    rcases HV9.out g5 hg with h | h
                    · exact hown h
                    · omega
            · obtain rfl:j=K:=by omega
              have hnl:¬ ((j:Int)<(j:Int)):=by omega
              have HTE:=hid (show o2=encs c (L.take (i+1)) by
                have h1:(ordE hi B).length=B.length:=by unfold ordE;split;exact List.length_reverse;rfl
                rw [HO2.out,HTK.out,encs_snoc,HENC.out,HOUT.out,show (ordE hi B).take j=ordE hi B from List.take_of_length_le (by rw [h1,HBL2.out];exact Nat.le_refl _)])
              have HBN:=hid (show badsE (L.take (i+1))=0 by rw [HTK.out,badsE_snoc,if_pos HBD.out];exact HBX.out)
              clear hge2 hjK
              go_wp2
              go_roundg (1-(i+1))
              case measure=>omega
              case rel=>exact ⟨i+1,o2,by go_num,hlt,HTE.out,HROW2.out,HBQ.out,HBN.out,rfl⟩
        · have hi1:i=1:=by omega
          subst hi1
          have hnl2:¬ (((1:Nat):Int)<1):=by omega
          have HTA:=hid (show L.take 1=L from List.take_of_length_le (by rw [← HNL.out];exact Nat.le_refl _))
          have HRN:=hid (show R=.inr out by
            have h1:=HBD.out
            rw [HTA.out] at h1
            rw [HOUT.out,HTA.out]
            exact by rw [HR1.out,← HLE.out,if_pos h1])
          clear hge hin
          go_wp2
          go_ret2
          exact ⟨_,_,out,rfl,HROW.out.toX.mono HWW.out.size,HWW.out.trans (HBL.out.mono HWW.out.size),by rw [HRN.out];exact ⟨rfl,rfl⟩⟩
  · as_aux_lemma =>
      subst hq
      obtain ⟨ws,hws⟩:∃ ws,ws=wordsE s:=⟨_,rfl⟩
      obtain ⟨nw,hnw⟩:∃ nw,nw=ws.length:=⟨_,rfl⟩
      have HNW:=hid hnw
      have hnw9:nw≤100001:=by rw [hnw,hws];have:=HWB.out.1;show (wordsGo [] s).length≤_;omega
      have HXS:=hid (show ∀ x∈ws,x.length≤1000000 by rw [hws];intro x hx;have h:=HWB.out.2 x hx;simp only [List.length_nil] at h;omega)
      have HR1:=hid (show R=if badsE ws=0 then .inr (encs c ws) else .inl (badsE ws) by rw [hR0.out,← hws,if_neg (show ¬ ((-2:Int) = -1) by decide),if_neg (show ¬ ((-2:Int)≠-2∧(ws.length:Int) < -2) from fun h=>h.1 rfl),if_pos (rfl:(-2:Int) = -2)])
      have HWR:=hid (wordsRR_fn s (by omega) wa)
      rw [← hws] at HWR
      clear hws hnw
      have c2:=HC2.out
      rw [HWA.out] at c2 HWR
      go_enter Tryz.func141,Tryz.ntmps141
      go_wp2_with (go_at_call 168;(with_reducible refine HWR.out.mono ?_);rintro e wb ⟨v1,rfl,hr1,hb1⟩;rw [← HWA.out] at hr1 hb1;obtain ⟨al,cl,he1⟩:=hr1.shape;rw [← HNW.out] at he1;subst he1;have HR8:=hid hr1;have HB1:=hid hb1;have c22:=(hb1.cell (p:=⟨w.heap.size,2,none⟩) (by have:=HZA.out;show w.heap.size<wa.heap.size;omega)).trans HC2.out;clear hr1 hb1)
      have HZB:=hid (show w.heap.size<wb.heap.size by have:=HZA.out;have:=HB1.out.size;omega)
      have HCB:=hid ((HB1.out.cell (p:=⟨w.heap.size,0,none⟩) (by have:=HZA.out;show w.heap.size<wa.heap.size;omega)).trans HC0.out)
      have HCB2:=hid c22
      have HAL:=hid (show ∀ p,al=some p→∃ g,p=⟨g,0,none⟩ by
        intro p hp
        rcases HR8.out.2 with ⟨e,_⟩ | ⟨g,cap,cur,e,_⟩
        · simp only [Value.slice.injEq] at e;rw [e.1] at hp;cases hp
        · simp only [Value.slice.injEq] at e;rw [e.1] at hp;exact ⟨g,(Option.some.inj hp).symm⟩)
      have HWB2:=hid (show Below w.heap.size w wb from HBA.out.trans (HB1.out.mono HBA.out.size))
      clear c22
      go_loopg [8,9,10,36] nw (fun k xv yv zv iv wr=>∃ (i:Nat),iv=.int .i64 (i:Nat)∧i≤nw∧badsE (ws.take i)=0∧Below wb.heap.size wb wr∧k=nw-i)
      case atStart=>exact ⟨0,rfl,Nat.zero_le _,rfl,Below.refl _ _,rfl⟩
      case round=>
        obtain ⟨i,rfl,hin,hbd,hbl,hk⟩:=hrel
        replace hk:=hk.symm
        subst hk
        have HBD:=hid hbd
        have HBC:=hid hbl
        have hs4:=hbl.size
        have hsl:=HR8.out.strs.below hbl
        have c02:=(hbl.cell (p:=⟨w.heap.size,2,none⟩) (by have:=HZB.out;show w.heap.size<wb.heap.size;omega)).trans HCB2.out
        clear hbd hbl
        rcases Nat.lt_or_ge i nw with hlt | hge
        · have hltI:(i:Int)<(nw:Int):=by omega
          have hil:i<ws.length:=by rw [← HNW.out];exact hlt
          obtain ⟨_,_,hsv,_,hcell⟩:=hsl
          obtain ⟨pa,hpa,hpb,hcx⟩:=hcell i hil
          simp only [Value.slice.injEq] at hsv
          obtain ⟨hs1,-,-⟩:=hsv
          rw [← hs1] at hpa
          obtain ⟨g7,hg7⟩:=HAL.out pa hpa
          subst hg7
          subst hpa
          obtain ⟨x,hx⟩:∃ x,x=ws[i]:=⟨_,rfl⟩
          rw [← hx,add_none,Nat.zero_add] at hcx
          have hxl:x.length≤1000000:=by rw [hx];exact HXS.out _ (List.getElem_mem hil)
          have HTK:=hid (show ws.take (i+1)=ws.take i++[x] by rw [hx,List.take_add_one,List.getElem?_eq_getElem hil];rfl)
          have HAP:=hid (show badsE ws=badsE (ws.take (i+1)++ws.drop (i+1)) by rw [List.take_append_drop])
          have HL1:=hid (show ∀ u,Calls Tryz.prog 169 #[.string ⟨x.toArray⟩,.int .i64 1] u (LowQ x 1 u) from fun u=>HLO.out x hxl 1 (by decide) u)
          unfold LowQ at HL1
          clear hx hxl hs1 hcell hpb hil
          by_cases hbx:badW x=0
          · have HBN:=hid (show badsE (ws.take (i+1))=0 by rw [HTK.out,badsE_snoc,if_pos HBD.out];exact hbx)
            rw [hbx] at HL1
            clear hbx
            go_wp2_with (go_at_call 169;(with_reducible refine (HL1.out _).mono ?_);rintro e w5 ⟨v5,rfl,hr5,hb5⟩;have HB5:=hid hb5;clear hr5 hb5)
            go_roundg (nw-(i+1))
            case measure=>omega
            case rel=>exact ⟨i+1,by go_num,hlt,HBN.out,HBC.out.trans (HB5.out.mono hs4),rfl⟩
          · have HRN := hid (show R = .inl (badW x) by
              have h1:badsE ws=badW x:=by
                have h2:badsE (ws.take (i+1))=badW x:=by rw [HTK.out,badsE_snoc,if_pos HBD.out]
                rw [HAP.out,badsE_app,h2,if_neg hbx]
              rw [HR1.out,h1,if_neg hbx])
            have hbn:(badW x == 0)=false:=beq_eq_false_iff_ne.2 hbx
            have hbn2:(badW x != 0)=true:=bne_iff_ne.2 hbx
            rw [if_neg hbx] at HL1
            clear hbx
            go_wp2_with (go_at_call 169;(with_reducible refine (HL1.out _).mono ?_);rintro e w5 ⟨v5,rfl,hr5,hb5⟩;have HB5:=hid hb5;clear hr5 hb5)
            go_ret2
            exact ⟨_,_,[],rfl,RowX.nil _ _,HWB2.out.trans ((HBC.out.trans (HB5.out.mono hs4)).mono HWB2.out.size),by rw [HRN.out]⟩
        · obtain ⟨wc,rfl⟩:∃ wc,wc=wr:=⟨wr,rfl⟩
          obtain rfl:nw=i:=by omega
          have hnl:¬ ((nw:Int)<(nw:Int)):=by omega
          have HBW:=hid (show badsE ws=0 by have h:=HBD.out;rw [List.take_of_length_le (by rw [← HNW.out];exact Nat.le_refl _)] at h;exact h)
          have HWW:=hid (show Below w.heap.size w wc from HWB2.out.trans (HBC.out.mono HWB2.out.size))
          have HCW:=hid ((HBC.out.cell (p:=⟨w.heap.size,0,none⟩) (by have:=HZB.out;show w.heap.size<wb.heap.size;omega)).trans HCB.out)
          have HZW:=hid (show w.heap.size<wc.heap.size by have:=HZB.out;omega)
          have HSL0:=hid hsl
          clear hsl hge hin HBD HBC
          obtain ⟨L,hLe⟩:∃ L,L=ws:=⟨_,rfl⟩
          have HLE:=hid hLe
          have HNL:=hid (show nw=L.length by rw [hLe];exact HNW.out)
          have HNS:=hid (show L.length≤200000 by rw [← HNL.out];omega)
          have HLL:=hid (show ∀ x∈L,x.length≤1000000 by rw [hLe];exact HXS.out)
          have HB0L:=hid (show badsE L=0 by rw [hLe];exact HBW.out)
          have HSL:=HSL0
          rw [← hLe] at HSL
          clear hLe
          go_wp2_with fail
          go_loopg [11,13,14,15,16,58] nw (fun k ov xv bv ev jv iv wr=>∃ (i:Nat) (out:Str),iv=.int .i64 (i:Nat)∧i≤nw∧out=encs c (L.take i)∧RowY wc.heap.size wr ov out∧Below wc.heap.size wc wr∧badsE (L.take i)=0∧k=nw-i)
          case atStart=>exact ⟨0,[],rfl,Nat.zero_le _,rfl,RowY.nil _ _,Below.refl _ _,rfl,rfl⟩
          case round=>
            obtain ⟨i,out,rfl,hin,hout,hrow,hbl,hbd,hk⟩:=hrel
            replace hk:=hk.symm
            subst hk
            obtain ⟨ao,co,hov⟩:=hrow.shape
            subst hov
            have HROW:=hid hrow
            have HOUT:=hid hout
            have HBL:=hid hbl
            have HBD:=hid hbd
            have hs4:=hbl.size
            have c0:=(hbl.cell (p:=⟨w.heap.size,0,none⟩) (by have:=HZW.out;show w.heap.size<wc.heap.size;omega)).trans HCW.out
            have HCC:=hid c0
            have hsl:=HSL.out.below hbl
            clear hout hrow hbl hbd
            rcases Nat.lt_or_ge i nw with hlt | hge
            · have hltI:(i:Int)<((nw:Nat):Int):=by omega
              have hil:i<L.length:=by rw [← HNL.out];exact hlt
              obtain ⟨_,_,hsv,_,hcell⟩:=hsl
              obtain ⟨pa,hpa,hpb,hcx⟩:=hcell i hil
              simp only [Value.slice.injEq] at hsv
              obtain ⟨hs1,-,-⟩:=hsv
              rw [← hs1] at hpa
              obtain ⟨g7,hg7⟩:=HAL.out pa hpa
              subst hg7
              subst hpa
              obtain ⟨x,hx⟩:∃ x,x=L[i]:=⟨_,rfl⟩
              rw [← hx,add_none,Nat.zero_add] at hcx
              have hxl:x.length≤1000000:=by rw [hx];exact HLL.out _ (List.getElem_mem hil)
              have HTK:=hid (show L.take (i+1)=L.take i++[x] by rw [hx,List.take_add_one,List.getElem?_eq_getElem hil];rfl)
              have HXM:=hid (show x∈L by rw [hx];exact List.getElem_mem hil)
              have HLX:=hid (HLO.out x hxl K hK8)
              unfold LowQ at HLX
              clear hx hxl hs1 hcell hpb
              have hbx:badW x=0:=bads_mem HB0L.out x HXM.out
              have HBX:=hid hbx
              rw [if_pos hbx,hbx] at HLX
              obtain ⟨B,hB⟩:∃ B,B=lowE K (pVal x):=⟨_,rfl⟩
              have hBl:B.length=K:=by rw [hB];exact lowE_len _ _
              rw [← hB] at HLX
              have HENC:=hid (show encW c x=ordE hi B by unfold encW;rw [← HK.out,← HHI.out,hB])
              have HBL2:=hid hBl
              clear hbx hB
              go_wp2_with (first|(go_at_call 83;(with_reducible refine (HSZ.out _).mono ?_);rintro e w3 ⟨rfl,hw3⟩;replace hw3:=hw3.symm;subst hw3)|(go_at_call 169;(with_reducible refine (HLX.out _).mono ?_);rintro e w5 ⟨v5,rfl,hr5,hb5⟩;obtain ⟨a5,k5,he5⟩:=hr5.shape;rw [HBL2.out] at he5;subst he5;have HR5:=hid hr5;have HB5:=hid hb5;clear hr5 hb5))
              have c5:=(HB5.out.cell (p:=⟨w.heap.size,0,none⟩) (by have:=HZW.out;show w.heap.size<wr.heap.size;omega)).trans HCC.out
              have HC5:=hid c5
              clear c5 c0 hcx
              go_loopg [11,16,75] K (fun k ov jv iv wq=>∃ (j:Nat) (o2:Str),iv=.int .i64 (j:Nat)∧j≤K∧o2=out++(ordE hi B).take j∧RowY wc.heap.size wq ov o2∧RowX wr.heap.size wq (.slice a5 K k5) B∧Below wc.heap.size wc wq∧wq.cell? ⟨w.heap.size,0,none⟩=some (.int .u8 (c.toNat:Nat))∧(∀ g,ov.ownBlock=some g→a5=some ⟨g,0,none⟩→False)∧k=K-j)
              case atStart=>
                refine ⟨0,out,rfl,Nat.zero_le _,by rw [List.take_zero,List.append_nil],HROW.out.on HB5.out,?_,HBL.out.trans (HB5.out.mono hs4),HC5.out,fun g hg ha=>?_,rfl⟩
                · have h:=HR5.out.toX;exact h
                · have h1:=(HROW.out.lt g hg).1
                  have h2:=(HR5.out.lt g (by rw [ha];rfl)).2
                  omega
              case round=>
                obtain ⟨j,o2,rfl,hjK,ho2,hrow2,hrx,hbl2,hc2,hne,hk⟩:=hrel
                replace hk:=hk.symm
                subst hk
                obtain ⟨a2,co2,hov2⟩:=hrow2.shape
                subst hov2
                have HROW2:=hid hrow2
                have HO2:=hid ho2
                have HRX:=hid hrx
                have HBQ:=hid hbl2
                have HCQ:=hid hc2
                have HNE:=hid hne
                have hs5:=hbl2.size
                have ho9 : o2.length ≤ 1000000000 := by rw [ho2, List.length_append, List.length_take, HOUT.out, encs_len]; have h1 := HNS.out; have h2 : (L.take i).length ≤ 200000 := by rw [List.length_take]; omega
                                                        have h3:=Nat.mul_le_mul (widthL_le c) h2;omega
                clear ho2 hrow2 hrx hbl2 hne
                rcases Nat.lt_or_ge j K with hlt2 | hge2
                · have hltI2:(j:Int)<(K:Int):=by omega
                  cases hi with
                  | false=>
                    obtain ⟨g5,ha5,hc5⟩:=HRX.out.at (i:=j) (by rw [HBL2.out];omega)
                    subst ha5
                    obtain ⟨q,hqq⟩:∃ q,q=B[j]'(by rw [HBL2.out];omega):=⟨_,rfl⟩
                    rw [← hqq] at hc5
                    have hq2:B.getD j 0=q:=by rw [List.getD_eq_getElem?_getD,List.getElem?_eq_getElem (by rw [HBL2.out];omega),hqq];rfl
                    have HTQ:=hid (show (ordE false B).take (j+1)=(ordE false B).take j++[q] by
                      have h1:=ord_at false B j (by rw [HBL2.out];exact hlt2)
                      rw [if_neg (by simp),hq2] at h1
                      rw [List.take_add_one,h1]
                      rfl)
                    clear hq2
                    clear hqq
                    go_wp2_with (first|(go_at_call 133;(with_reducible refine (HGR.out _).mono ?_);rintro e w3 ⟨rfl,hw3⟩;replace hw3:=hw3.symm;subst hw3)|(at_builtin;refine appB_one rfl rfl (.tmp 92) (.tmp 97) rfl wc.heap.size _ _ q rfl HROW2.out rfl hs5 ho9 ?_;intro v9 w9 hr9 hg9 hv9;have HR9:=hid hr9;have HG9:=hid hg9;have HV9:=hid hv9;clear hr9 hg9 hv9))
                    go_roundg (K-(j+1))
                    case measure=>omega
                    case rel=>
                      have hrl:=HRX.out.lt g5 rfl
                      have hown:(Value.slice a2 o2.length co2).ownBlock≠some g5:=fun e=>HNE.out g5 e rfl
                      have hgl:=Nat.lt_of_lt_of_le HZW.out hs5
                      refine ⟨j+1,o2++[q],by go_num,hlt2,by rw [HO2.out,HTQ.out,List.append_assoc],HR9.out,HRX.out.heap (fun g hg=>HG9.out.block g (HRX.out.lt g hg).1 fun e=>?_) HG9.out.size,HBQ.out.grown HG9.out hs5 (fun k hk=>(HROW2.out.lt k hk).2),?_,fun g hg ha=>?_,rfl⟩
                      · obtain rfl:g5=g:=by cases hg;rfl
                        exact hown e.symm
                      · rw [cell_same (HG9.out.block w.heap.size hgl fun e=>?_)]
                        · exact HCQ.out
                        · have:=(HROW2.out.lt _ e.symm).2;have:=HZW.out;omega
                      · have h3:g5=g:=by cases ha;rfl
                        subst h3
                        rcases HV9.out g5 hg with h | h
                        · exact hown h
                        · omega
                  | true=>
                    obtain ⟨z,hz⟩:∃ z,z=K-1-j:=⟨_,rfl⟩
                    have hzI:(K:Int)-1-(j:Int)=(z:Int):=by omega
                    have hzK:(z:Int)<(K:Int):=by omega
                    have hzn:z<K:=by omega
                    obtain ⟨g5,ha5,hc5⟩:=HRX.out.at (i:=z) (by rw [HBL2.out];omega)
                    subst ha5
                    obtain ⟨q,hqq⟩:∃ q,q=B[z]'(by rw [HBL2.out];omega):=⟨_,rfl⟩
                    rw [← hqq] at hc5
                    have hq2:B.getD z 0=q:=by rw [List.getD_eq_getElem?_getD,List.getElem?_eq_getElem (by rw [HBL2.out];omega),hqq];rfl
                    have HTQ:=hid (show (ordE true B).take (j+1)=(ordE true B).take j++[q] by
                      have h1:=ord_at true B j (by rw [HBL2.out];exact hlt2)
                      rw [if_pos rfl,show B.length-1-j=z by rw [HBL2.out,hz],hq2] at h1
                      rw [List.take_add_one,h1]
                      rfl)
                    clear hq2
                    clear hqq hz
                    go_wp2_with (first|(go_at_call 133;(with_reducible refine (HGR.out _).mono ?_);rintro e w3 ⟨rfl,hw3⟩;replace hw3:=hw3.symm;subst hw3)|(at_builtin;refine appB_one rfl rfl (.tmp 81) (.tmp 90) rfl wc.heap.size _ _ q rfl HROW2.out rfl hs5 ho9 ?_;intro v9 w9 hr9 hg9 hv9;have HR9:=hid hr9;have HG9:=hid hg9;have HV9:=hid hv9;clear hr9 hg9 hv9))
                    go_roundg (K-(j+1))
                    case measure=>omega
                    case rel=>
                      have hrl:=HRX.out.lt g5 rfl
                      have hown:(Value.slice a2 o2.length co2).ownBlock≠some g5:=fun e=>HNE.out g5 e rfl
                      have hgl:=Nat.lt_of_lt_of_le HZW.out hs5
                      refine ⟨j+1,o2++[q],by go_num,hlt2,by rw [HO2.out,HTQ.out,List.append_assoc],HR9.out,HRX.out.heap (fun g hg=>HG9.out.block g (HRX.out.lt g hg).1 fun e=>?_) HG9.out.size,HBQ.out.grown HG9.out hs5 (fun k hk=>(HROW2.out.lt k hk).2),?_,fun g hg ha=>?_,rfl⟩
                      · obtain rfl:g5=g:=by cases hg;rfl
                        exact hown e.symm
                      · rw [cell_same (HG9.out.block w.heap.size hgl fun e=>?_)]
                        · exact HCQ.out
                        · have:=(HROW2.out.lt _ e.symm).2;have:=HZW.out;omega
                      · have h3:g5=g:=by cases ha;rfl
                        subst h3
                        rcases HV9.out g5 hg with h | h
                        · exact hown h
                        · omega
                · obtain rfl:j=K:=by omega
                  have hnl:¬ ((j:Int)<(j:Int)):=by omega
                  have HTE:=hid (show o2=encs c (L.take (i+1)) by
                    have h1:(ordE hi B).length=B.length:=by unfold ordE;split;exact List.length_reverse;rfl
                    rw [HO2.out,HTK.out,encs_snoc,HENC.out,HOUT.out,show (ordE hi B).take j=ordE hi B from List.take_of_length_le (by rw [h1,HBL2.out];exact Nat.le_refl _)])
                  have HBN:=hid (show badsE (L.take (i+1))=0 by rw [HTK.out,badsE_snoc,if_pos HBD.out];exact HBX.out)
                  clear hge2 hjK
                  go_wp2
                  go_roundg (nw-(i+1))
                  case measure=>omega
                  case rel=>exact ⟨i+1,o2,by go_num,hlt,HTE.out,HROW2.out,HBQ.out,HBN.out,rfl⟩
            · obtain rfl:i=nw:=by omega
              have hnl2:¬ ((i:Int)<(i:Int)):=by omega
              have HTA:=hid (show L.take i=L from List.take_of_length_le (by rw [← HNL.out];exact Nat.le_refl _))
              have HRN:=hid (show R=.inr out by
                have h1:=HBD.out
                rw [HTA.out] at h1
                rw [HOUT.out,HTA.out]
                exact by rw [HR1.out,← HLE.out,if_pos HB0L.out])
              clear hge hin
              go_wp2
              go_ret2
              exact ⟨_,_,out,rfl,HROW.out.toX.mono HWW.out.size,HWW.out.trans (HBL.out.mono HWW.out.size),by rw [HRN.out];exact ⟨rfl,rfl⟩⟩
  · as_aux_lemma =>
      subst hq
      have e1:((m:Int) != -1)=true:=by rw [bne_iff_ne];omega
      have e2:((m:Int) != -2)=true:=by rw [bne_iff_ne];omega
      obtain ⟨ws,hws⟩:∃ ws,ws=wordsE s:=⟨_,rfl⟩
      obtain ⟨nw,hnw⟩:∃ nw,nw=ws.length:=⟨_,rfl⟩
      have HNW:=hid hnw
      have hnw9:nw≤100001:=by rw [hnw,hws];have:=HWB.out.1;show (wordsGo [] s).length≤_;omega
      have HXS:=hid (show ∀ x∈ws,x.length≤1000000 by rw [hws];intro x hx;have h:=HWB.out.2 x hx;simp only [List.length_nil] at h;omega)
      have HR2:=hid (show R=if (nw:Int)<(m:Int) then .inl 11 else if badsE ws=0 then .inr (encs c (ws.take m)) else .inl (badsE ws) by
        rw [hR0.out,← hws,if_neg (show ¬ ((m:Int) = -1) by omega),← hnw]
        by_cases h9:(nw:Int)<(m:Int)
        · rw [if_pos (show (m:Int)≠-2∧(nw:Int)<(m:Int) from ⟨by omega,h9⟩),if_pos h9]
        · rw [if_neg (show ¬ ((m:Int)≠-2∧(nw:Int)<(m:Int)) from fun h=>h9 h.2),if_neg h9,if_neg (show ¬ ((m:Int) = -2) by omega),Int.toNat_natCast])
      have HWR:=hid (wordsRR_fn s (by omega) wa)
      rw [← hws] at HWR
      clear hws hnw
      have c2:=HC2.out
      rw [HWA.out] at c2 HWR
      go_enter Tryz.func141,Tryz.ntmps141
      by_cases hlt9:(nw:Int)<(m:Int)
      case pos=>
        have HO:=hid (show R=.inl 11 by rw [HR2.out,if_pos hlt9])
        go_wp2_with (go_at_call 168;(with_reducible refine HWR.out.mono ?_);rintro e wb ⟨v1,rfl,hr1,hb1⟩;rw [← HWA.out] at hr1 hb1;obtain ⟨al,cl,he1⟩:=hr1.shape;rw [← HNW.out] at he1;subst he1;have HR8:=hid hr1;have HB1:=hid hb1;have c22:=(hb1.cell (p:=⟨w.heap.size,2,none⟩) (by have:=HZA.out;show w.heap.size<wa.heap.size;omega)).trans HC2.out;clear hr1 hb1)
        go_ret2
        exact ⟨_,_,[],rfl,RowX.nil _ _,HBA.out.trans (HB1.out.mono HBA.out.size),by rw [HO.out]⟩
      have HR1:=hid (show R=if badsE ws=0 then .inr (encs c (ws.take m)) else .inl (badsE ws) by rw [HR2.out,if_neg hlt9])
      have hmn:m≤nw:=by omega
      go_wp2_with (go_at_call 168;(with_reducible refine HWR.out.mono ?_);rintro e wb ⟨v1,rfl,hr1,hb1⟩;rw [← HWA.out] at hr1 hb1;obtain ⟨al,cl,he1⟩:=hr1.shape;rw [← HNW.out] at he1;subst he1;have HR8:=hid hr1;have HB1:=hid hb1;have c22:=(hb1.cell (p:=⟨w.heap.size,2,none⟩) (by have:=HZA.out;show w.heap.size<wa.heap.size;omega)).trans HC2.out;clear hr1 hb1)
      have HZB:=hid (show w.heap.size<wb.heap.size by have:=HZA.out;have:=HB1.out.size;omega)
      have HCB:=hid ((HB1.out.cell (p:=⟨w.heap.size,0,none⟩) (by have:=HZA.out;show w.heap.size<wa.heap.size;omega)).trans HC0.out)
      have HCB2:=hid c22
      have HAL:=hid (show ∀ p,al=some p→∃ g,p=⟨g,0,none⟩ by
        intro p hp
        rcases HR8.out.2 with ⟨e,_⟩ | ⟨g,cap,cur,e,_⟩
        · simp only [Value.slice.injEq] at e;rw [e.1] at hp;cases hp
        · simp only [Value.slice.injEq] at e;rw [e.1] at hp;exact ⟨g,(Option.some.inj hp).symm⟩)
      have HWB2:=hid (show Below w.heap.size w wb from HBA.out.trans (HB1.out.mono HBA.out.size))
      clear c22
      have hdf:decide (nw<m)=false:=decide_eq_false (by omega)
      simp only [hdf]
      go_loopg [8,9,10,36] nw (fun k xv yv zv iv wr=>∃ (i:Nat),iv=.int .i64 (i:Nat)∧i≤nw∧badsE (ws.take i)=0∧Below wb.heap.size wb wr∧k=nw-i)
      case atStart=>exact ⟨0,rfl,Nat.zero_le _,rfl,Below.refl _ _,rfl⟩
      case round=>
        obtain ⟨i,rfl,hin,hbd,hbl,hk⟩:=hrel
        replace hk:=hk.symm
        subst hk
        have HBD:=hid hbd
        have HBC:=hid hbl
        have hs4:=hbl.size
        have hsl:=HR8.out.strs.below hbl
        have c02:=(hbl.cell (p:=⟨w.heap.size,2,none⟩) (by have:=HZB.out;show w.heap.size<wb.heap.size;omega)).trans HCB2.out
        clear hbd hbl
        rcases Nat.lt_or_ge i nw with hlt | hge
        · have hltI:(i:Int)<(nw:Int):=by omega
          have hil:i<ws.length:=by rw [← HNW.out];exact hlt
          obtain ⟨_,_,hsv,_,hcell⟩:=hsl
          obtain ⟨pa,hpa,hpb,hcx⟩:=hcell i hil
          simp only [Value.slice.injEq] at hsv
          obtain ⟨hs1,-,-⟩:=hsv
          rw [← hs1] at hpa
          obtain ⟨g7,hg7⟩:=HAL.out pa hpa
          subst hg7
          subst hpa
          obtain ⟨x,hx⟩:∃ x,x=ws[i]:=⟨_,rfl⟩
          rw [← hx,add_none,Nat.zero_add] at hcx
          have hxl:x.length≤1000000:=by rw [hx];exact HXS.out _ (List.getElem_mem hil)
          have HTK:=hid (show ws.take (i+1)=ws.take i++[x] by rw [hx,List.take_add_one,List.getElem?_eq_getElem hil];rfl)
          have HAP:=hid (show badsE ws=badsE (ws.take (i+1)++ws.drop (i+1)) by rw [List.take_append_drop])
          have HL1:=hid (show ∀ u,Calls Tryz.prog 169 #[.string ⟨x.toArray⟩,.int .i64 1] u (LowQ x 1 u) from fun u=>HLO.out x hxl 1 (by decide) u)
          unfold LowQ at HL1
          clear hx hxl hs1 hcell hpb hil
          by_cases hbx:badW x=0
          · have HBN:=hid (show badsE (ws.take (i+1))=0 by rw [HTK.out,badsE_snoc,if_pos HBD.out];exact hbx)
            rw [hbx] at HL1
            clear hbx
            go_wp2_with (go_at_call 169;(with_reducible refine (HL1.out _).mono ?_);rintro e w5 ⟨v5,rfl,hr5,hb5⟩;have HB5:=hid hb5;clear hr5 hb5)
            go_roundg (nw-(i+1))
            case measure=>omega
            case rel=>exact ⟨i+1,by go_num,hlt,HBN.out,HBC.out.trans (HB5.out.mono hs4),rfl⟩
          · have HRN := hid (show R = .inl (badW x) by
              have h1:badsE ws=badW x:=by
                have h2:badsE (ws.take (i+1))=badW x:=by rw [HTK.out,badsE_snoc,if_pos HBD.out]
                rw [HAP.out,badsE_app,h2,if_neg hbx]
              rw [HR1.out,h1,if_neg hbx])
            have hbn:(badW x == 0)=false:=beq_eq_false_iff_ne.2 hbx
            have hbn2:(badW x != 0)=true:=bne_iff_ne.2 hbx
            rw [if_neg hbx] at HL1
            clear hbx
            go_wp2_with (go_at_call 169;(with_reducible refine (HL1.out _).mono ?_);rintro e w5 ⟨v5,rfl,hr5,hb5⟩;have HB5:=hid hb5;clear hr5 hb5)
            go_ret2
            exact ⟨_,_,[],rfl,RowX.nil _ _,HWB2.out.trans ((HBC.out.trans (HB5.out.mono hs4)).mono HWB2.out.size),by rw [HRN.out]⟩
        · obtain ⟨wc,rfl⟩:∃ wc,wc=wr:=⟨wr,rfl⟩
          obtain rfl:nw=i:=by omega
          have hnl:¬ ((nw:Int)<(nw:Int)):=by omega
          have HBW:=hid (show badsE ws=0 by have h:=HBD.out;rw [List.take_of_length_le (by rw [← HNW.out];exact Nat.le_refl _)] at h;exact h)
          have HWW:=hid (show Below w.heap.size w wc from HWB2.out.trans (HBC.out.mono HWB2.out.size))
          have HCW:=hid ((HBC.out.cell (p:=⟨w.heap.size,0,none⟩) (by have:=HZB.out;show w.heap.size<wb.heap.size;omega)).trans HCB.out)
          have HZW:=hid (show w.heap.size<wc.heap.size by have:=HZB.out;omega)
          have HSL0:=hid hsl
          clear hsl hge hin HBD HBC
          have hmI:(m:Int)≤(nw:Int):=by omega
          rcases HR8.out.2 with ⟨e,h0⟩ | ⟨g,cap,cur,e,_,_,hcap,_⟩
          · simp only [Value.slice.injEq] at e
            obtain ⟨e1',-,e3'⟩:=e
            subst e1' e3'
            have hi0:nw=0:=by rw [HNW.out];exact h0
            have hm0:m=0:=by omega
            have HO:=hid (show R=.inr [] by rw [HR1.out,if_pos HBW.out,hm0];rfl)
            subst hm0
            subst hi0
            go_wp2_with fail
            go_loopg [11,13,14,15,16,58] 0 (fun k ov xv bv ev jv iv wr=>iv=.int .i64 0∧ov=.slice none 0 0∧wr=wc∧k=0)
            case atStart=>exact ⟨rfl,rfl,rfl,rfl⟩
            case round=>
              obtain ⟨rfl,rfl,hw9,hk9⟩:=hrel
              subst hw9
              go_wp2
              go_ret2
              exact ⟨_,_,[],rfl,RowX.nil _ _,HWW.out,by rw [HO.out];exact ⟨rfl,rfl⟩⟩
          · simp only [Value.slice.injEq] at e
            obtain ⟨e1',-,e3'⟩:=e
            subst e1' e3'
            obtain ⟨L,hLe⟩:∃ L,L=ws.take m:=⟨_,rfl⟩
            have HLE:=hid hLe
            have HNL:=hid (show m=L.length by rw [hLe,List.length_take,← HNW.out];omega)
            have HNS:=hid (show L.length≤200000 by rw [← HNL.out];omega)
            have HLL:=hid (show ∀ x∈L,x.length≤1000000 by rw [hLe];exact fun x hx=>HXS.out x (List.mem_of_mem_take hx))
            have HB0L:=hid (show badsE L=0 by rw [hLe];exact bads_take HBW.out m)
            have HSL:=hid (show StrsAt wc (.slice (some ⟨g,0,none⟩) m cl) L by rw [hLe];exact strs_take HSL0.out (by omega))
            have hmc:(m:Int)≤(cl:Int):=by rw [← HNW.out] at hcap;omega
            clear hLe hcap HSL0 HAL
            have HAL:=hid (show ∀ p,some (⟨g,0,none⟩:Addr)=some p→∃ g,p=⟨g,0,none⟩ from fun p hp=>⟨g,(Option.some.inj hp).symm⟩)
            go_wp2_with fail
            go_loopg [11,13,14,15,16,58] m (fun k ov xv bv ev jv iv wr=>∃ (i:Nat) (out:Str),iv=.int .i64 (i:Nat)∧i≤m∧out=encs c (L.take i)∧RowY wc.heap.size wr ov out∧Below wc.heap.size wc wr∧badsE (L.take i)=0∧k=m-i)
            case atStart=>exact ⟨0,[],rfl,Nat.zero_le _,rfl,RowY.nil _ _,Below.refl _ _,rfl,rfl⟩
            case round=>
              obtain ⟨i,out,rfl,hin,hout,hrow,hbl,hbd,hk⟩:=hrel
              replace hk:=hk.symm
              subst hk
              obtain ⟨ao,co,hov⟩:=hrow.shape
              subst hov
              have HROW:=hid hrow
              have HOUT:=hid hout
              have HBL:=hid hbl
              have HBD:=hid hbd
              have hs4:=hbl.size
              have c0:=(hbl.cell (p:=⟨w.heap.size,0,none⟩) (by have:=HZW.out;show w.heap.size<wc.heap.size;omega)).trans HCW.out
              have HCC:=hid c0
              have hsl:=HSL.out.below hbl
              clear hout hrow hbl hbd
              rcases Nat.lt_or_ge i m with hlt | hge
              · have hltI:(i:Int)<((m:Nat):Int):=by omega
                have hil:i<L.length:=by rw [← HNL.out];exact hlt
                obtain ⟨_,_,hsv,_,hcell⟩:=hsl
                obtain ⟨pa,hpa,hpb,hcx⟩:=hcell i hil
                simp only [Value.slice.injEq] at hsv
                obtain ⟨hs1,-,-⟩:=hsv
                rw [← hs1] at hpa
                obtain rfl:(⟨g,0,none⟩:Addr)=pa:=Option.some.inj hpa
                obtain ⟨x,hx⟩:∃ x,x=L[i]:=⟨_,rfl⟩
                rw [← hx,add_none,Nat.zero_add] at hcx
                have hxl:x.length≤1000000:=by rw [hx];exact HLL.out _ (List.getElem_mem hil)
                have HTK:=hid (show L.take (i+1)=L.take i++[x] by rw [hx,List.take_add_one,List.getElem?_eq_getElem hil];rfl)
                have HXM:=hid (show x∈L by rw [hx];exact List.getElem_mem hil)
                have HLX:=hid (HLO.out x hxl K hK8)
                unfold LowQ at HLX
                clear hx hxl hs1 hcell hpb
                have hbx:badW x=0:=bads_mem HB0L.out x HXM.out
                have HBX:=hid hbx
                rw [if_pos hbx,hbx] at HLX
                obtain ⟨B,hB⟩:∃ B,B=lowE K (pVal x):=⟨_,rfl⟩
                have hBl:B.length=K:=by rw [hB];exact lowE_len _ _
                rw [← hB] at HLX
                have HENC:=hid (show encW c x=ordE hi B by unfold encW;rw [← HK.out,← HHI.out,hB])
                have HBL2:=hid hBl
                clear hbx hB
                go_wp2_with (first|(go_at_call 83;(with_reducible refine (HSZ.out _).mono ?_);rintro e w3 ⟨rfl,hw3⟩;replace hw3:=hw3.symm;subst hw3)|(go_at_call 169;(with_reducible refine (HLX.out _).mono ?_);rintro e w5 ⟨v5,rfl,hr5,hb5⟩;obtain ⟨a5,k5,he5⟩:=hr5.shape;rw [HBL2.out] at he5;subst he5;have HR5:=hid hr5;have HB5:=hid hb5;clear hr5 hb5))
                have c5:=(HB5.out.cell (p:=⟨w.heap.size,0,none⟩) (by have:=HZW.out;show w.heap.size<wr.heap.size;omega)).trans HCC.out
                have HC5:=hid c5
                clear c5 c0 hcx
                go_loopg [11,16,75] K (fun k ov jv iv wq=>∃ (j:Nat) (o2:Str),iv=.int .i64 (j:Nat)∧j≤K∧o2=out++(ordE hi B).take j∧RowY wc.heap.size wq ov o2∧RowX wr.heap.size wq (.slice a5 K k5) B∧Below wc.heap.size wc wq∧wq.cell? ⟨w.heap.size,0,none⟩=some (.int .u8 (c.toNat:Nat))∧(∀ g,ov.ownBlock=some g→a5=some ⟨g,0,none⟩→False)∧k=K-j)
                case atStart=>
                  refine ⟨0,out,rfl,Nat.zero_le _,by rw [List.take_zero,List.append_nil],HROW.out.on HB5.out,?_,HBL.out.trans (HB5.out.mono hs4),HC5.out,fun g hg ha=>?_,rfl⟩
                  · have h:=HR5.out.toX;exact h
                  · have h1:=(HROW.out.lt g hg).1
                    have h2:=(HR5.out.lt g (by rw [ha];rfl)).2
                    omega
                case round=>
                  obtain ⟨j,o2,rfl,hjK,ho2,hrow2,hrx,hbl2,hc2,hne,hk⟩:=hrel
                  replace hk:=hk.symm
                  subst hk
                  obtain ⟨a2,co2,hov2⟩:=hrow2.shape
                  subst hov2
                  have HROW2:=hid hrow2
                  have HO2:=hid ho2
                  have HRX:=hid hrx
                  have HBQ:=hid hbl2
                  have HCQ:=hid hc2
                  have HNE:=hid hne
                  have hs5:=hbl2.size
                  have ho9 : o2.length ≤ 1000000000 := by rw [ho2, List.length_append, List.length_take, HOUT.out, encs_len]; have h1 := HNS.out; have h2 : (L.take i).length ≤ 200000 := by rw [List.length_take]; omega
                                                          have h3:=Nat.mul_le_mul (widthL_le c) h2;omega
                  clear ho2 hrow2 hrx hbl2 hne
                  rcases Nat.lt_or_ge j K with hlt2 | hge2
                  · have hltI2:(j:Int)<(K:Int):=by omega
                    cases hi with
                    | false=>
                      obtain ⟨g5,ha5,hc5⟩:=HRX.out.at (i:=j) (by rw [HBL2.out];omega)
                      subst ha5
                      obtain ⟨q,hqq⟩:∃ q,q=B[j]'(by rw [HBL2.out];omega):=⟨_,rfl⟩
                      rw [← hqq] at hc5
                      have hq2:B.getD j 0=q:=by rw [List.getD_eq_getElem?_getD,List.getElem?_eq_getElem (by rw [HBL2.out];omega),hqq];rfl
                      have HTQ:=hid (show (ordE false B).take (j+1)=(ordE false B).take j++[q] by
                        have h1:=ord_at false B j (by rw [HBL2.out];exact hlt2)
                        rw [if_neg (by simp),hq2] at h1
                        rw [List.take_add_one,h1]
                        rfl)
                      clear hq2
                      clear hqq
                      go_wp2_with (first|(go_at_call 133;(with_reducible refine (HGR.out _).mono ?_);rintro e w3 ⟨rfl,hw3⟩;replace hw3:=hw3.symm;subst hw3)|(at_builtin;refine appB_one rfl rfl (.tmp 92) (.tmp 97) rfl wc.heap.size _ _ q rfl HROW2.out rfl hs5 ho9 ?_;intro v9 w9 hr9 hg9 hv9;have HR9:=hid hr9;have HG9:=hid hg9;have HV9:=hid hv9;clear hr9 hg9 hv9))
                      go_roundg (K-(j+1))
                      case measure=>omega
                      case rel=>
                        have hrl:=HRX.out.lt g5 rfl
                        have hown:(Value.slice a2 o2.length co2).ownBlock≠some g5:=fun e=>HNE.out g5 e rfl
                        have hgl:=Nat.lt_of_lt_of_le HZW.out hs5
                        refine ⟨j+1,o2++[q],by go_num,hlt2,by rw [HO2.out,HTQ.out,List.append_assoc],HR9.out,HRX.out.heap (fun g hg=>HG9.out.block g (HRX.out.lt g hg).1 fun e=>?_) HG9.out.size,HBQ.out.grown HG9.out hs5 (fun k hk=>(HROW2.out.lt k hk).2),?_,fun g hg ha=>?_,rfl⟩
                        · obtain rfl:g5=g:=by cases hg;rfl
                          exact hown e.symm
                        · rw [cell_same (HG9.out.block w.heap.size hgl fun e=>?_)]
                          · exact HCQ.out
                          · have:=(HROW2.out.lt _ e.symm).2;have:=HZW.out;omega
                        · have h3:g5=g:=by cases ha;rfl
                          subst h3
                          rcases HV9.out g5 hg with h | h
                          · exact hown h
                          · omega
                    | true=>
                      obtain ⟨z,hz⟩:∃ z,z=K-1-j:=⟨_,rfl⟩
                      have hzI:(K:Int)-1-(j:Int)=(z:Int):=by omega
                      have hzK:(z:Int)<(K:Int):=by omega
                      have hzn:z<K:=by omega
                      obtain ⟨g5,ha5,hc5⟩:=HRX.out.at (i:=z) (by rw [HBL2.out];omega)
                      subst ha5
                      obtain ⟨q,hqq⟩:∃ q,q=B[z]'(by rw [HBL2.out];omega):=⟨_,rfl⟩
                      rw [← hqq] at hc5
                      have hq2:B.getD z 0=q:=by rw [List.getD_eq_getElem?_getD,List.getElem?_eq_getElem (by rw [HBL2.out];omega),hqq];rfl
                      have HTQ:=hid (show (ordE true B).take (j+1)=(ordE true B).take j++[q] by
                        have h1:=ord_at true B j (by rw [HBL2.out];exact hlt2)
                        rw [if_pos rfl,show B.length-1-j=z by rw [HBL2.out,hz],hq2] at h1
                        rw [List.take_add_one,h1]
                        rfl)
                      clear hq2
                      clear hqq hz
                      go_wp2_with (first|(go_at_call 133;(with_reducible refine (HGR.out _).mono ?_);rintro e w3 ⟨rfl,hw3⟩;replace hw3:=hw3.symm;subst hw3)|(at_builtin;refine appB_one rfl rfl (.tmp 81) (.tmp 90) rfl wc.heap.size _ _ q rfl HROW2.out rfl hs5 ho9 ?_;intro v9 w9 hr9 hg9 hv9;have HR9:=hid hr9;have HG9:=hid hg9;have HV9:=hid hv9;clear hr9 hg9 hv9))
                      go_roundg (K-(j+1))
                      case measure=>omega
                      case rel=>
                        have hrl:=HRX.out.lt g5 rfl
                        have hown:(Value.slice a2 o2.length co2).ownBlock≠some g5:=fun e=>HNE.out g5 e rfl
                        have hgl:=Nat.lt_of_lt_of_le HZW.out hs5
                        refine ⟨j+1,o2++[q],by go_num,hlt2,by rw [HO2.out,HTQ.out,List.append_assoc],HR9.out,HRX.out.heap (fun g hg=>HG9.out.block g (HRX.out.lt g hg).1 fun e=>?_) HG9.out.size,HBQ.out.grown HG9.out hs5 (fun k hk=>(HROW2.out.lt k hk).2),?_,fun g hg ha=>?_,rfl⟩
                        · obtain rfl:g5=g:=by cases hg;rfl
                          exact hown e.symm
                        · rw [cell_same (HG9.out.block w.heap.size hgl fun e=>?_)]
                          · exact HCQ.out
                          · have:=(HROW2.out.lt _ e.symm).2;have:=HZW.out;omega
                        · have h3:g5=g:=by cases ha;rfl
                          subst h3
                          rcases HV9.out g5 hg with h | h
                          · exact hown h
                          · omega
                  · obtain rfl:j=K:=by omega
                    have hnl:¬ ((j:Int)<(j:Int)):=by omega
                    have HTE:=hid (show o2=encs c (L.take (i+1)) by
                      have h1:(ordE hi B).length=B.length:=by unfold ordE;split;exact List.length_reverse;rfl
                      rw [HO2.out,HTK.out,encs_snoc,HENC.out,HOUT.out,show (ordE hi B).take j=ordE hi B from List.take_of_length_le (by rw [h1,HBL2.out];exact Nat.le_refl _)])
                    have HBN:=hid (show badsE (L.take (i+1))=0 by rw [HTK.out,badsE_snoc,if_pos HBD.out];exact HBX.out)
                    clear hge2 hjK
                    go_wp2
                    go_roundg (m-(i+1))
                    case measure=>omega
                    case rel=>exact ⟨i+1,o2,by go_num,hlt,HTE.out,HROW2.out,HBQ.out,HBN.out,rfl⟩
              · obtain rfl:i=m:=by omega
                have hnl2:¬ ((i:Int)<(i:Int)):=by omega
                have HTA:=hid (show L.take i=L from List.take_of_length_le (by rw [← HNL.out];exact Nat.le_refl _))
                have HRN:=hid (show R=.inr out by
                  have h1:=HBD.out
                  rw [HTA.out] at h1
                  rw [HOUT.out,HTA.out]
                  exact by rw [HR1.out,if_pos HBW.out,← HLE.out])
                clear hge hin
                go_wp2
                go_ret2
                exact ⟨_,_,out,rfl,HROW.out.toX.mono HWW.out.size,HWW.out.trans (HBL.out.mono HWW.out.size),by rw [HRN.out];exact ⟨rfl,rfl⟩⟩
end Go.Proofs.YtihdndaibmgoiaaGreatDoor.Pz
