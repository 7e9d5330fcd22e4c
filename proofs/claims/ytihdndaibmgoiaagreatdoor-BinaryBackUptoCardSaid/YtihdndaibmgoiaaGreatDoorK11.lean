/-
  Part K11 of the proofs of this seat, merged by a program out of 5 texts; remarks are struck.
-/
import Derived.Shelf.Strings.OnBuilder
import Derived.Ground.MpProg
import Derived.Shelf.Strings.Search3
import Derived.Shelf.LaysM
import Derived.Test.YtihdndaibmgoiaaGreatDoorProg
import Derived.Test.YtihdndaibmgoiaaGreatDoorK10
namespace Go.Proofs.YtihdndaibmgoiaaGreatDoor.Pz
open Go.RowKit
attribute [local go_sem] Oper.semAt_some
theorem sizeR_fn (c:UInt8) (w:World):Calls Tryz.prog 83 #[.int .u8 (c.toNat:Nat)] w fun e w'=>e=.returned (.int .i64 (widthL c:Nat))∧w'=w:=by
 by_cases h99:c=99
 ·subst h99
  go_enter Tryz.func83,Tryz.ntmps83
  go_wp2
  go_ret
  exact ⟨rfl,rfl⟩
 have n99:=byte_ne 99 h99 rfl
 by_cases h115:c=115
 ·subst h115
  go_enter Tryz.func83,Tryz.ntmps83
  go_wp2
  go_ret
  exact ⟨rfl,rfl⟩
 have n115:=byte_ne 115 h115 rfl
 by_cases h83:c=83
 ·subst h83
  go_enter Tryz.func83,Tryz.ntmps83
  go_wp2
  go_ret
  exact ⟨rfl,rfl⟩
 have n83:=byte_ne 83 h83 rfl
 by_cases h105:c=105
 ·subst h105
  go_enter Tryz.func83,Tryz.ntmps83
  go_wp2
  go_ret
  exact ⟨rfl,rfl⟩
 have n105:=byte_ne 105 h105 rfl
 by_cases h73:c=73
 ·subst h73
  go_enter Tryz.func83,Tryz.ntmps83
  go_wp2
  go_ret
  exact ⟨rfl,rfl⟩
 have n73:=byte_ne 73 h73 rfl
 by_cases h119:c=119
 ·subst h119
  go_enter Tryz.func83,Tryz.ntmps83
  go_wp2
  go_ret
  exact ⟨rfl,rfl⟩
 have n119:=byte_ne 119 h119 rfl
 by_cases h87:c=87
 ·subst h87
  go_enter Tryz.func83,Tryz.ntmps83
  go_wp2
  go_ret
  exact ⟨rfl,rfl⟩
 have n87:=byte_ne 87 h87 rfl
 have hw:widthL c=0:=by
  unfold widthL
  simp [h99,h115,h83,h105,h73,h119,h87]
 rw [hw]
 go_enter Tryz.func83,Tryz.ntmps83
 go_wp2
 go_ret
 exact ⟨rfl,rfl⟩
set_option maxHeartbeats 4000000 in
theorem bytesR_fn (c:UInt8) (hk:knownL c=true) (h64:c≠64) (m:Nat) (hm:m≤1000000) (w:World):Calls Tryz.prog 84 #[.int .u8 (c.toNat:Nat),.int .i64 (m:Nat)] w fun e w'=>e=.returned (.int .i64 (lenL c m:Nat))∧w'=w:=by
 have HT:=hid (show ∀ k:Nat,k=(m+1) / 2→((k:Nat):Int)=((m:Int)+1) / 2 by omega)
 have HE:=hid (show ∀ k:Nat,k=(m+7) / 8→((k:Nat):Int)=((m:Int)+7) / 8 by omega)
 by_cases h104:c=104
 ·subst h104
  have HL:=hid (HT.out (lenL 104 m) rfl)
  go_enter Tryz.func84,Tryz.ntmps84
  go_wp2
  go_ret
  exact ⟨by rw [HL.out];rfl,rfl⟩
 have n104:=byte_ne 104 h104 rfl
 by_cases h72:c=72
 ·subst h72
  have HL:=hid (HT.out (lenL 72 m) rfl)
  go_enter Tryz.func84,Tryz.ntmps84
  go_wp2
  go_ret
  exact ⟨by rw [HL.out];rfl,rfl⟩
 have n72:=byte_ne 72 h72 rfl
 by_cases h98:c=98
 ·subst h98
  have HL:=hid (HE.out (lenL 98 m) rfl)
  go_enter Tryz.func84,Tryz.ntmps84
  go_wp2
  go_ret
  exact ⟨by rw [HL.out];rfl,rfl⟩
 have n98:=byte_ne 98 h98 rfl
 by_cases h66:c=66
 ·subst h66
  have HL:=hid (HE.out (lenL 66 m) rfl)
  go_enter Tryz.func84,Tryz.ntmps84
  go_wp2
  go_ret
  exact ⟨by rw [HL.out];rfl,rfl⟩
 have n66:=byte_ne 66 h66 rfl
 by_cases h97:c=97
 ·subst h97
  have HL:=hid (show lenL 97 m=m by show max 1 0*m=m;rw [show max 1 0=1 from rfl,Nat.one_mul])
  go_enter Tryz.func84,Tryz.ntmps84
  go_wp2
  go_ret
  exact ⟨by rw [HL.out];rfl,rfl⟩
 have n97:=byte_ne 97 h97 rfl
 by_cases h65:c=65
 ·subst h65
  have HL:=hid (show lenL 65 m=m by show max 1 0*m=m;rw [show max 1 0=1 from rfl,Nat.one_mul])
  go_enter Tryz.func84,Tryz.ntmps84
  go_wp2
  go_ret
  exact ⟨by rw [HL.out];rfl,rfl⟩
 have n65:=byte_ne 65 h65 rfl
 by_cases h120:c=120
 ·subst h120
  have HL:=hid (show lenL 120 m=m by show max 1 0*m=m;rw [show max 1 0=1 from rfl,Nat.one_mul])
  go_enter Tryz.func84,Tryz.ntmps84
  go_wp2
  go_ret
  exact ⟨by rw [HL.out];rfl,rfl⟩
 have n120:=byte_ne 120 h120 rfl
 have hl:lenL c m=max 1 (widthL c)*m:=by
  unfold lenL
  simp [h104,h72,h98,h66]
 obtain ⟨k,hkk⟩:∃ k,k=widthL c:=⟨_,rfl⟩
 have hk8:k≤8:=by rw [hkk];unfold widthL;split<;>(try split)<;>(try split)<;>(try split)<;>omega
 have hk1:1≤k:=by
  unfold knownL textL at hk
  simp only [Bool.or_eq_true,beq_iff_eq,decide_eq_true_eq,h104,h72,h98,h66,h97,h65,h120,h64,false_or,or_false] at hk
  rw [hkk]
  exact hk
 have HSZ:=hid (show ∀ u,Calls Tryz.prog 83 #[.int .u8 (c.toNat:Nat)] u fun e w'=>e=.returned (.int .i64 (k:Nat))∧w'=u from fun u=>by rw [hkk];exact sizeR_fn c u)
 have HL:=hid (show lenL c m=m*k by rw [hl,← hkk,Nat.max_eq_right hk1,Nat.mul_comm])
 have hmk:m*k≤1000000*8:=Nat.mul_le_mul hm hk8
 obtain ⟨q,hq⟩:∃ q,q=m*k:=⟨_,rfl⟩
 have hmI:(m:Int)*(k:Int)=(q:Int):=by rw [hq,Int.natCast_mul]
 have HQ:=hid hq
 rw [← hq] at hmk
 have hwq:IntKind.i64.wrap (q:Int)=(q:Int):=IntWalk.i64_in _ (by omega)
 clear hl hkk hq hk h64 h104 h72 h98 h66 h97 h65 h120
 go_enter Tryz.func84,Tryz.ntmps84
 go_wp2_with (go_at_call 83;(with_reducible refine (HSZ.out _).mono ?_);rintro e w1 ⟨rfl,rfl⟩)
 go_ret
 exact ⟨by rw [HL.out,← HQ.out];rfl,rfl⟩
def dgs (l:Str):Str:=l.takeWhile isNum
def decV:Nat→Str→Nat
 | a,[]=>a
 | a,c::t=>decV (10*a+(c.toNat-48)) t
theorem decV_snoc:∀ (a:Nat) (p:Str) (c:UInt8),decV a (p++[c])=10*decV a p+(c.toNat-48)
 | _,[],_=>rfl
 | _,_::p,c=>decV_snoc _ p c
theorem decV_lt:∀ (p:Str),(∀ c∈p,isNum c=true)→∀ a,decV a p<(a+1)*10 ^ p.length
 | [],_,a=>by show a<(a+1)*1;omega
 | c::p,h,a=>by
  have h1:=decV_lt p (fun x hx=>h x (List.mem_cons_of_mem _ hx)) (10*a+(c.toNat-48))
  have hc:=h c (List.mem_cons_self ..)
  unfold isNum at hc
  simp only [Bool.and_eq_true,decide_eq_true_eq] at hc
  have e:decV a (c::p)=decV (10*a+(c.toNat-48)) p:=rfl
  have e2:(10:Nat) ^ (c::p).length=10 ^ p.length*10:=Nat.pow_succ ..
  rw [e,e2]
  generalize (10:Nat) ^ p.length=Q at h1 ⊢
  generalize decV (10*a+(c.toNat-48)) p=Z at h1 ⊢
  have h2:10*a+(c.toNat-48)+1≤(a+1)*10:=by omega
  have h3:=Nat.mul_le_mul_right Q h2
  rw [Nat.mul_comm Q 10,← Nat.mul_assoc]
  exact Nat.lt_of_lt_of_le h1 h3
def numOk (l:Str):Bool:=decide ((dgs l).length=0) || (decide ((dgs l).length≤4) && (l.headD 0 != 48 || decide ((dgs l).length=1)))
theorem dgs_step {c:UInt8} {t:Str} (h:isNum c=true):dgs (c::t)=c::dgs t:=by
 unfold dgs
 rw [List.takeWhile_cons,if_pos h]
theorem dgs_stop {c:UInt8} {t:Str} (h:isNum c=false):dgs (c::t)=[]:=by
 unfold dgs
 rw [List.takeWhile_cons,if_neg (by rw [h];decide)]
theorem dgs_num (l:Str):∀ c∈dgs l,isNum c=true:=by
 induction l with
 | nil=>intro c hc;cases hc
 | cons x t ih=>
  intro c hc
  cases h:isNum x with
  | true=>
   rw [dgs_step h] at hc
   rcases List.mem_cons.1 hc with rfl | hc
   ·exact h
   ·exact ih c hc
  | false=>rw [dgs_stop h] at hc;cases hc
set_option maxRecDepth 100000 in
set_option maxHeartbeats 4000000 in
theorem numberR_fn (s:Str) (hs:s.length≤1000000) (l:Str) (at0:Nat) (ha0:At s l at0) (w:World):Calls Tryz.prog 128 #[.string ⟨s.toArray⟩,.int .i64 (at0:Nat)] w fun e w'=>e=.returned (.tuple #[.int .i64 (decV 0 ((dgs l).take 4):Nat),.int .i64 ((at0+(dgs l).length:Nat):Int),.bool (numOk l)])∧w'=w:=by
  have hsz:(⟨s.toArray⟩:ByteArray).size=s.length:=Lib.size_mk _
  have HA0:=hid ha0
  have hlen0:=ha0.len
  obtain ⟨D,hD⟩:∃ D,D=dgs l:=⟨_,rfl⟩
  have HD:=hid hD
  have HOK:=hid (show numOk l=(decide (D.length=0) || (decide (D.length≤4) && (l.headD 0 != 48 || decide (D.length=1)))) by rw [hD];rfl)
  obtain ⟨OK,hOK⟩:∃ OK,OK=numOk l:=⟨_,rfl⟩
  rw [← hD,← hOK]
  rw [← hOK] at HOK
  have HDN:=hid (show ∀ c∈D,isNum c=true by rw [hD];exact dgs_num l)
  clear ha0 hD hOK
  go_enter Tryz.func128,Tryz.ntmps128
  go_wp2_with fail
  go_loopg [4,5] l.length (fun k nv ev wr=>∃ (e:Nat) (p rest:Str),l=p++rest∧D=p++dgs rest∧nv=.int .i64 (decV 0 (p.take 4):Nat)∧ev=.int .i64 (e:Nat)∧e=at0+p.length∧At s rest e∧wr=w∧k=rest.length)
  case atStart=>exact ⟨at0,[],l,rfl,HD.out,rfl,rfl,rfl,HA0.out,rfl,rfl⟩
  case round=>
    obtain ⟨e,p,rest,hl,hDp,rfl,rfl,he,ha,hw,hk⟩:=hrel
    replace hk:=hk.symm
    subst hk
    replace hw:=hw.symm
    subst hw
    obtain ⟨V,hV⟩:∃ V,V=decV 0 (p.take 4):=⟨_,rfl⟩
    have hV4:V<10000:=by
      rw [hV]
      have h1:=decV_lt (p.take 4) (fun c hc=>HDN.out c (by rw [hDp];exact List.mem_append_left _ (List.mem_of_mem_take hc))) 0
      refine Nat.lt_of_lt_of_le h1 ?_
      rw [Nat.zero_add,Nat.one_mul]
      exact Nat.le_trans (Nat.pow_le_pow_right (by decide) (show (p.take 4).length≤4 by rw [List.length_take];omega)) (by decide)
    rw [← hV]
    have hlen:=ha.len
    have HA:=hid ha
    have HV:=hid hV
    have HL:=hid hl
    have HDP:=hid hDp
    have HE:=hid he
    clear ha hV hl hDp
    by_cases hnum:∃ c t,rest=c::t∧isNum c=true
    · obtain ⟨c,t,hr,hc⟩:=hnum
      subst hr
      have hlt:=HA.out.lt
      have hib:=HA.out.byte
      have hii:(e:Int)<(s.length:Int):=by omega
      have hc2:=hc
      unfold isNum at hc2
      simp only [Bool.and_eq_true,decide_eq_true_eq] at hc2
      have h48:(48:Int)≤(c.toNat:Int):=by omega
      have h57:(c.toNat:Int)≤57:=by omega
      obtain ⟨d,hd⟩:∃ d,d=c.toNat-48:=⟨_,rfl⟩
      have hsub:IntKind.u8.wrap ((c.toNat:Int)-48)=(d:Int):=by rw [IntKind.wrap_u8];omega
      have hwd:IntKind.i64.wrap (d:Int)=(d:Int):=IntWalk.i64_in _ (by omega)
      have hd9:d≤9:=by omega
      have HDS:=hid (dgs_step (t:=t) hc)
      by_cases hp4:p.length<4
      · have hcmp:(e:Int)<(at0:Int)+4:=by omega
        have HVN:=hid (show 10*V+d=decV 0 ((p++[c]).take 4) by
          rw [List.take_of_length_le (by rw [List.length_append];simp only [List.length_cons,List.length_nil];omega),decV_snoc,HV.out,List.take_of_length_le (by omega),hd])
        clear hd hc hc2 hp4 he
        go_wp2
        go_roundg t.length
        case measure=>simp
        case rel=>exact ⟨e+1,p++[c],t,by rw [HL.out,List.append_assoc];rfl,by rw [HDP.out,HDS.out,List.append_assoc];rfl,by rw [← HVN.out];go_num,by go_num,by rw [HE.out,List.length_append];rfl,HA.out.tail,rfl,rfl⟩
      · have hcmp:¬ ((e:Int)<(at0:Int)+4):=by omega
        have HVN:=hid (show V=decV 0 ((p++[c]).take 4) by
          rw [List.take_append_of_le_length (by omega),HV.out])
        clear hd hc hc2 hp4 he hsub hwd
        go_wp2
        go_roundg t.length
        case measure=>simp
        case rel=>exact ⟨e+1,p++[c],t,by rw [HL.out,List.append_assoc];rfl,by rw [HDP.out,HDS.out,List.append_assoc];rfl,by rw [← HVN.out],by go_num,by rw [HE.out,List.length_append];rfl,HA.out.tail,rfl,rfl⟩
    · have hd0 : dgs rest = [] := by
        cases rest with
        | nil=>rfl
        | cons c t=>exact dgs_stop (by cases h:isNum c;rfl;exact absurd ⟨c,t,rfl,h⟩ hnum)
      have hDe:D=p:=by rw [HDP.out,hd0,List.append_nil]
      have HDE:=hid hDe
      have HEND:=hid (show at0+D.length=e by rw [hDe,HE.out])
      have HVD:=hid (show decV 0 (D.take 4)=V by rw [hDe,HV.out])
      have HFI:=hid (fun (x:Bool) (h:OK=x)=>show Ending.returned (.tuple #[.int .i64 (decV 0 (D.take 4):Nat),.int .i64 ((at0+D.length:Nat):Int),.bool OK])=.returned (.tuple #[.int .i64 (V:Nat),.int .i64 (e:Nat),.bool x]) by rw [HVD.out,HEND.out,h])
      have HOK2:=HOK.out
      rw [hDe] at HOK2
      obtain ⟨k,hk⟩:∃ k,k=p.length:=⟨_,rfl⟩
      rw [← hk] at HOK2 he
      have hsub:(e:Int)-(at0:Int)=(k:Int):=by omega
      have HSUB:=hid hsub
      have tail:∀ (Q:Prop),True:=fun _=>trivial
      clear hDe tail
      cases rest with
      | nil=>
        have hie:¬ (e:Int)<(s.length:Int):=by simp at hlen;omega
        clear hnum hd0
        by_cases hk0:k=0
        · have heq:((e:Int) == (at0:Int))=true:=by rw [beq_iff_eq];omega
          have HRR:=hid (show OK=true by rw [HOK2,hk0];rfl)
          clear hk0 HOK2 hk hsub he
          go_wp2
          go_ret3
          exact ⟨(HFI.out _ HRR.out).symm,rfl⟩
        · have heq:((e:Int) == (at0:Int))=false:=by rw [beq_eq_false_iff_ne];omega
          obtain ⟨c0,t0,hl0⟩:∃ c0 t0,l=c0::t0:=by
            have hl:=HL.out
            cases l with
            | nil=>exact absurd (congrArg List.length hl) (by rw [List.length_append];simp only [List.length_nil];omega)
            | cons c0 t0=>exact ⟨c0,t0,rfl⟩
          have ha0:=HA0.out
          rw [hl0] at ha0 HOK2
          have hb0:=ha0.byte
          have hlt0:=ha0.lt
          have hlt0I:(at0:Int)<(s.length:Int):=by omega
          by_cases hk4:4<k
          · have h4:¬ ((k:Int)≤4):=by omega
            have HRR:=hid (show OK=false by rw [HOK2,decide_eq_false hk0,decide_eq_false (by omega:¬ k≤4)];rfl)
            clear hk0 HOK2 hk he hk4 hl0 ha0
            go_wp2
            go_ret3
            exact ⟨(HFI.out _ HRR.out).symm,rfl⟩
          · have h4:(k:Int)≤4:=by omega
            by_cases h48:c0=48
            · have y48:((c0.toNat:Int) != 48)=false:=byte_is' h48 rfl
              by_cases hk1:k=1
              · have h1:((k:Int) == 1)=true:=by rw [beq_iff_eq];omega
                have HRR:=hid (show OK=true by rw [HOK2,hk1,h48];rfl)
                clear hk0 HOK2 hk he hk4 hl0 ha0 h48 hk1
                go_wp2
                go_ret3
                exact ⟨(HFI.out _ HRR.out).symm,rfl⟩
              · have h1:((k:Int) == 1)=false:=by rw [beq_eq_false_iff_ne];omega
                have HRR:=hid (show OK=false by rw [HOK2,decide_eq_false hk0,decide_eq_false hk1,h48,decide_eq_true (by omega:k≤4)];rfl)
                clear hk0 HOK2 hk he hk4 hl0 ha0 h48 hk1
                go_wp2
                go_ret3
                exact ⟨(HFI.out _ HRR.out).symm,rfl⟩
            · have y48:((c0.toNat:Int) != 48)=true:=byte_ne' 48 h48 rfl
              have HRR:=hid (show OK=true by rw [HOK2,decide_eq_false hk0,decide_eq_true (by omega:k≤4)];simp [h48])
              clear hk0 HOK2 hk he hk4 hl0 ha0 h48
              go_wp2
              go_ret3
              exact ⟨(HFI.out _ HRR.out).symm,rfl⟩
      | cons c t=>
        have hlt:=HA.out.lt
        have hib:=HA.out.byte
        have hii:(e:Int)<(s.length:Int):=by omega
        have hcn:isNum c=false:=by cases h:isNum c;rfl;exact absurd ⟨c,t,rfl,h⟩ hnum
        unfold isNum at hcn
        by_cases h48l:48≤c.toNat
        · have hb48:(48:Int)≤(c.toNat:Int):=by omega
          have hb57:¬ ((c.toNat:Int)≤57):=by
            intro h
            rw [decide_eq_true h48l,decide_eq_true (by omega:c.toNat≤57)] at hcn
            cases hcn
          clear hnum hd0 hcn h48l
          by_cases hk0:k=0
          · have heq:((e:Int) == (at0:Int))=true:=by rw [beq_iff_eq];omega
            have HRR:=hid (show OK=true by rw [HOK2,hk0];rfl)
            clear hk0 HOK2 hk hsub he
            go_wp2
            go_ret3
            exact ⟨(HFI.out _ HRR.out).symm,rfl⟩
          · have heq:((e:Int) == (at0:Int))=false:=by rw [beq_eq_false_iff_ne];omega
            obtain ⟨c0,t0,hl0⟩:∃ c0 t0,l=c0::t0:=by
              have hl:=HL.out
              cases l with
              | nil=>exact absurd (congrArg List.length hl) (by rw [List.length_append];simp only [List.length_nil];omega)
              | cons c0 t0=>exact ⟨c0,t0,rfl⟩
            have ha0:=HA0.out
            rw [hl0] at ha0 HOK2
            have hb0:=ha0.byte
            have hlt0:=ha0.lt
            have hlt0I:(at0:Int)<(s.length:Int):=by omega
            by_cases hk4:4<k
            · have h4:¬ ((k:Int)≤4):=by omega
              have HRR:=hid (show OK=false by rw [HOK2,decide_eq_false hk0,decide_eq_false (by omega:¬ k≤4)];rfl)
              clear hk0 HOK2 hk he hk4 hl0 ha0
              go_wp2
              go_ret3
              exact ⟨(HFI.out _ HRR.out).symm,rfl⟩
            · have h4:(k:Int)≤4:=by omega
              by_cases h48:c0=48
              · have y48:((c0.toNat:Int) != 48)=false:=byte_is' h48 rfl
                by_cases hk1:k=1
                · have h1:((k:Int) == 1)=true:=by rw [beq_iff_eq];omega
                  have HRR:=hid (show OK=true by rw [HOK2,hk1,h48];rfl)
                  clear hk0 HOK2 hk he hk4 hl0 ha0 h48 hk1
                  go_wp2
                  go_ret3
                  exact ⟨(HFI.out _ HRR.out).symm,rfl⟩
                · have h1:((k:Int) == 1)=false:=by rw [beq_eq_false_iff_ne];omega
                  have HRR:=hid (show OK=false by rw [HOK2,decide_eq_false hk0,decide_eq_false hk1,h48,decide_eq_true (by omega:k≤4)];rfl)
                  clear hk0 HOK2 hk he hk4 hl0 ha0 h48 hk1
                  go_wp2
                  go_ret3
                  exact ⟨(HFI.out _ HRR.out).symm,rfl⟩
              · have y48:((c0.toNat:Int) != 48)=true:=byte_ne' 48 h48 rfl
                have HRR:=hid (show OK=true by rw [HOK2,decide_eq_false hk0,decide_eq_true (by omega:k≤4)];simp [h48])
                clear hk0 HOK2 hk he hk4 hl0 ha0 h48
                go_wp2
                go_ret3
                exact ⟨(HFI.out _ HRR.out).symm,rfl⟩
        · have hb48:¬ ((48:Int)≤(c.toNat:Int)):=by omega
          clear hnum hd0 hcn h48l
          by_cases hk0:k=0
          · have heq:((e:Int) == (at0:Int))=true:=by rw [beq_iff_eq];omega
            have HRR:=hid (show OK=true by rw [HOK2,hk0];rfl)
            clear hk0 HOK2 hk hsub he
            go_wp2
            go_ret3
            exact ⟨(HFI.out _ HRR.out).symm,rfl⟩
          · have heq:((e:Int) == (at0:Int))=false:=by rw [beq_eq_false_iff_ne];omega
            obtain ⟨c0,t0,hl0⟩:∃ c0 t0,l=c0::t0:=by
              have hl:=HL.out
              cases l with
              | nil=>exact absurd (congrArg List.length hl) (by rw [List.length_append];simp only [List.length_nil];omega)
              | cons c0 t0=>exact ⟨c0,t0,rfl⟩
            have ha0:=HA0.out
            rw [hl0] at ha0 HOK2
            have hb0:=ha0.byte
            have hlt0:=ha0.lt
            have hlt0I:(at0:Int)<(s.length:Int):=by omega
            by_cases hk4:4<k
            · have h4:¬ ((k:Int)≤4):=by omega
              have HRR:=hid (show OK=false by rw [HOK2,decide_eq_false hk0,decide_eq_false (by omega:¬ k≤4)];rfl)
              clear hk0 HOK2 hk he hk4 hl0 ha0
              go_wp2
              go_ret3
              exact ⟨(HFI.out _ HRR.out).symm,rfl⟩
            · have h4:(k:Int)≤4:=by omega
              by_cases h48:c0=48
              · have y48:((c0.toNat:Int) != 48)=false:=byte_is' h48 rfl
                by_cases hk1:k=1
                · have h1:((k:Int) == 1)=true:=by rw [beq_iff_eq];omega
                  have HRR:=hid (show OK=true by rw [HOK2,hk1,h48];rfl)
                  clear hk0 HOK2 hk he hk4 hl0 ha0 h48 hk1
                  go_wp2
                  go_ret3
                  exact ⟨(HFI.out _ HRR.out).symm,rfl⟩
                · have h1:((k:Int) == 1)=false:=by rw [beq_eq_false_iff_ne];omega
                  have HRR:=hid (show OK=false by rw [HOK2,decide_eq_false hk0,decide_eq_false hk1,h48,decide_eq_true (by omega:k≤4)];rfl)
                  clear hk0 HOK2 hk he hk4 hl0 ha0 h48 hk1
                  go_wp2
                  go_ret3
                  exact ⟨(HFI.out _ HRR.out).symm,rfl⟩
              · have y48:((c0.toNat:Int) != 48)=true:=byte_ne' 48 h48 rfl
                have HRR:=hid (show OK=true by rw [HOK2,decide_eq_false hk0,decide_eq_true (by omega:k≤4)];simp [h48])
                clear hk0 HOK2 hk he hk4 hl0 ha0 h48
                go_wp2
                go_ret3
                exact ⟨(HFI.out _ HRR.out).symm,rfl⟩
end Go.Proofs.YtihdndaibmgoiaaGreatDoor.Pz
namespace Go.Proofs.YtihdndaibmgoiaaGreatDoor.Pz
open Go.RowKit
theorem Tryz.infoD:(Tryz.prog.info? 103).map (fun i=>(i.zero,i.size,i.bytes))=some (some (.agg #[.int .u8 0,.bool false,.int .i64 0]),3,16):=by kernel_rfl
def fldCell (f:Fld):List Value:=[.int .u8 (f.letter.toNat:Nat),.bool f.plain,.int .i64 f.count]
def fldCells (l:List Fld):List Value:=l.flatMap fldCell
theorem fldCells_app (a b:List Fld):fldCells (a++b)=fldCells a++fldCells b:=by simp [fldCells]
theorem fldCells_one (l:List Fld):∀ u∈fldCells l,u.oneCell'=true:=by
 intro u hu
 obtain ⟨f,_,hf⟩:=List.mem_flatMap.1 hu
 unfold fldCell at hf
 simp only [List.mem_cons,List.not_mem_nil,or_false] at hf
 rcases hf with rfl | rfl | rfl<;>rfl
def RowD (B:Nat) (w:World) (v:Value) (l:List Fld):Prop:=w.ownsRow B 103 3 v l.length (fldCells l)
theorem RowD.nil (B:Nat) (w:World):RowD B w (.slice none 0 0) []:=World.ownsRow_nil _ _ _ _
theorem RowD.lt {B:Nat} {w:World} {v:Value} {l:List Fld} (h:RowD B w v l):∀ g,v.ownBlock=some g→g<w.heap.size∧B≤g:=fun g hg=>⟨(ownsRow_lt h g hg).1,ownsRow_base h g hg⟩
theorem RowD.below {B C:Nat} {w w':World} {v:Value} {l:List Fld} (h:RowD B w v l) (hb:Below C w w') (hC:∀ g,v.ownBlock=some g→g<C):RowD B w' v l:=ownsRow_heap h fun g hg=>hb.block g (hC g hg)
theorem RowD.on {B:Nat} {w w':World} {v:Value} {l:List Fld} (h:RowD B w v l) (hb:Below w.heap.size w w'):RowD B w' v l:=h.below hb fun g hg=>(h.lt g hg).1
theorem fld_new (w:World) (f:Fld) (t:TypeId):∀ j u,(fldCell f)[j]? = some u→(w.alloc (.cells #[.int .u8 (f.letter.toNat:Nat),.bool f.plain,.int .i64 f.count] t)).cell? ((⟨w.heap.size,0,none⟩:Addr).add j)=some u:=by
 intro j u hj
 rw [add_none,Nat.zero_add,Lib.cell_of_heap (heap_alloc_new _ _)]
 match j,hj with
 | 0,hj=>exact hj
 | 1,hj=>exact hj
 | 2,hj=>exact hj
theorem appD_one {w:World} {N:Nat} (hN:w.heap.size=N) {ops:Array Oper} {rest:List Oper} {o:Oper} {a:Act} {Q:Exit→Act→World→Prop} (hgd:o.guard=none) (s x:Operand)
  (ho:o.op=.call { callee:=.builtin .append,args:=#[s,x],argTypes:=#[99,99] }) (B:Nat) (v:Value) (l:List Fld) (q:Fld)
  (hs:a.eval s=v) (hown:RowD B w v l) (hx:a.eval x=.slice (some ⟨N,0,none⟩) 1 1) (hB:B≤w.heap.size) (hl:l.length≤1000000)
  (h:∀ v' w',RowD B w' v' (l++[q])→w.grownBy w' v.ownBlock→(∀ g,v'.ownBlock=some g→v.ownBlock=some g∨w.heap.size≤g)→wpList Tryz.prog ops Q rest (a.put o.dst v') w') :
  wpList Tryz.prog ops Q (o::rest) a (w.alloc (.cells #[.int .u8 (q.letter.toNat:Nat),.bool q.plain,.int .i64 q.count] 103)):=by
 obtain ⟨i0,hi,hz0,hz1,hz2⟩:=info_parts Tryz.infoD
 subst hN
 have hown':(w.alloc (.cells #[.int .u8 (q.letter.toNat:Nat),.bool q.plain,.int .i64 q.count] 103)).ownsRow B 103 3 v l.length (fldCells l):=World.ownsRow.alloc hown _
 refine wpList_append_own_at _ hgd s x 99 ho B 103 i0 (.agg #[.int .u8 0,.bool false,.int .i64 0]) 3 16 Tryz.underlying99 hi hz0 hz1 hz2 rfl (by decide) v l.length (fldCells l) hs hown' ⟨w.heap.size,0,none⟩ 1 1 (fldCell q) hx rfl (fld_new _ _ _) (by have:=fldCells_one [q];simpa [fldCells] using this) ?_ ?_ ?_ ?_
 ·unfold maxLen;omega
 ·omega
 ·simp;omega
 ·intro v' w' hrow hg _ hat
  refine h v' w' ?_ ?_ ?_
  ·show w'.ownsRow B 103 3 v' (l++[q]).length (fldCells (l++[q]))
   rw [fldCells_app,List.length_append]
   have e:fldCells [q]=fldCell q:=by simp [fldCells]
   rw [e]
   exact hrow
  ·refine ⟨hg.os,hg.tape,hg.output,?_,fun k hk hr=>?_⟩
   ·have:=hg.size;simp at this;omega
   ·rw [hg.block k (by simp;omega) hr]
    exact Below.heap_alloc _ _ _ (by omega)
  ·intro g hgv
   rcases hat with h2 | h2
   ·exact .inl (by rw [← h2];exact hgv)
   ·rw [h2] at hgv
    have:=Option.some.inj hgv
    simp at this
    exact .inr (by omega)
end Go.Proofs.YtihdndaibmgoiaaGreatDoor.Pz
namespace Go.Proofs.YtihdndaibmgoiaaGreatDoor.Pz
open Go.RowKit
theorem dgs_len (l:Str):(dgs l).length≤l.length:=by
 unfold dgs
 exact (List.takeWhile_prefix _).length_le
theorem numE_dgs:∀ (k a:Nat) (l:Str),numE k a l=(decV a ((dgs l).take k),l.drop (min k (dgs l).length))
 | k,a,[]=>by
  have e:dgs []=[]:=rfl
  rw [numE,e,List.take_nil,List.drop_nil]
  rfl
 | 0,a,c::t=>by
  rw [numE,List.take_zero,Nat.zero_min,List.drop_zero]
  ·rfl
  ·simp
 | k+1,a,c::t=>by
  cases h:isNum c with
  | true=>
   have e1:numE (k+1) a (c::t)=numE k (10*a+(c.toNat-48)) t:=by rw [numE,if_pos h]
   have e2:decV a (c::(dgs t).take k)=decV (10*a+(c.toNat-48)) ((dgs t).take k):=rfl
   rw [e1,numE_dgs k _ t,dgs_step h,List.take_succ_cons,e2,List.length_cons,show min (k+1) ((dgs t).length+1)=min k (dgs t).length+1 by omega,List.drop_succ_cons]
  | false=>
   have e1:numE (k+1) a (c::t)=(a,c::t):=by rw [numE,if_neg (by rw [h];decide)]
   rw [e1,dgs_stop h,List.take_nil,List.length_nil,Nat.min_zero,List.drop_zero]
   rfl
theorem decV_ge:∀ (p:Str) (a:Nat),a*10 ^ p.length≤decV a p
 | [],a=>by show a*1≤a;omega
 | c::p,a=>by
  have h1:=decV_ge p (10*a+(c.toNat-48))
  have e:decV a (c::p)=decV (10*a+(c.toNat-48)) p:=rfl
  have e2:(10:Nat) ^ (c::p).length=10 ^ p.length*10:=Nat.pow_succ ..
  rw [e,e2]
  generalize (10:Nat) ^ p.length=Q at h1 ⊢
  generalize decV (10*a+(c.toNat-48)) p=Z at h1 ⊢
  have h3:=Nat.mul_le_mul_right Q (show a*10≤10*a+(c.toNat-48) by omega)
  rw [Nat.mul_comm Q 10,← Nat.mul_assoc]
  exact Nat.le_trans h3 h1
theorem cnt_none {l:Str} (h:dgs l=[]) (h2:l.head?≠some 42):cntE l=(-1,true,l):=by
 cases l with
 | nil=>rfl
 | cons c t=>
  have hc:isNum c=false:=by
   cases hh:isNum c
   ·rfl
   ·rw [dgs_step hh] at h;cases h
  rw [cntE,if_neg (by rw [hc];decide),if_neg (by simpa using h2)]
theorem cnt_star (t:Str):cntE (42::t)=(-2,true,t):=rfl
theorem cnt_some {l:Str} (h:dgs l≠[]):(cntE l).2.1=numOk l∧(numOk l=true→cntE l=(((decV 0 ((dgs l).take 4):Nat):Int),true,l.drop (dgs l).length)):=by
 cases l with
 | nil=>exact absurd rfl h
 | cons c t=>
  have hc:isNum c=true:=by
   cases hh:isNum c
   ·exact absurd (dgs_stop hh) h
   ·rfl
  have hc2:=hc
  unfold isNum at hc2
  simp only [Bool.and_eq_true,decide_eq_true_eq] at hc2
  have hD:=dgs_step (t:=t) hc
  have hdl:=dgs_len t
  obtain ⟨d,hd⟩:∃ d,d=(dgs (c::t)).length:=⟨_,rfl⟩
  have hd1:d=(dgs t).length+1:=by rw [hd,hD];rfl
  have hne:=numE_dgs 5 0 (c::t)
  have hnum:numOk (c::t)=(decide (d≤4) && (c != 48 || decide (d=1))):=by
   unfold numOk
   rw [← hd,decide_eq_false (by omega:¬ d=0)]
   rfl
  rw [cntE,if_pos hc,hne,← hd]
  dsimp only
  have hlen:((c::t).drop (min 5 d)).length=t.length+1-min 5 d:=by rw [List.length_drop,List.length_cons]
  rw [hlen,hnum]
  have hall:∀ x∈dgs (c::t),isNum x=true:=dgs_num _
  by_cases hd4:d≤4
  ·have e5:(dgs (c::t)).take 5=dgs (c::t):=List.take_of_length_le (by omega)
   have e4:(dgs (c::t)).take 4=dgs (c::t):=List.take_of_length_le (by omega)
   have hv:=decV_lt (dgs (c::t)) hall 0
   rw [← hd,Nat.zero_add,Nat.one_mul] at hv
   have hv2:decV 0 (dgs (c::t))≤9999:=by
    have:=Nat.pow_le_pow_right (show 0<10 by decide) hd4
    have e:(10:Nat) ^ 4=10000:=by decide
    omega
   rw [e5,e4,decide_eq_true hv2,decide_eq_true hd4,show min 5 d=d by omega]
   by_cases h48:c=48
   ·by_cases hd1':d=1
    ·rw [hd1',h48]
     refine ⟨?_,fun _=>?_⟩
     ·simp
     ·simp
    ·have hlt:t.length+1-d<t.length:=by omega
     rw [h48,decide_eq_true hlt,decide_eq_false hd1']
     exact ⟨rfl,fun h=>by cases h⟩
   ·have hb:(c == 48)=false:=by simpa using h48
    have hb2:(c != 48)=true:=by simpa using h48
    rw [hb,hb2]
    exact ⟨rfl,fun _=>rfl⟩
  ·rw [decide_eq_false hd4]
   refine ⟨?_,fun h=>by cases h⟩
   by_cases h48:c=48
   ·have hlt:t.length+1-min 5 d<t.length:=by omega
    rw [h48,decide_eq_true hlt]
    simp
   ·have e5:(dgs (c::t)).take 5=c::(dgs t).take 4:=by rw [hD,List.take_succ_cons]
    have hge:=decV_ge ((dgs t).take 4) (10*0+(c.toNat-48))
    have hl4:((dgs t).take 4).length=4:=by rw [List.length_take];omega
    rw [hl4] at hge
    have hc3:c.toNat≠48:=fun h=>h48 (by rw [← UInt8.ofNat_toNat (x:=c),h];rfl)
    have hv:¬ decV 0 ((dgs (c::t)).take 5)≤9999:=by
     rw [e5]
     show ¬ decV (10*0+(c.toNat-48)) ((dgs t).take 4)≤9999
     have e:(10:Nat) ^ 4=10000:=by decide
     rw [e] at hge
     omega
    rw [decide_eq_false hv]
    rfl
def readG (u:Bool) (s:Str):Option (List Fld):=if (fldsE s).all (fun f=>f.letter != 0 && (u || !f.plain)) then some (fldsE s) else none
theorem readG_nil (u:Bool):readG u []=some []:=rfl
theorem readG_blank (u:Bool) (t:Str):readG u (32::t)=readG u t:=by
 unfold readG
 rw [fldsE_blank rfl]
theorem readG_bad (u:Bool) {c:UInt8} {t:Str} (h:c≠32) (hg:(fldE c t).2.1=false):readG u (c::t)=none:=by
 unfold readG
 rw [fldsE_bad h hg]
 rfl
theorem readG_good (u:Bool) {c:UInt8} {t:Str} (h:c≠32) (hg:(fldE c t).2.1=true):readG u (c::t)=if u || !(fldE c t).1.plain then (readG u (fldE c t).2.2).map ((fldE c t).1 :: ·) else none:=by
 have hl:((fldE c t).1.letter != 0)=true:=by
  have:=known_ne (fldE_ok hg).1
  simpa using this
 unfold readG
 rw [fldsE_good h hg,List.all_cons,hl,Bool.true_and]
 cases hp:(u || !(fldE c t).1.plain) with
 | false=>rw [Bool.false_and,if_neg (by simp),if_neg (by simp)]
 | true=>
  rw [Bool.true_and,if_pos rfl]
  split<;>rfl
theorem readG_valid (s:Str):readG true s=if validE s then some (fldsE s) else none:=by
 unfold readG validE
 simp
theorem readG_packing (s:Str):readG false s=if packingE s then some (fldsE s) else none:=by
 unfold readG packingE
 simp
end Go.Proofs.YtihdndaibmgoiaaGreatDoor.Pz
namespace Go.Proofs.YtihdndaibmgoiaaGreatDoor.Pz
open Go.Shelf
def Tryz.lays159_ren:Go.Shelf.Ren:=⟨fun | 159=>173 | 165=>76 | 166=>77 | 167=>91 | 169=>78 | 230=>136 | 204=>190 | 240=>123 | 241=>124 | 197=>161 | 118=>162 | 168=>163 | 270=>164 | 262=>165 | 276=>153 | 277=>154 | 260=>184 | 242=>185 | 313=>186 | 278=>205 | 274=>206 | 275=>207 | n=>n,fun | 9=>9 | 4=>4 | 3=>3 | 5=>5 | 72=>88 | 0=>0 | 76=>92 | 75=>91 | 107=>158 | 70=>86 | 20=>20 | 37=>46 | 127=>140 | 21=>21 | 105=>173 | 164=>169 | 162=>191 | 203=>189 | 119=>153 | 46=>98 | 139=>156 | 138=>155 | 51=>97 | 160=>210 | 208=>230 | 206=>228 | 80=>94 | n=>n,fun | 13=>3 | 3=>0 | 4=>1 | n=>n⟩
theorem Tryz.lays159:Go.Proofs.Lays.n159 Tryz.prog Tryz.lays159_ren:={
 mixed:=by kernel_rfl
 f118:=Tryz.func162.trans (congrArg some (by kernel_rfl))
 f159:=Tryz.func173.trans (congrArg some (by kernel_rfl))
 f165:=Tryz.func76.trans (congrArg some (by kernel_rfl))
 f166:=Tryz.func77.trans (congrArg some (by kernel_rfl))
 f167:=Tryz.func91.trans (congrArg some (by kernel_rfl))
 f168:=Tryz.func163.trans (congrArg some (by kernel_rfl))
 f169:=Tryz.func78.trans (congrArg some (by kernel_rfl))
 f197:=Tryz.func161.trans (congrArg some (by kernel_rfl))
 f204:=Tryz.func190.trans (congrArg some (by kernel_rfl))
 f230:=Tryz.func136.trans (congrArg some (by kernel_rfl))
 f240:=Tryz.func123.trans (congrArg some (by kernel_rfl))
 f241:=Tryz.func124.trans (congrArg some (by kernel_rfl))
 f242:=Tryz.func185.trans (congrArg some (by kernel_rfl))
 f260:=Tryz.func184.trans (congrArg some (by kernel_rfl))
 f262:=Tryz.func165.trans (congrArg some (by kernel_rfl))
 f270:=Tryz.func164.trans (congrArg some (by kernel_rfl))
 f274:=Tryz.func206.trans (congrArg some (by kernel_rfl))
 f275:=Tryz.func207.trans (congrArg some (by kernel_rfl))
 f276:=Tryz.func153.trans (congrArg some (by kernel_rfl))
 f277:=Tryz.func154.trans (congrArg some (by kernel_rfl))
 f278:=Tryz.func205.trans (congrArg some (by kernel_rfl))
 f313:=Tryz.func186.trans (congrArg some (by kernel_rfl))
 t0:=Tryz.underlying0
 a0:=Tryz.isAgg0
 z0:=Tryz.sizeOf0
 v0:=Tryz.zeroValue0
 t3:=Tryz.underlying3
 a3:=Tryz.isAgg3
 z3:=Tryz.sizeOf3
 v3:=Tryz.zeroValue3
 t4:=Tryz.underlying4
 a4:=Tryz.isAgg4
 z4:=Tryz.sizeOf4
 v4:=Tryz.zeroValue4
 t5:=Tryz.underlying5
 a5:=Tryz.isAgg5
 z5:=Tryz.sizeOf5
 v5:=Tryz.zeroValue5
 t9:=Tryz.underlying9
 a9:=Tryz.isAgg9
 z9:=Tryz.sizeOf9
 v9:=Tryz.zeroValue9
 t20:=Tryz.underlying20
 a20:=Tryz.isAgg20
 z20:=Tryz.sizeOf20
 v20:=Tryz.zeroValue20
 t21:=Tryz.underlying21
 a21:=Tryz.isAgg21
 z21:=Tryz.sizeOf21
 v21:=Tryz.zeroValue21
 t37:=Tryz.underlying46
 a37:=Tryz.isAgg46
 z37:=Tryz.sizeOf46
 v37:=Tryz.zeroValue46
 t46:=Tryz.underlying98
 a46:=Tryz.isAgg98
 z46:=Tryz.sizeOf98
 v46:=Tryz.zeroValue98
 t51:=Tryz.underlying97
 a51:=Tryz.isAgg97
 z51:=Tryz.sizeOf97
 v51:=Tryz.zeroValue97
 t70:=Tryz.underlying86
 a70:=Tryz.isAgg86
 z70:=Tryz.sizeOf86
 v70:=Tryz.zeroValue86
 t72:=Tryz.underlying88
 a72:=Tryz.isAgg88
 z72:=Tryz.sizeOf88
 v72:=Tryz.zeroValue88
 t75:=Tryz.underlying91
 a75:=Tryz.isAgg91
 z75:=Tryz.sizeOf91
 v75:=Tryz.zeroValue91
 t76:=Tryz.underlying92
 a76:=Tryz.isAgg92
 z76:=Tryz.sizeOf92
 v76:=Tryz.zeroValue92
 t105:=Tryz.underlying173
 a105:=Tryz.isAgg173
 z105:=Tryz.sizeOf173
 v105:=Tryz.zeroValue173
 t107:=Tryz.underlying158
 a107:=Tryz.isAgg158
 z107:=Tryz.sizeOf158
 v107:=Tryz.zeroValue158
 t119:=Tryz.underlying153
 a119:=Tryz.isAgg153
 z119:=Tryz.sizeOf153
 t127:=Tryz.underlying140
 a127:=Tryz.isAgg140
 z127:=Tryz.sizeOf140
 v127:=Tryz.zeroValue140
 t138:=Tryz.underlying155
 a138:=Tryz.isAgg155
 z138:=Tryz.sizeOf155
 v138:=Tryz.zeroValue155
 t139:=Tryz.underlying156
 a139:=Tryz.isAgg156
 z139:=Tryz.sizeOf156
 v139:=Tryz.zeroValue156
 t160:=Tryz.underlying210
 a160:=Tryz.isAgg210
 z160:=Tryz.sizeOf210
 v160:=Tryz.zeroValue210
 t162:=Tryz.underlying191
 a162:=Tryz.isAgg191
 z162:=Tryz.sizeOf191
 v162:=Tryz.zeroValue191
 t164:=Tryz.underlying169
 a164:=Tryz.isAgg169
 z164:=Tryz.sizeOf169
 v164:=Tryz.zeroValue169
 t203:=Tryz.underlying189
 a203:=Tryz.isAgg189
 z203:=Tryz.sizeOf189
 v203:=Tryz.zeroValue189
 t206:=Tryz.underlying228
 a206:=Tryz.isAgg228
 z206:=Tryz.sizeOf228
 v206:=Tryz.zeroValue228
 t208:=Tryz.underlying230
 a208:=Tryz.isAgg230
 z208:=Tryz.sizeOf230
 v208:=Tryz.zeroValue230
 g3:=by kernel_rfl
 g4:=by kernel_rfl
 g13:=by kernel_rfl }
theorem Tryz.Builder_Extra_159:Builder.Extra Tryz.prog Tryz.lays159_ren:={
 sizeBuilder:=by kernel_rfl
 liesBuilder:=by kernel_rfl
 t5:=Tryz.underlying5
 a5:=Tryz.isAgg5
 z5:=Tryz.sizeOf5
 v5:=Tryz.zeroValue5
 infoByte:=by kernel_rfl
 cellsByte:=by kernel_rfl
 sizeByte:=by kernel_rfl
 neB5:=by decide }
open Go.RowKit in
theorem Tryz.strings_ToLower_ascii (s:ByteArray) (w:World) (hs:s.size≤140737488355328) (hascii:∀ (j:Nat) (b:UInt8),s.data.toList[j]? = some b→b.toNat<128) :
  Calls Tryz.prog 173 #[.string s] w fun e w'=>e=.returned (.string ⟨(Lib.toLowerA s.data.toList).toArray⟩)∧Below w.heap.size w w':=Any.strings_ToLower_ascii Tryz.lays159 Tryz.Builder_Extra_159 s w hs hascii
def Tryz.lays143_ren:Go.Shelf.Ren:=⟨fun | 143=>102 | 219=>142 | 217=>139 | 225=>170 | 224=>171 | 267=>172 | 266=>167 | 314=>189 | n=>n,fun | 9=>9 | 3=>3 | 4=>4 | 5=>5 | 46=>98 | 146=>192 | 51=>97 | n=>n,fun | 1=>2 | n=>n⟩
theorem Tryz.lays143:Go.Proofs.Lays.n143 Tryz.prog Tryz.lays143_ren:={
 mixed:=by kernel_rfl
 f143:=Tryz.func102.trans (congrArg some (by kernel_rfl))
 f217:=Tryz.func139.trans (congrArg some (by kernel_rfl))
 f219:=Tryz.func142.trans (congrArg some (by kernel_rfl))
 f224:=Tryz.func171.trans (congrArg some (by kernel_rfl))
 f225:=Tryz.func170.trans (congrArg some (by kernel_rfl))
 f266:=Tryz.func167.trans (congrArg some (by kernel_rfl))
 f267:=Tryz.func172.trans (congrArg some (by kernel_rfl))
 f314:=Tryz.func189.trans (congrArg some (by kernel_rfl))
 t3:=Tryz.underlying3
 a3:=Tryz.isAgg3
 z3:=Tryz.sizeOf3
 v3:=Tryz.zeroValue3
 t4:=Tryz.underlying4
 a4:=Tryz.isAgg4
 z4:=Tryz.sizeOf4
 v4:=Tryz.zeroValue4
 t5:=Tryz.underlying5
 a5:=Tryz.isAgg5
 z5:=Tryz.sizeOf5
 v5:=Tryz.zeroValue5
 t9:=Tryz.underlying9
 a9:=Tryz.isAgg9
 z9:=Tryz.sizeOf9
 v9:=Tryz.zeroValue9
 t46:=Tryz.underlying98
 a46:=Tryz.isAgg98
 z46:=Tryz.sizeOf98
 v46:=Tryz.zeroValue98
 t51:=Tryz.underlying97
 a51:=Tryz.isAgg97
 z51:=Tryz.sizeOf97
 v51:=Tryz.zeroValue97
 t146:=Tryz.underlying192
 a146:=Tryz.isAgg192
 z146:=Tryz.sizeOf192
 v146:=Tryz.zeroValue192
 g1:=by kernel_rfl }
open Go.RowKit Go.Lib in
theorem Tryz.strings_Index_one (s:ByteArray) (c:UInt8) (w:World) :
  Calls Tryz.prog 102 #[.string s,.string ⟨#[c]⟩] w fun e w'=>e=.returned (.int .i64 (Lib.indexByte s.data.toList c))∧w'=w:=Any.strings_Index_one Tryz.lays143 s c w
end Go.Proofs.YtihdndaibmgoiaaGreatDoor.Pz
namespace Go.Proofs.YtihdndaibmgoiaaGreatDoor.Pz
open Go.RowKit
attribute [local go_sem] Oper.semAt_some
theorem known_index (c:UInt8):decide ((0:Int)≤Lib.indexByte [97,65,104,72,98,66,99,115,83,105,73,119,87,120,64] c)=knownL c:=by
 have h:(List.range 256).all (fun n=>decide ((0:Int)≤Lib.indexByte [97,65,104,72,98,66,99,115,83,105,73,119,87,120,64] (UInt8.ofNat n)) == knownL (UInt8.ofNat n))=true:=by kernel_rfl
 have h2:=List.all_eq_true.1 h c.toNat (List.mem_range.2 c.toNat_lt)
 simpa using h2
set_option maxHeartbeats 2000000 in
theorem letters_fn (c:UInt8) (w:World):Calls Tryz.prog 54 #[.string ⟨#[97,65,104,72,98,66,99,115,83,105,73,119,87,120,64]⟩,.string ⟨#[c]⟩] w fun e w'=>e=.returned (.bool (knownL c))∧w'=w:=by
 have HI:=hid (fun u=>Tryz.strings_Index_one ⟨#[97,65,104,72,98,66,99,115,83,105,73,119,87,120,64]⟩ c u)
 have hk:=known_index c
 obtain ⟨R,hR⟩:∃ R,R=knownL c:=⟨_,rfl⟩
 rw [← hR] at hk ⊢
 have HII:=hid (show ∀ u,Calls Tryz.prog 102 #[.string ⟨#[97,65,104,72,98,66,99,115,83,105,73,119,87,120,64]⟩,.string ⟨#[c]⟩] u fun e w'=>e=.returned (.int .i64 (Lib.indexByte [97,65,104,72,98,66,99,115,83,105,73,119,87,120,64] c))∧w'=u from HI.out)
 clear HI hR
 generalize Lib.indexByte [97,65,104,72,98,66,99,115,83,105,73,119,87,120,64] c=m at *
 have HK:=hid hk
 clear hk
 go_enter Tryz.func54,Tryz.ntmps54
 go_wp2_with (go_at_call 102;(with_reducible refine (HII.out _).mono ?_);rintro e w1 ⟨rfl,rfl⟩)
 go_ret
 exact ⟨by rw [← HK.out];rfl,rfl⟩
theorem uE_at2 {s:Str} {c:UInt8} {t:Str} {i:Nat} (h:At s t i):At s (uE c t).2 (i+(if (uE c t).1 then 1 else 0)):=by
 cases t with
 | nil=>exact h
 | cons d t=>
  rw [uE]
  split
  ·exact h.tail
  ·exact h
def ReadQ (r:Option (List Fld)) (w:World) (e:Ending) (w':World):Prop:=∃ v,e=.returned (.tuple #[v,.bool r.isSome])∧RowD w.heap.size w' v (r.getD [])∧Below w.heap.size w w'
set_option maxRecDepth 1000000 in
set_option maxHeartbeats 8000000 in
theorem readL_fn (s:Str) (u:Bool) (hs:s.length≤100000) (w:World):Calls Tryz.prog 82 #[.string ⟨s.toArray⟩,.bool u] w (ReadQ (readG u s) w):=by
  have hsz:(⟨s.toArray⟩:ByteArray).size=s.length:=Lib.size_mk _
  obtain ⟨P,hP⟩:∃ P,P=readG u s:=⟨_,rfl⟩
  rw [← hP]
  have HP:=hid hP
  have HLF:=hid (fun c v=>letters_fn c v)
  have HSZ:=hid (fun c v=>sizeR_fn c v)
  clear hP
  unfold ReadQ
  go_enter Tryz.func82,Tryz.ntmps82
  go_wp2_with fail
  go_loopg [6,7] s.length (fun k ov iv wr=>∃ (i:Nat) (l:Str) (os:List Fld),iv=.int .i64 (i:Nat)∧At s l i∧RowD w.heap.size wr ov os∧os.length≤i∧P=(readG u l).map (os ++ ·)∧Below w.heap.size w wr∧k=l.length)
  case atStart=>exact ⟨0,s,[],rfl,At.start s,RowD.nil _ _,Nat.le_refl _,by rw [HP.out];cases readG u s<;>rfl,Below.refl _ _,rfl⟩
  case round=>
    obtain ⟨i,l,os,rfl,ha,hro,hol,hr,hbl,rfl⟩:=hrel
    have hlen:=ha.len
    have HA:=hid ha
    have HRR:=hid hr
    have HROW:=hid hro
    have HBL:=hid hbl
    have ho9:os.length≤100000:=by omega
    clear ha hr hbl hro
    cases l with
    | nil=>
      have hie:¬ (i:Int)<(s.length:Int):=by simp at hlen;omega
      have HO:=hid (show P=some os by rw [HRR.out,readG_nil];show some (os++[])=_;rw [List.append_nil])
      go_wp2
      go_ret2
      exact ⟨_,by rw [HO.out];rfl,by rw [HO.out];exact HROW.out,HBL.out⟩
    | cons c t=>
      have hlt:=HA.out.lt
      have hib:=HA.out.byte
      have hii:(i:Int)<(s.length:Int):=by omega
      have HA1:=hid HA.out.tail
      by_cases h32:c=32
      · have y32:((c.toNat:Int) == 32)=true:=byte_is h32 rfl
        have HN:=hid (show P=(readG u t).map (os ++ ·) by rw [HRR.out,h32,readG_blank])
        clear h32
        go_wp2
        go_roundg t.length
        case measure=>simp
        case rel=>exact ⟨i+1,t,os,by go_num,HA1.out,HROW.out,by omega,HN.out,HBL.out,rfl⟩
      have n32:=byte_ne 32 h32 rfl
      have hcv:=run_convert_bytes_back (P:=Tryz.prog) (wr.alloc (.cells #[.int .u8 (c.toNat:Nat)] 5)) 46 9 5 ⟨wr.heap.size,0,none⟩ 1 [c] Tryz.underlying46 Tryz.underlying5 Tryz.underlying9 (fun k hk=>by
        rw [add_none,Nat.zero_add,Lib.cell_of_heap (heap_alloc_new _ _)]
        match k,hk with
        | 0,_=>rfl)
      rw [show ([c]:Str).length=1 from rfl] at hcv
      have HLC:=hid (HLF.out c)
      cases hk:knownL c with
      | false=>
        have HO:=hid (show P=none by rw [HRR.out,readG_bad u h32 (by unfold fldE;rw [hk];rfl)];rfl)
        have HLC2:=hid (show ∀ v,Calls Tryz.prog 54 _ v fun e w'=>e=.returned (.bool false)∧w'=v from fun v=>by have h:=HLC.out v;rw [hk] at h;exact h)
        clear hk HLC
        go_wp2_with (go_at_call 54;(with_reducible refine (HLC2.out _).mono ?_);rintro e w1 ⟨rfl,rfl⟩)
        go_ret2
        exact ⟨_,by rw [HO.out];rfl,by rw [HO.out];exact RowD.nil _ _,HBL.out.alloc HBL.out.size _⟩
      | true=>
        have HLC2:=hid (show ∀ v,Calls Tryz.prog 54 _ v fun e w'=>e=.returned (.bool true)∧w'=v from fun v=>by have h:=HLC.out v;rw [hk] at h;exact h)
        clear HLC
        go_upto_region 10 with (go_at_call 54;(with_reducible refine (HLC2.out _).mono ?_);rintro e w1 ⟨rfl,rfl⟩)
        obtain ⟨W0,hW0⟩:∃ W0,W0=wr.alloc (.cells #[.int .u8 (c.toNat:Nat)] 5):=⟨_,rfl⟩
        have hz0:W0.heap.size=wr.heap.size+1:=by rw [hW0];simp
        have HW0B:=hid (show Below wr.heap.size wr W0 by rw [hW0];exact (Below.refl _ _).alloc (Nat.le_refl _) _)
        rw [← hW0,← hz0]
        have HZ0:=hid hz0
        clear hW0 hcv hz0 HLC2 n32
        obtain ⟨pl,hpl⟩:∃ pl,pl=(uE c t).1:=⟨_,rfl⟩
        obtain ⟨t1,ht1⟩:∃ t1,t1=(uE c t).2:=⟨_,rfl⟩
        have HPL:=hid hpl
        have HT1:=hid ht1
        have HSZc:=hid (HSZ.out c)
        obtain ⟨k,hkk⟩:∃ k,k=widthL c:=⟨_,rfl⟩
        rw [← hkk] at HSZc
        have HKK:=hid hkk
        clear hpl ht1 hkk
        have HNOP:=hid (fun (h1:pl=true) (h2:u=false)=>show readG u (c::t)=none by
          cases hg:(fldE c t).2.1 with
          | false=>exact readG_bad u h32 hg
          | true=>
            rw [readG_good u h32 hg]
            have e:(fldE c t).1.plain=true:=by rw [← h1,HPL.out];rfl
            rw [e,h2]
            rfl)
        go_cut [45] from 13 to 89 (fun bv wx=>bv=.bool pl∧wx=W0.alloc (.cells #[.int .u8 (c.toNat:Nat),.bool false,.int .i64 (-1)] 103))
        case first=>
          by_cases hk0:k=0
          · have HPF := hid (show pl = false by
              rw [HPL.out]
              cases t with
              | nil=>rfl
              | cons d t=>rw [uE,← HKK.out,hk0];rfl)
            have hkI:¬ ((0:Int)<(k:Int)):=by omega
            clear hk0
            go_wp2_with (go_at_call 83;(with_reducible refine (HSZc.out _).mono ?_);rintro e w1 ⟨rfl,rfl⟩)
            go_meet
            case rel=>exact ⟨by rw [HPF.out],rfl⟩
          · have hkI:(0:Int)<(k:Int):=by omega
            cases t with
            | nil=>
              have HPF:=hid (show pl=false from HPL.out)
              have hin:¬ ((i:Int)+1<(s.length:Int)):=by simp at hlen;omega
              go_wp2_with (go_at_call 83;(with_reducible refine (HSZc.out _).mono ?_);rintro e w1 ⟨rfl,rfl⟩)
              go_meet
              case rel=>exact ⟨by rw [HPF.out],rfl⟩
            | cons d t=>
              have hlt1:=HA1.out.lt
              have hib1:=HA1.out.byte
              have hin:(i:Int)+1<(s.length:Int):=by omega
              have hi1n:((i:Int)+1).toNat=i+1:=by omega
              by_cases h117:d=117
              · have y117:((d.toNat:Int) == 117)=true:=byte_is h117 rfl
                have HPF:=hid (show pl=true by rw [HPL.out,uE,← HKK.out,h117,decide_eq_true (by omega:0<k)];rfl)
                clear h117 hk0
                go_wp2_with (go_at_call 83;(with_reducible refine (HSZc.out _).mono ?_);rintro e w1 ⟨rfl,rfl⟩)
                go_meet
                case rel=>exact ⟨by rw [HPF.out],rfl⟩
              · have n117:=byte_ne 117 h117 rfl
                have HPF:=hid (show pl=false by rw [HPL.out,uE,if_neg (by simp [h117])])
                clear h117 hk0
                go_wp2_with (go_at_call 83;(with_reducible refine (HSZc.out _).mono ?_);rintro e w1 ⟨rfl,rfl⟩)
                go_meet
                case rel=>exact ⟨by rw [HPF.out],rfl⟩
        obtain ⟨rfl,rfl⟩:=hcut
        obtain ⟨i1,hi1⟩:∃ i1,i1=i+1+(if pl then 1 else 0):=⟨_,rfl⟩
        have HI1:=hid hi1
        clear hi1
        go_upto_if 45 with fail
        go_cut [7] from 13 to 89 (fun av wx=>av=.int .i64 (i1:Nat)∧(pl=true→u=true)∧wx=W0.alloc (.cells #[.int .u8 (c.toNat:Nat),.bool pl,.int .i64 (-1)] 103))
        case first=>
          cases pl with
          | false=>
            go_wp2
            go_meet
            case rel=>exact ⟨by rw [HI1.out];go_num,fun h=>(by cases h),rfl⟩
          | true=>
            cases u with
            | false=>
              have HO:=hid (show P=none by rw [HRR.out,HNOP.out rfl rfl];rfl)
              go_wp2
              go_ret2
              exact ⟨_,by rw [HO.out];rfl,by rw [HO.out];exact RowD.nil _ _,HBL.out.trans ((HW0B.out.mono HBL.out.size).trans ((Below.refl _ W0).alloc (by have:=HBL.out.size;have:=HZ0.out;omega) _))⟩
            | true=>
              go_wp2
              go_meet
              case rel=>exact ⟨by rw [HI1.out];go_num,fun _=>(by first | rfl | trivial),rfl⟩
        obtain ⟨rfl,hplu,rfl⟩:=hcut
        have HPLU:=hid hplu
        have HA2:=hid (show At s t1 i1 by rw [HT1.out,HI1.out,HPL.out];exact uE_at2 HA1.out)
        have hi1le:i+1≤i1:=by rw [HI1.out];omega
        have hlen1:=HA2.out.len
        clear hplu HNOP
        obtain ⟨st,hst⟩:∃ st,st=(t1.head? == some 42):=⟨_,rfl⟩
        have HST:=hid hst
        clear hst
        go_upto_region 15 with fail
        go_cut [60] from 13 to 89 (fun bv wx=>bv=.bool st∧wx=W0.alloc (.cells #[.int .u8 (c.toNat:Nat),.bool pl,.int .i64 (-1)] 103))
        case first=>
          cases t1 with
          | nil=>
            have HPF:=hid (show st=false from HST.out)
            have hin:¬ ((i1:Int)<(s.length:Int)):=by simp at hlen1;omega
            go_wp2
            go_meet
            case rel=>exact ⟨by rw [HPF.out],rfl⟩
          | cons d t3=>
            have hlt1:=HA2.out.lt
            have hib1:=HA2.out.byte
            have hin:(i1:Int)<(s.length:Int):=by omega
            by_cases h42:d=42
            · have y42:((d.toNat:Int) == 42)=true:=byte_is h42 rfl
              have HPF:=hid (show st=true by rw [HST.out,h42];rfl)
              clear h42
              go_wp2
              go_meet
              case rel=>exact ⟨by rw [HPF.out],rfl⟩
            · have n42:=byte_ne 42 h42 rfl
              have HPF:=hid (show st=false by rw [HST.out];simp [h42])
              clear h42
              go_wp2
              go_meet
              case rel=>exact ⟨by rw [HPF.out],rfl⟩
        obtain ⟨rfl,rfl⟩:=hcut
        have HBAD:=hid (fun (h:(cntE t1).2.1=false)=>show P=none by
          rw [HRR.out,readG_bad u h32 (by unfold fldE;rw [← HT1.out,h,Bool.and_false,Bool.false_and])]
          rfl)
        have HWB:=hid (fun (x:Value)=>show Below wr.heap.size wr (W0.alloc (.cells #[.int .u8 (c.toNat:Nat),.bool pl,x] 103)) from HW0B.out.trans ((Below.refl _ W0).alloc (by have:=HZ0.out;omega) _))
        go_upto_if 60 with fail
        go_cut [7] from 13 to 89 (fun av wx=>∃ (cv:Int) (t2:Str) (i2:Nat),av=.int .i64 (i2:Nat)∧At s t2 i2∧i1≤i2∧cntE t1=(cv,true,t2)∧wx=W0.alloc (.cells #[.int .u8 (c.toNat:Nat),.bool pl,.int .i64 cv] 103))
        case first=>
          cases st with
          | true=>
            obtain ⟨t2,ht2⟩:∃ t2,t1=42::t2:=by
              have h:=HST.out
              cases t1 with
              | nil=>cases h
              | cons d t3=>exact ⟨t3,by have h2:(some d == some 42)=true:=h.symm;simp at h2;rw [h2]⟩
            subst ht2
            go_wp2
            go_meet
            case rel=>exact ⟨-2,t2,i1+1,by go_num,HA2.out.tail,by omega,cnt_star t2,rfl⟩
          | false=>
            have HN:=hid (fun v=>numberR_fn s (by omega) t1 i1 HA2.out v)
            obtain ⟨d,hd⟩:∃ d,d=(dgs t1).length:=⟨_,rfl⟩
            obtain ⟨V,hV⟩:∃ V,V=decV 0 ((dgs t1).take 4):=⟨_,rfl⟩
            obtain ⟨E,hE⟩:∃ E,E=i1+d:=⟨_,rfl⟩
            rw [← hd,← hV,← hE] at HN
            have HV:=hid hV
            have HD:=hid hd
            have HEE:=hid hE
            by_cases hd0:dgs t1=[]
            · have hok:numOk t1=true:=by unfold numOk;rw [hd0];rfl
              have hE2:E=i1:=by rw [hE,hd,hd0];rfl
              rw [hok,hE2] at HN
              have HC:=hid (cnt_none hd0 (fun h=>by have h2:=HST.out;rw [h] at h2;cases h2))
              have hgt:¬ ((i1:Int)<(i1:Int)):=by omega
              clear hok hE2 hd0 hV hd hE
              go_wp2_with (go_at_call 128;(with_reducible refine (HN.out _).mono ?_);rintro e w5 ⟨rfl,rfl⟩)
              go_meet
              case rel=>exact ⟨-1,t1,i1,rfl,HA2.out,Nat.le_refl _,HC.out,rfl⟩
            · obtain ⟨hc1,hc2⟩:=cnt_some hd0
              have hdpos:0<d:=by rw [hd];exact List.length_pos_iff.2 hd0
              cases hok:numOk t1 with
              | false=>
                rw [hok] at HN hc1
                have HO:=hid (HBAD.out hc1)
                clear hok hc1 hc2 hd0 hV hd hE
                go_wp2_with (go_at_call 128;(with_reducible refine (HN.out _).mono ?_);rintro e w5 ⟨rfl,rfl⟩)
                go_ret2
                exact ⟨_,by rw [HO.out];rfl,by rw [HO.out];exact RowD.nil _ _,HBL.out.trans ((HWB.out _).mono HBL.out.size)⟩
              | true=>
                rw [hok] at HN
                have HC:=hid (hc2 hok)
                have hgt:(i1:Int)<(E:Int):=by omega
                have HA3:=hid (show At s (t1.drop d) E by
                  have h1:=HA2.out
                  have h2:=dgs_len t1
                  refine ⟨by rw [List.length_drop,hE];omega,?_⟩
                  rw [hE,← h1.rest,List.drop_drop])
                have HEL:=hid (show i1≤E by omega)
                clear hok hc1 hc2 hd0 hV hd hE
                go_wp2_with (go_at_call 128;(with_reducible refine (HN.out _).mono ?_);rintro e w5 ⟨rfl,rfl⟩)
                go_meet
                case rel=>exact ⟨(V:Nat),t1.drop d,E,rfl,HA3.out,HEL.out,by rw [HC.out,← HV.out,← HD.out],rfl⟩
        obtain ⟨cv,t2,i2,rfl,ha3,hi2,hcn,rfl⟩:=hcut
        have hlen3:=ha3.len
        have HA3:=hid ha3
        have HCN:=hid hcn
        clear ha3 hcn
        have HFE:=hid (show fldE c t=(⟨c,pl,cv⟩,!(c == 64 && decide (cv = -1)),t2) by
          unfold fldE
          rw [← HT1.out,← HPL.out,HCN.out,hk]
          rfl)
        have HGOOD:=hid (fun (h:(!(c == 64 && decide (cv = -1)))=true)=>show P=(readG u t2).map ((os++[⟨c,pl,cv⟩]) ++ ·) by
          have h1:=HFE.out
          rw [h] at h1
          rw [HRR.out,readG_good u h32 (by rw [h1]),h1]
          have h2:(u || !pl)=true:=by
            cases hpp:pl with
            | false=>simp
            | true=>rw [HPLU.out hpp];rfl
          dsimp only
          rw [h2,if_pos rfl]
          cases readG u t2 with
          | none=>rfl
          | some r=>simp)
        have HROW1:=hid (HROW.out.on (HWB.out (.int .i64 cv)))
        have hB1:w.heap.size≤(W0.alloc (.cells #[.int .u8 (c.toNat:Nat),.bool pl,.int .i64 cv] 103)).heap.size:=Nat.le_trans HBL.out.size (HWB.out (.int .i64 cv)).size
        have hm2:t2.length<(c::t).length:=by simp only [List.length_cons] at hlen ⊢;omega
        clear hk
        by_cases h64:c=64
        · have y64:((c.toNat:Int) == 64)=true:=byte_is h64 rfl
          by_cases hm1:cv = -1
          · subst hm1
            have HO:=hid (show P=none by
              have h1:=HFE.out
              rw [h64] at h1
              rw [HRR.out,h64,readG_bad u (by decide) (by rw [h1];rfl)]
              rfl)
            clear h64
            go_wp2
            go_ret2
            exact ⟨_,by rw [HO.out];rfl,by rw [HO.out];exact RowD.nil _ _,HBL.out.trans ((HWB.out _).mono HBL.out.size)⟩
          · have nm1:(cv == -1)=false:=by rw [beq_eq_false_iff_ne];exact hm1
            have HN:=hid (HGOOD.out (by rw [decide_eq_false hm1,Bool.and_false];rfl))
            clear hm1 h64
            go_wp2_with (at_builtin;refine appD_one (by simp) rfl (.tmp 86) (.tmp 88) rfl w.heap.size _ os ⟨c,pl,cv⟩ rfl HROW1.out rfl hB1 (by omega) ?_;intro v9 w9 hr9 hg9 hv9;have HR9:=hid hr9;have HG9:=hid hg9;clear hr9 hg9 hv9)
            go_roundg t2.length
            case measure=>exact hm2
            case rel=>exact ⟨i2,t2,os++[⟨c,pl,cv⟩],by go_num,HA3.out,HR9.out,by rw [List.length_append];simp only [List.length_cons,List.length_nil];omega,HN.out,(HBL.out.trans ((HWB.out _).mono HBL.out.size)).grown HG9.out hB1 (fun k hk=>(HROW1.out.lt k hk).2),rfl⟩
        · have n64:=byte_ne 64 h64 rfl
          have HN:=hid (HGOOD.out (by rw [show (c == 64)=false by simpa using h64];rfl))
          clear h64
          go_wp2_with (at_builtin;refine appD_one (by simp) rfl (.tmp 86) (.tmp 88) rfl w.heap.size _ os ⟨c,pl,cv⟩ rfl HROW1.out rfl hB1 (by omega) ?_;intro v9 w9 hr9 hg9 hv9;have HR9:=hid hr9;have HG9:=hid hg9;clear hr9 hg9 hv9)
          go_roundg t2.length
          case measure=>exact hm2
          case rel=>exact ⟨i2,t2,os++[⟨c,pl,cv⟩],by go_num,HA3.out,HR9.out,by rw [List.length_append];simp only [List.length_cons,List.length_nil];omega,HN.out,(HBL.out.trans ((HWB.out _).mono HBL.out.size)).grown HG9.out hB1 (fun k hk=>(HROW1.out.lt k hk).2),rfl⟩
end Go.Proofs.YtihdndaibmgoiaaGreatDoor.Pz
