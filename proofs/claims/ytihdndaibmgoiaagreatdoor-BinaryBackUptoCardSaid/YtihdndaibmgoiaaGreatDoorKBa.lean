/-
  KBa: a part of the proofs of this seat, merged by a program; remarks are struck.
-/
import Derived.Shelf.LaysM
import Derived.Shelf.Strconv.Itoa3
import Derived.Test.YtihdndaibmgoiaaGreatDoorProg
import Derived.Test.YtihdndaibmgoiaaGreatDoorKBackX
namespace Go.Proofs.YtihdndaibmgoiaaGreatDoor.Pz
open Go.Shelf
def Tryz.laysM171_ren:Go.Shelf.Ren:=⟨fun | 171=>69 | 243=>116 | 246=>147 | 283=>174 | 284=>175 | 285=>176 | 286=>177 | 129=>192 | 317=>191 | 318=>193 | 319=>194 | 320=>195 | 337=>212 | 338=>213 | n=>n,fun | 3=>3 | 9=>9 | 2=>2 | 4=>4 | 171=>180 | 0=>0 | 53=>44 | 37=>46 | 5=>5 | 173=>183 | 212=>195 | 51=>97 | 20=>20 | 213=>196 | 46=>98 | 232=>231 | 233=>232 | n=>n,fun | 17=>4 | 18=>5 | 19=>6 | n=>n⟩
theorem Tryz.laysM171:Go.Proofs.LaysM.n171 Tryz.prog Tryz.laysM171_ren:={
 mixed:=by kernel_rfl
 f129:=Tryz.func192.trans (congrArg some (by kernel_rfl))
 f171:=Tryz.func69.trans (congrArg some (by kernel_rfl))
 f243:=Tryz.func116.trans (congrArg some (by kernel_rfl))
 f246:=Tryz.func147.trans (congrArg some (by kernel_rfl))
 f283:=Tryz.func174.trans (congrArg some (by kernel_rfl))
 f284:=Tryz.func175.trans (congrArg some (by kernel_rfl))
 f285:=Tryz.func176.trans (congrArg some (by kernel_rfl))
 f286:=Tryz.func177.trans (congrArg some (by kernel_rfl))
 f317:=Tryz.func191.trans (congrArg some (by kernel_rfl))
 f318:=Tryz.func193.trans (congrArg some (by kernel_rfl))
 f319:=Tryz.func194.trans (congrArg some (by kernel_rfl))
 f320:=Tryz.func195.trans (congrArg some (by kernel_rfl))
 f337:=Tryz.func212.trans (congrArg some (by kernel_rfl))
 f338:=Tryz.func213.trans (congrArg some (by kernel_rfl))
 t0:=Tryz.underlying0
 a0:=Tryz.isAgg0
 z0:=Tryz.sizeOf0
 v0:=Tryz.zeroValue0
 t2:=Tryz.underlying2
 a2:=Tryz.isAgg2
 z2:=Tryz.sizeOf2
 v2:=Tryz.zeroValue2
 t3:=Tryz.underlying3
 a3:=Tryz.isAgg3
 z3:=Tryz.sizeOf3
 v3:=Tryz.zeroValue3
 t4:=Tryz.underlying4
 a4:=Tryz.isAgg4
 z4:=Tryz.sizeOf4
 v4:=Tryz.zeroValue4
 t5:=Tryz.underlying5
 a5:=Tryz.isAgg5
 z5:=Tryz.sizeOf5
 v5:=Tryz.zeroValue5
 t9:=Tryz.underlying9
 a9:=Tryz.isAgg9
 z9:=Tryz.sizeOf9
 v9:=Tryz.zeroValue9
 t20:=Tryz.underlying20
 a20:=Tryz.isAgg20
 z20:=Tryz.sizeOf20
 v20:=Tryz.zeroValue20
 t37:=Tryz.underlying46
 a37:=Tryz.isAgg46
 z37:=Tryz.sizeOf46
 v37:=Tryz.zeroValue46
 t46:=Tryz.underlying98
 a46:=Tryz.isAgg98
 z46:=Tryz.sizeOf98
 v46:=Tryz.zeroValue98
 t51:=Tryz.underlying97
 a51:=Tryz.isAgg97
 z51:=Tryz.sizeOf97
 v51:=Tryz.zeroValue97
 t53:=Tryz.underlying44
 a53:=Tryz.isAgg44
 z53:=Tryz.sizeOf44
 v53:=Tryz.zeroValue44
 t171:=Tryz.underlying180
 a171:=Tryz.isAgg180
 z171:=Tryz.sizeOf180
 v171:=Tryz.zeroValue180
 t173:=Tryz.underlying183
 a173:=Tryz.isAgg183
 z173:=Tryz.sizeOf183
 v173:=Tryz.zeroValue183
 t212:=Tryz.underlying195
 a212:=Tryz.isAgg195
 z212:=Tryz.sizeOf195
 v212:=Tryz.zeroValue195
 t213:=Tryz.underlying196
 a213:=Tryz.isAgg196
 z213:=Tryz.sizeOf196
 t232:=Tryz.underlying231
 a232:=Tryz.isAgg231
 z232:=Tryz.sizeOf231
 v232:=Tryz.zeroValue231
 t233:=Tryz.underlying232
 a233:=Tryz.isAgg232
 z233:=Tryz.sizeOf232
 v233:=Tryz.zeroValue232
 g17:=by kernel_rfl
 g18:=by kernel_rfl
 g19:=by kernel_rfl
 i0:=by kernel_rfl
 i2:=by kernel_rfl
 i3:=by kernel_rfl
 i4:=by kernel_rfl
 i5:=by kernel_rfl
 i9:=by kernel_rfl
 i20:=by kernel_rfl
 i37:=by kernel_rfl
 i46:=by kernel_rfl
 i51:=by kernel_rfl
 i53:=by kernel_rfl
 i171:=by kernel_rfl
 i173:=by kernel_rfl
 i212:=by kernel_rfl
 i232:=by kernel_rfl
 i233:=by kernel_rfl
 m17:=by kernel_rfl
 m18:=by kernel_rfl
 m19:=by kernel_rfl }
open Go.RowKit Go.Sort Go.Lib in
theorem Tryz.strconv_Itoa (n:Int) (h0:-9223372036854775808≤n) (h1:n≤9223372036854775807) (w:World) (htab:Lib.TabIs Tryz.prog w "internal/strconv.uint64pow10" .u64 Lib.pow10Tab) :
  Calls Tryz.prog 69 #[.int .i64 n] w fun e w'=>e=.returned (.string ⟨(Lib.itoa n).toArray⟩)∧∃ k os,w'=grow (w.drewN k) os:=Any.strconv_Itoa Tryz.laysM171 n h0 h1 w htab
end Go.Proofs.YtihdndaibmgoiaaGreatDoor.Pz
namespace Go.Proofs.YtihdndaibmgoiaaGreatDoor.Pz
open Go.RowKit
attribute [local go_sem] Oper.semAt_some
theorem itoa_byte (c:UInt8):Lib.itoa (c.toNat:Int)=txt (c.toNat:Int):=by
 have h:(List.range 256).all (fun n=>Lib.itoa (n:Int) == txt (n:Int))=true:=by kernel_rfl
 have h2:=List.all_eq_true.1 h c.toNat (List.mem_range.2 c.toNat_lt)
 exact eq_of_beq h2
set_option maxHeartbeats 2000000 in
theorem ofByte_fn (c:UInt8) (w:World) (htab:Tab w):Calls Tryz.prog 18 #[.int .i64 (c.toNat:Nat)] w fun e w'=>e=.returned (.string ⟨(txt (c.toNat:Int)).toArray⟩)∧Below w.heap.size w w':=by
 have hcl:=c.toNat_lt
 have HC:=hid (Tryz.strconv_Itoa (c.toNat:Int) (by omega) (by omega) w htab)
 rw [itoa_byte] at HC
 have HCC:=hid (show Calls Tryz.prog 69 #[.int .i64 (c.toNat:Nat)] w fun e w'=>e=.returned (.string ⟨(txt (c.toNat:Int)).toArray⟩)∧Below w.heap.size w w' from HC.out.mono (by rintro e w1 ⟨rfl,k,os,rfl⟩;exact ⟨rfl,below_grow w k os⟩))
 clear htab HC
 go_enter Tryz.func18,Tryz.ntmps18
 go_wp2_with (go_at_call 69;(with_reducible refine HCC.out.mono ?_);rintro e w1 ⟨rfl,hb1⟩)
 go_ret
 exact ⟨rfl,hb1⟩
theorem t256:txt 256=[50,53,54]:=by kernel_rfl
theorem t0:txt 0=[48]:=by kernel_rfl
theorem t1:txt 1=[49]:=by kernel_rfl
theorem pow256 (n:Nat) (h:n≤8):256 ^ n≤18446744073709551616:=Nat.le_trans (Nat.pow_le_pow_right (by decide) h) (by decide)
theorem times256 (N:Nat) (hN:N*256≤18446744073709551616) (w:World):Calls Tryz.prog 13 #[.string ⟨(txt (N:Int)).toArray⟩,.string ⟨#[50,53,54]⟩] w fun e w'=>e=.returned (.tuple #[.string ⟨(txt ((N*256:Nat):Int)).toArray⟩,.int .i64 0])∧Below w.heap.size w w':=by
 have hN1:(N:Int).natAbs<big600:=big_room _ (by omega)
 have h:=mulR_fn (txt (N:Int)) (txt 256) (Nat.le_trans (txt_len _ hN1) (by decide)) (Nat.le_trans (txt_len _ (big_room _ (by decide))) (by decide)) w
 rw [mul_txt _ _ hN1 (big_room _ (by decide)) (big_room _ (by omega)),t256] at h
 rw [Int.natCast_mul]
 exact h
theorem plus_txt (N M:Nat) (hN:N+M≤18446744073709551616) (w:World):Calls Tryz.prog 160 #[.string ⟨(txt (N:Int)).toArray⟩,.string ⟨(txt (M:Int)).toArray⟩] w fun e w'=>e=.returned (.tuple #[.string ⟨(txt ((N+M:Nat):Int)).toArray⟩,.int .i64 0])∧Below w.heap.size w w':=by
 have hN1:(N:Int).natAbs<big600:=big_room _ (by omega)
 have hM1:(M:Int).natAbs<big600:=big_room _ (by omega)
 have h:=addR_fn (txt (N:Int)) (txt (M:Int)) (Nat.le_trans (txt_len _ hN1) (by decide)) (Nat.le_trans (txt_len _ hM1) (by decide)) w
 rw [add_txt _ _ hN1 hM1 (big_room _ (by omega))] at h
 rw [Int.natCast_add]
 exact h
theorem minus_txt (N M:Nat) (hN:N≤18446744073709551616) (hM:M≤18446744073709551616) (w:World):Calls Tryz.prog 17 #[.string ⟨(txt (N:Int)).toArray⟩,.string ⟨(txt (M:Int)).toArray⟩] w fun e w'=>e=.returned (.tuple #[.string ⟨(txt ((N:Int)-(M:Int))).toArray⟩,.int .i64 0])∧Below w.heap.size w w':=by
 have hN1:(N:Int).natAbs<big600:=big_room _ (by omega)
 have hM1:(M:Int).natAbs<big600:=big_room _ (by omega)
 have h:=subR_fn (txt (N:Int)) (txt (M:Int)) (Nat.le_trans (txt_len _ hN1) (by decide)) (Nat.le_trans (txt_len _ hM1) (by decide)) w
 rw [sub_txt _ _ hN1 hM1 (big_room _ (by omega))] at h
 exact h
set_option maxRecDepth 1000000 in
set_option maxHeartbeats 8000000 in
theorem told_fn (g cap:Nat) (l:Str) (hl1:1≤l.length) (hl8:l.length≤8) (pl:Bool) (w:World) (hg:g<w.heap.size) (hc:∀ j (h:j<l.length),w.cell? ⟨g,j,none⟩=some (.int .u8 (l[j].toNat:Nat))) (htab:Tab w) :
  Calls Tryz.prog 134 #[.slice (some ⟨g,0,none⟩) l.length cap,.bool pl] w fun e w'=>e=.returned (.string ⟨(txt (toldZ pl l)).toArray⟩)∧Below w.heap.size w w':=by
 have HC:=hid hc
 have HT:=hid htab
 have HM:=hid (fun N h u=>times256 N h u)
 have HA:=hid (fun N M h u=>plus_txt N M h u)
 have HO:=hid (fun c u h=>ofByte_fn c u h)
 have HS:=hid (fun N M h1 h2 u=>minus_txt N M h1 h2 u)
 obtain ⟨n,hn⟩:∃ n,n=l.length:=⟨_,rfl⟩
 rw [← hn] at hl1 hl8 ⊢
 have HN:=hid hn
 obtain ⟨R,hR⟩:∃ R,R=txt (toldZ pl l):=⟨_,rfl⟩
 rw [← hR]
 have HR:=hid hR
 clear hc htab hn hR
 go_enter Tryz.func134,Tryz.ntmps134
 go_wp2_with fail
 go_loopg [5,6] n (fun k nv iv wr=>∃ (j N:Nat) (o:Str),j≤n∧N=ofLE (l.drop j)∧o=txt (N:Int)∧nv=.string ⟨o.toArray⟩∧iv=.int .i64 ((j:Int)-1)∧Below w.heap.size w wr∧k=j)
 case atStart=>exact ⟨n,0,[48],Nat.le_refl _,by rw [List.drop_eq_nil_of_le (by rw [← HN.out];exact Nat.le_refl _)];rfl,t0.symm,rfl,by go_num,Below.refl _ _,rfl⟩
 case round=>
  obtain ⟨j,N,o,hj,hNe,hoe,rfl,rfl,hbl,hk⟩:=hrel
  replace hk:=hk.symm
  subst hk
  have HNE:=hid hNe
  have HOE:=hid hoe
  have HBL:=hid hbl
  clear hNe hoe hbl
  cases j with
  | succ m=>
   have hmI:((m+1:Nat):Int)-1=(m:Int):=by omega
   rw [hmI]
   have hml:m<l.length:=by rw [← HN.out];omega
   have hm0:(0:Int)≤(m:Int):=by omega
   have hmn:(m:Int)<(n:Int):=by omega
   obtain ⟨x,hx⟩:∃ x,x=l[m]:=⟨_,rfl⟩
   have hcx:wr.cell? ⟨g,m,none⟩=some (.int .u8 (x.toNat:Nat)):=by rw [hx,HBL.out.cell (p:=⟨g,m,none⟩) hg];exact HC.out m hml
   have hcx2:wr.cell? ((⟨g,0,none⟩:Addr).add m)=some (.int .u8 (x.toNat:Nat)):=by rw [add_none,Nat.zero_add];exact hcx
   have hxl:=x.toNat_lt
   have hwx:IntKind.i64.wrap (x.toNat:Int)=(x.toNat:Int):=IntWalk.i64_in _ (by omega)
   have hdr:l.drop m=x::l.drop (m+1):=by rw [hx];exact List.drop_eq_getElem_cons hml
   have HNX:=hid (show N*256+x.toNat=ofLE (l.drop m) by
    rw [hdr,HNE.out]
    show _=x.toNat+256*ofLE (l.drop (m+1))
    omega)
   have hlt:=ofLE_lt (l.drop m)
   rw [← HNX.out,List.length_drop] at hlt
   have hp:=pow256 (l.length-m) (by rw [← HN.out];omega)
   have HMM:=hid (HM.out N (by omega))
   have HAA:=hid (HA.out (N*256) x.toNat (by omega))
   rw [← HOE.out] at HMM
   have HOO:=hid (fun u h=>HO.out x u h)
   obtain ⟨q1,hq1⟩:∃ q1,q1=txt ((N*256:Nat):Int):=⟨_,rfl⟩
   obtain ⟨q2,hq2⟩:∃ q2,q2=txt (x.toNat:Int):=⟨_,rfl⟩
   obtain ⟨q3,hq3⟩:∃ q3,q3=txt ((N*256+x.toNat:Nat):Int):=⟨_,rfl⟩
   rw [← hq1] at HMM HAA
   rw [← hq2] at HAA HOO
   rw [← hq3] at HAA
   have HQ3:=hid hq3
   clear hx hdr hlt hp hq1 hq2 hq3 hmI
   go_wp2_with (first|(go_at_call 13;(with_reducible refine (HMM.out _).mono ?_);rintro e w2 ⟨rfl,hb2⟩;have hcy:=(hb2.cell (p:=⟨g,m,none⟩) (by have:=HBL.out.size;show g<wr.heap.size;omega)).trans hcx;have hcy2:w2.cell? ((⟨g,0,none⟩:Addr).add m)=some (.int .u8 (x.toNat:Nat)):=(by rw [add_none,Nat.zero_add];exact hcy);have HB2:=hid (HBL.out.trans (hb2.mono HBL.out.size));clear hb2)|(go_at_call 18;(with_reducible refine (HOO.out _ (HT.out.below HB2.out)).mono ?_);rintro e w3 ⟨rfl,hb3⟩;have HB3:=hid (HB2.out.trans (hb3.mono HB2.out.size));clear hb3)|(go_at_call 160;(with_reducible refine (HAA.out _).mono ?_);rintro e w4 ⟨rfl,hb4⟩;have HB4:=hid (HB3.out.trans (hb4.mono HB3.out.size));clear hb4))
   go_roundg m
   case measure=>omega
   case rel=>exact ⟨m,N*256+x.toNat,q3,by omega,HNX.out,HQ3.out,rfl,by go_num,HB4.out,rfl⟩
  | zero=>
   have hneg:¬ ((0:Int)≤((0:Nat):Int)-1):=by decide
   have HN0:=hid (show N=ofLE l by rw [HNE.out,List.drop_zero])
   obtain ⟨p,x,hpx⟩:∃ p x,l=p++[x]:=by
    rcases List.eq_nil_or_concat l with h | ⟨p,x,h⟩
    ·rw [h] at HN;have:=HN.out;simp at this;omega
    ·exact ⟨p,x,by rw [h,List.concat_eq_append]⟩
   have hpl:p.length+1=n:=by rw [HN.out,hpx,List.length_append];rfl
   have htop:=ofLE_top p x
   rw [← hpx,← HN0.out,← HN.out] at htop
   have hcx:wr.cell? ⟨g,p.length,none⟩=some (.int .u8 (x.toNat:Nat)):=by
    have h1:=HC.out p.length (by rw [hpx,List.length_append];simp only [List.length_cons,List.length_nil];omega)
    rw [HBL.out.cell (p:=⟨g,p.length,none⟩) hg,h1]
    have h2:l[p.length]'(by rw [hpx,List.length_append];simp only [List.length_cons,List.length_nil];omega)=x:=by
     subst hpx
     simp
    rw [h2]
   obtain ⟨m,hm⟩:∃ m,m=p.length:=⟨_,rfl⟩
   rw [← hm] at hcx
   have hcx2:wr.cell? ((⟨g,0,none⟩:Addr).add m)=some (.int .u8 (x.toNat:Nat)):=by rw [add_none,Nat.zero_add];exact hcx
   have hmI:(n:Int)-1=(m:Int):=by omega
   have hm0:(0:Int)≤(m:Int):=by omega
   have hmn:(m:Int)<(n:Int):=by omega
   have hxl:=x.toNat_lt
   have hNl:N≤18446744073709551616:=by
    have h1:=ofLE_lt l
    rw [← HN0.out,← HN.out] at h1
    exact Nat.le_trans (Nat.le_of_lt h1) (pow256 n hl8)
   have HTOP:=hid htop
   clear htop hpx hpl hm
   cases pl with
   | true=>
    have HRR:=hid (show R=o by rw [HR.out,HOE.out,HN0.out];rfl)
    go_wp2
    go_ret
    exact ⟨by rw [HRR.out];rfl,HBL.out⟩
   | false=>
    by_cases h128:128≤x.toNat
    ·have h128I:(128:Int)≤(x.toNat:Int):=by omega
     have HRR:=hid (show R=txt ((N:Int)-((256 ^ n:Nat):Int)) by
      rw [HR.out]
      unfold toldZ signedE
      rw [if_neg (by decide),← HN0.out,← HN.out,if_pos (by rw [HTOP.out];exact h128),Nat.pow_mul])
     clear h128
     go_wp2_with fail
     go_loopg [7,44] n (fun k lv iv wx=>∃ (j M:Nat) (q:Str),j≤n∧M=256 ^ j∧q=txt (M:Int)∧lv=.string ⟨q.toArray⟩∧iv=.int .i64 (j:Nat)∧Below w.heap.size w wx∧k=n-j)
     case atStart=>exact ⟨0,1,[49],Nat.zero_le _,rfl,t1.symm,rfl,rfl,HBL.out,rfl⟩
     case round=>
      obtain ⟨j,M,q,hj2,hMe,hqe,rfl,rfl,hbx,hk⟩:=hrel
      replace hk:=hk.symm
      subst hk
      have HME:=hid hMe
      have HQE:=hid hqe
      have HBX:=hid hbx
      clear hMe hqe hbx
      rcases Nat.lt_or_ge j n with hlt | hge
      ·have hltI:(j:Int)<(n:Int):=by omega
       have HPW:=hid (show M*256=256 ^ (j+1) by rw [HME.out,Nat.pow_succ])
       have HMM:=hid (HM.out M (by rw [HPW.out];exact pow256 (j+1) (by omega)))
       rw [← HQE.out] at HMM
       obtain ⟨q1,hq1⟩:∃ q1,q1=txt ((M*256:Nat):Int):=⟨_,rfl⟩
       rw [← hq1] at HMM
       have HQ1:=hid hq1
       clear hq1
       go_wp2_with (go_at_call 13;(with_reducible refine (HMM.out _).mono ?_);rintro e w2 ⟨rfl,hb2⟩;have HB2:=hid (HBX.out.trans (hb2.mono HBX.out.size));clear hb2)
       go_roundg (n-(j+1))
       case measure=>omega
       case rel=>exact ⟨j+1,M*256,q1,hlt,HPW.out,HQ1.out,rfl,by go_num,HB2.out,rfl⟩
      ·have hjn:j=n:=by omega
       have hnl:¬ ((j:Int)<(n:Int)):=by omega
       have hM9:M≤18446744073709551616:=by rw [HME.out,hjn];exact pow256 n hl8
       have HSS:=hid (HS.out N M hNl hM9)
       rw [← HOE.out,← HQE.out] at HSS
       have HRM:=hid (show R=txt ((N:Int)-(M:Int)) by rw [HRR.out,HME.out,hjn])
       rw [← HRM.out] at HSS
       clear hjn hM9 hge
       go_wp2_with (go_at_call 17;(with_reducible refine (HSS.out _).mono ?_);rintro e w2 ⟨rfl,hb2⟩;have HB2:=hid (HBX.out.trans (hb2.mono HBX.out.size));clear hb2)
       go_ret
       exact ⟨rfl,HB2.out⟩
    ·have h128I:¬ ((128:Int)≤(x.toNat:Int)):=by omega
     have HRR:=hid (show R=o by
      rw [HR.out,HOE.out]
      unfold toldZ signedE
      rw [if_neg (by decide),← HN0.out,← HN.out,if_neg (by rw [HTOP.out];exact h128)])
     clear h128
     go_wp2
     go_ret
     exact ⟨by rw [HRR.out];rfl,HBL.out⟩
end Go.Proofs.YtihdndaibmgoiaaGreatDoor.Pz
namespace Go.Proofs.YtihdndaibmgoiaaGreatDoor.Pz
open Go.RowKit
theorem nib_or:∀ a,a<16→∀ b,b<16→((0:UInt8) ||| UInt8.ofNat (a <<< 4 % 256)) ||| UInt8.ofNat (b <<< 0 % 256)=UInt8.ofNat (a*16+b):=by decide
theorem set_mid (pre:Str) (x y:UInt8) (post:Str):(pre++x::post).set pre.length y=pre++y::post:=by
 rw [List.set_append_right _ _ (Nat.le_refl _),Nat.sub_self]
 rfl
theorem get_mid (pre:Str) (x:UInt8) (post:Str):(pre++x::post).getD pre.length 0=x:=by
 rw [List.getD_eq_getElem?_getD,List.getElem?_append_right (Nat.le_refl _),Nat.sub_self]
 rfl
theorem dig_unhex (N:Nat):∀ (m:Nat) (l pre:Str),l.length=2*m→2*pre.length+l.length≤N→digE 72 N (2*pre.length) l (pre++List.replicate m 0)=(unhexE l).map (pre ++ ·)
 | 0,l,pre,hl,_=>by
  obtain rfl:l=[]:=List.eq_nil_of_length_eq_zero hl
  show some (pre++[])=some (pre++[])
  rfl
 | m+1,[],pre,hl,_=>absurd hl (by simp)
 | m+1,[_],pre,hl,_=>absurd hl (by simp only [List.length_cons,List.length_nil];omega)
 | m+1,a::b::t,pre,hl,hN=>by
  have ht:t.length=2*m:=by simp only [List.length_cons] at hl;omega
  have hN2:2*pre.length+t.length+2≤N:=by simp only [List.length_cons] at hN;omega
  rw [unhexE,digE]
  by_cases ha:16≤valH a
  ·rw [if_pos (show 2 ^ bitsL 72≤valH a from ha),if_pos (Or.inl (by omega))]
   rfl
  ·rw [if_neg (show ¬ 2 ^ bitsL 72≤valH a from ha),if_pos (by omega)]
   have e1:2*pre.length*bitsL 72 / 8=pre.length:=by show 2*pre.length*4 / 8=_;omega
   have e2:shiftL 72 (2*pre.length) (bitsL 72)=4:=by show 4*(1-2*pre.length % 2)=4;omega
   rw [e1,e2,List.replicate_succ,get_mid,set_mid,digE]
   by_cases hb:16≤valH b
   ·rw [if_pos (show 2 ^ bitsL 72≤valH b from hb),if_pos (Or.inr (by omega))]
    rfl
   ·rw [if_neg (show ¬ 2 ^ bitsL 72≤valH b from hb),if_pos (by omega),if_neg (by omega)]
    have e3:(2*pre.length+1)*bitsL 72 / 8=pre.length:=by show (2*pre.length+1)*4 / 8=_;omega
    have e4:shiftL 72 (2*pre.length+1) (bitsL 72)=0:=by show 4*(1-(2*pre.length+1) % 2)=0;omega
    rw [e3,e4,get_mid,set_mid,nib_or _ (by omega) _ (by omega)]
    obtain ⟨c,hc⟩:∃ c,c=UInt8.ofNat (valH a*16+valH b):=⟨_,rfl⟩
    rw [← hc]
    have ih:=dig_unhex N m t (pre++[c]) ht (by rw [List.length_append];simp only [List.length_cons,List.length_nil];omega)
    rw [List.length_append,show 2*(pre.length + [c].length)=2*pre.length+1+1 from rfl,List.append_assoc] at ih
    rw [show c::List.replicate m 0=[c]++List.replicate m 0 from rfl,ih]
    cases unhexE t with
    | none=>rfl
    | some r=>simp
theorem dig_hex (s:Str) (h:s.length % 2=0):digE 72 s.length 0 s (List.replicate ((s.length+1) / 2) 0)=unhexE s:=by
 have h1:=dig_unhex s.length (s.length / 2) s [] (by omega) (by simp)
 rw [show (s.length+1) / 2=s.length / 2 by omega]
 refine h1.trans ?_
 cases unhexE s<;>rfl
end Go.Proofs.YtihdndaibmgoiaaGreatDoor.Pz
namespace Go.Proofs.YtihdndaibmgoiaaGreatDoor.Pz
theorem white_isWh (c:UInt8):white c=isWh c:=by
 have h:(List.range 256).all (fun n=>white (UInt8.ofNat n) == isWh (UInt8.ofNat n))=true:=by kernel_rfl
 have h2:=List.all_eq_true.1 h c.toNat (List.mem_range.2 c.toNat_lt)
 rw [UInt8.ofNat_toNat] at h2
 exact beq_iff_eq.1 h2
theorem pre_dark {u p:Str} (hp:p.isPrefixOf u=true) (hpd:∀ c∈p,isWh c=false) (h:∀ c∈u.drop p.length,isWh c=false):∀ c∈u,isWh c=false:=by
 obtain ⟨r,rfl⟩:=List.isPrefixOf_iff_prefix.1 hp
 rw [List.drop_left] at h
 intro c hc
 rcases List.mem_append.1 hc with h1 | h1
 ·exact hpd c h1
 ·exact h c h1
theorem pBase_le (s:Str):pBase s≤36:=by
 unfold pBase
 split<;>(try split)<;>(try split)<;>omega
theorem strip_dark {l:Str} (h:pOK l=true):∀ c∈strip l,isWh c=false:=by
 unfold pOK rOK at h
 rw [Bool.and_eq_true] at h
 have hb:∀ c∈pBody (pRest (strip l)),isWh c=false:=fun c hc=>wh_digit c (by
  have h2:=List.all_eq_true.1 h.2 c hc
  have h3:=pBase_le (pRest (strip l))
  have:=of_decide_eq_true h2
  omega)
 clear h
 generalize strip l=t at *
 have h1:∀ c∈pRest t,isWh c=false:=by
  unfold pBody at hb
  split at hb
  ·rename_i hp
   rw [Bool.or_eq_true,Bool.or_eq_true] at hp
   rcases hp with (hp | hp) | hp
   ·exact pre_dark hp (by decide) hb
   ·exact pre_dark hp (by decide) hb
   ·exact pre_dark hp (by decide) hb
  ·exact hb
 unfold pRest at h1
 split at h1
 ·rename_i hp
  rw [Bool.or_eq_true] at hp
  rw [← List.drop_one] at h1
  rcases hp with hp | hp
  ·exact pre_dark hp (by decide) h1
  ·exact pre_dark hp (by decide) h1
 ·exact h1
theorem strip_strip {l:Str} (h:pOK l=true):strip (strip l)=strip l:=strip_none _ (strip_dark h)
theorem strip_val {l:Str} (h:pOK l=true):pOK (strip l)=true∧pVal (strip l)=pVal l:=by
 constructor
 ·unfold pOK at h ⊢
  rw [strip_strip (by unfold pOK;exact h)]
  exact h
 ·unfold pVal
  rw [strip_strip h]
theorem strip_word {l:Str} (h:pOK l=true):strip l≠[]∧∀ c∈strip l,white c=false:=by
 refine ⟨fun e=>?_,fun c hc=>by rw [white_isWh];exact strip_dark h c hc⟩
 unfold pOK at h
 rw [e] at h
 exact absurd h (by decide)
theorem words_join:∀ l:List Str,(∀ w∈l,w≠[]∧∀ c∈w,white c=false)→wordsE (joinB l)=l
 | [],_=>rfl
 | [x],h=>by
  have hx:=h x (by simp)
  have e:=words_run x [] [] hx.2
  rw [List.append_nil,List.nil_append] at e
  show wordsGo [] x=[x]
  rw [e,words_end x [] hx.1 (.inl rfl)]
  rfl
 | x::y::l,h=>by
  have hx:=h x (by simp)
  have ih:=words_join (y::l) fun w hw=>h w (by simp [List.mem_cons.1 hw])
  have e:=words_run x [] (32::joinB (y::l)) hx.2
  rw [List.nil_append] at e
  show wordsGo [] (x++32::joinB (y::l))=_
  rw [e,words_end x _ hx.1 (.inr ⟨32,_,rfl,by decide⟩),wordsGo_cons,if_pos (by decide),if_pos rfl]
  exact congrArg (x :: ·) ih
def digOk (n:Nat):Bool:=(txt (n:Int)).all isNum && !(txt (n:Int)).isEmpty && decide ((txt (n:Int)).length≤4) && decide (decV 0 (txt (n:Int))=n) && ((txt (n:Int)).headD 0 != 48 || decide ((txt (n:Int)).length=1))
theorem dig_all:(List.range 1501).all digOk=true:=by kernel_rfl
theorem dig_txt {n:Nat} (h:n≤1500):(∀ c∈txt (n:Int),isNum c=true)∧txt (n:Int)≠[]∧(txt (n:Int)).length≤4∧decV 0 (txt (n:Int))=n∧((txt (n:Int)).headD 0≠48∨(txt (n:Int)).length=1):=by
 have h2:=List.all_eq_true.1 dig_all n (List.mem_range.2 (by omega))
 unfold digOk at h2
 simp only [Bool.and_eq_true,Bool.or_eq_true,decide_eq_true_eq,bne_iff_ne,List.all_eq_true,Bool.not_eq_true',List.isEmpty_eq_false_iff] at h2
 exact ⟨h2.1.1.1.1,h2.1.1.1.2,h2.1.1.2,h2.1.2,h2.2⟩
theorem dgs_app {l r:Str} (h:∀ c∈l,isNum c=true) (hr:dgs r=[]):dgs (l++r)=l:=by
 unfold dgs at *
 rw [List.takeWhile_append_of_pos h,hr,List.append_nil]
theorem cnt_txt {n:Nat} (h:n≤1500) {r:Str} (hr:dgs r=[]):cntE (txt (n:Int)++r)=((n:Int),true,r):=by
 obtain ⟨h1,h2,h3,h4,h5⟩:=dig_txt h
 have hd:=dgs_app h1 hr
 have hc:=cnt_some (l:=txt (n:Int)++r) (by rw [hd];exact h2)
 rw [hc.2 (by
  unfold numOk
  rw [hd]
  have e:(txt (n:Int)++r).headD 0=(txt (n:Int)).headD 0:=by
   cases hh:txt (n:Int) with
   | nil=>exact absurd hh h2
   | cons a b=>rfl
  rw [e]
  simp only [Bool.or_eq_true,Bool.and_eq_true,decide_eq_true_eq,bne_iff_ne]
  exact .inr ⟨h3,h5⟩),hd,List.take_of_length_le h3,h4,List.drop_left]
theorem u_txt (c:UInt8) {n:Nat} (h:n≤1500) (r:Str):uE c (txt (n:Int)++r)=(false,txt (n:Int)++r):=by
 obtain ⟨h1,h2,-⟩:=dig_txt h
 cases hh:txt (n:Int) with
 | nil=>exact absurd hh h2
 | cons a b=>
  rw [hh] at h1
  have ha:=h1 a (by simp)
  rw [List.cons_append,uE]
  have:(a == 117)=false:=by
   rw [beq_eq_false_iff_ne]
   rintro rfl
   exact absurd ha (by decide)
  rw [this,Bool.and_false,if_neg (by simp)]
theorem fld_txt {c:UInt8} (hk:knownL c=true) {n:Nat} (h:n≤1500) {r:Str} (hr:dgs r=[]):fldE c (txt (n:Int)++r)=(⟨c,false,n⟩,true,r):=by
 unfold fldE
 rw [u_txt c h r]
 dsimp only
 rw [cnt_txt h hr]
 dsimp only
 rw [hk,decide_eq_false (by omega:¬ (n:Int) = -1)]
 simp
def backL (c:UInt8) (n m:Nat):Str:=c::(txt (n:Int)++32::72::(txt (m:Int)++[32,97,42]))
theorem back_fields {c:UInt8} (hk:knownL c=true) (h32:c≠32) {n m:Nat} (hn:n≤1500) (hm:m≤1500):fldsE (backL c n m)=[⟨c,false,n⟩,⟨72,false,m⟩,⟨97,false,-2⟩]:=by
 have e1:=fld_txt hk hn (r:=32::72::(txt (m:Int)++[32,97,42])) (dgs_stop (by decide))
 have e2:=fld_txt (c:=72) (by decide) hm (r:=[32,97,42]) (dgs_stop (by decide))
 unfold backL
 rw [fldsE_good h32 (by rw [e1]),e1]
 dsimp only
 rw [fldsE_blank rfl,fldsE_good (by decide) (by rw [e2]),e2]
 dsimp only
 rw [show fldsE [32,97,42]=[⟨97,false,-2⟩] from rfl]
theorem putE_end (b y:Str):putE b b.length y=b++y:=by
 show ((b++List.replicate (b.length-b.length) 0).take b.length++y)++(b++List.replicate (b.length-b.length) 0).drop (b.length+y.length)=_
 rw [Nat.sub_self,List.replicate_zero,List.append_nil,List.take_length,List.drop_of_length_le (by omega),List.append_nil]
theorem hex_back:∀ (m:Nat) (s:Str),s.length=2*m→(∀ c∈s,c.toNat<65∨97≤c.toNat)→(∀ c∈s,valH c<16)→∃ X,unhexE s=some X∧hexE X=s∧X.length=m
 | 0,s,hs,_,_=>by
  obtain rfl:s=[]:=List.eq_nil_of_length_eq_zero (by omega)
  exact ⟨[],rfl,rfl,rfl⟩
 | m+1,[],hs,_,_=>absurd hs (by simp)
 | m+1,[a],hs,_,_=>absurd hs (by simp;omega)
 | m+1,a::b::t,hs,hl,hv=>by
  obtain ⟨X,h1,h2,h3⟩:=hex_back m t (by simp only [List.length_cons] at hs;omega) (fun c hc=>hl c (by simp [hc])) (fun c hc=>hv c (by simp [hc]))
  have ha:=hv a (by simp)
  have hb:=hv b (by simp)
  have dh:∀ c:UInt8,(c.toNat<65∨97≤c.toNat)→valH c<16→hexD (valH c)=c:=by
   have hall:(List.range 256).all (fun n=>(decide (65≤n) && decide (n<97)) || !decide (valH (UInt8.ofNat n)<16) || hexD (valH (UInt8.ofNat n)) == UInt8.ofNat n)=true:=by kernel_rfl
   intro c h1 h2
   have h:=List.all_eq_true.1 hall c.toNat (List.mem_range.2 c.toNat_lt)
   rw [UInt8.ofNat_toNat] at h
   simp only [Bool.or_eq_true,Bool.and_eq_true,decide_eq_true_eq,Bool.not_eq_true',decide_eq_false_iff_not,beq_iff_eq] at h
   rcases h with (h | h) | h
   ·omega
   ·exact absurd h2 h
   ·exact h
  refine ⟨UInt8.ofNat (valH a*16+valH b)::X,by rw [unhexE,if_neg (by omega),h1];rfl,?_,by rw [List.length_cons,h3]⟩
  have e:(UInt8.ofNat (valH a*16+valH b)).toNat=valH a*16+valH b:=by
   show (valH a*16+valH b) % 256=_
   omega
  rw [hexE,e,show (valH a*16+valH b) / 16=valH a by omega,show (valH a*16+valH b) % 16=valH b by omega,dh a (hl a (by simp)) ha,dh b (hl b (by simp)) hb,h2]
theorem ofLE_low:∀ (k:Nat) (z:Int),ofLE (lowE k z)=(z % ((256 ^ k:Nat):Int)).toNat
 | 0,z=>by show 0=(z % 1).toNat;omega
 | k+1,z=>by
  have hs:=low_step z (256 ^ k) (Nat.pow_pos (by decide))
  have ih:=ofLE_low k (z / 256)
  rw [lowE,ofLE,ih,Nat.pow_succ,← hs.2]
  have e:(UInt8.ofNat (z % 256).toNat).toNat=(z % 256).toNat:=by
   show (z % 256).toNat % 256=_
   omega
  rw [e,← hs.1]
  omega
def wantZ (k:Nat) (z:Int):Int:=if ((2 ^ (8*k-1):Nat):Int)≤z % ((2 ^ (8*k):Nat):Int) then z % ((2 ^ (8*k):Nat):Int)-((2 ^ (8*k):Nat):Int) else z % ((2 ^ (8*k):Nat):Int)
theorem ord_ord (h:Bool) (l:Str):ordE h (ordE h l)=l:=by
 unfold ordE
 cases h<;>simp
theorem number_back (c:UInt8) (w:Str):numberE c false (encW c w)=txt (wantZ (widthL c) (pVal w)):=by
 have hz:(if false=true then (ofLE (ordE (highL c) (encW c w)):Int) else signedE (encW c w).length (ofLE (ordE (highL c) (encW c w))))=wantZ (widthL c) (pVal w):=by
  rw [if_neg (by simp),encW_len]
  unfold encW
  rw [ord_ord,ofLE_low]
  unfold signedE wantZ
  have e:(256:Nat) ^ widthL c=2 ^ (8*widthL c):=by rw [Nat.pow_mul]
  rw [e]
  have h1:0≤pVal w % ((2 ^ (8*widthL c):Nat):Int):=Int.emod_nonneg _ (by have:=Nat.two_pow_pos (8*widthL c);omega)
  generalize pVal w % ((2 ^ (8*widthL c):Nat):Int)=r at *
  generalize (2:Nat) ^ (8*widthL c-1)=H
  generalize (2:Nat) ^ (8*widthL c)=M
  by_cases h2:H≤r.toNat
  ·rw [if_pos h2,if_pos (by omega)];omega
  ·rw [if_neg h2,if_neg (by omega)];omega
 unfold numberE
 dsimp only
 rw [hz]
 rfl
theorem chunks_encs (c:UInt8):∀ (ws:List Str),chunksE (widthL c) ws.length (encs c ws)=ws.map (encW c)
 | []=>rfl
 | w::t=>by
  show (encW c w++encs c t).take (widthL c)::chunksE (widthL c) t.length ((encW c w++encs c t).drop (widthL c))=_
  rw [List.take_left' (encW_len c w),List.drop_left' (encW_len c w),chunks_encs c t]
  rfl
theorem back_all {c:UInt8} (hw:1≤widthL c) {n m:Nat} (hn1:1≤n) (hn:n≤60) (hm:m≤1500) {J hex s:Str} {ws:List Str} (hJ:wordsE J=ws) (hl:ws.length=n) (hbad:badsE ws=0) (hhex:hex.length=m) (heven:m % 2=0)
    (hlow:∀ c∈hex,c.toNat<65∨97≤c.toNat) (hdig:∀ c∈hex,valH c<16) (hs:s.length≤1500) :
    ∃ b:Str,b.length≤10000∧packRes (backL c n m) [J,hex,s]=(b,0)∧unpackRes (backL c n m) b=([joinB (ws.map fun w=>txt (wantZ (widthL c) (pVal w))),hex,s],true,0):=by
  obtain ⟨X,hX,hXh,hXl⟩:=hex_back (m / 2) hex (by omega) hlow hdig
  have hne:c≠64∧c≠120∧c≠97∧c≠65∧c≠32:=by refine ⟨?_,?_,?_,?_,?_⟩<;>(rintro rfl;exact absurd hw (by decide))
  obtain ⟨n64,n120,n97,n65,n32⟩:=hne
  have htx:textL c=false:=by
    have h:∀ k:UInt8,widthL k=0→(c == k)=false:=fun k hk=>by
      rw [beq_eq_false_iff_ne];rintro rfl;omega
    unfold textL
    rw [h 97 rfl,h 65 rfl,h 104 rfl,h 72 rfl,h 98 rfl,h 66 rfl]
    rfl
  have hk:knownL c=true:=by
    unfold knownL
    rw [decide_eq_true (show 0<widthL c by omega)]
    simp
  have hF:=back_fields hk n32 (n:=n) (m:=m) (by omega) hm
  have hw8:=widthL_le c
  have e64:(c == 64)=false:=beq_eq_false_iff_ne.2 n64
  have e120:(c == 120)=false:=beq_eq_false_iff_ne.2 n120
  have e97:(c == 97)=false:=beq_eq_false_iff_ne.2 n97
  have e65:(c == 65)=false:=beq_eq_false_iff_ne.2 n65
  have c0:(c != 0)=true:=by rw [bne_iff_ne];rintro rfl;exact absurd hw (by decide)
  have n1:¬ ((n:Int) = -1):=by omega
  have n2:¬ ((n:Int) = -2):=by omega
  have n0:¬ ((n:Int)<0):=by omega
  have m2:¬ ((m:Int) = -2):=by omega
  have m0:¬ ((m:Int)<0):=by omega
  obtain ⟨E,hE⟩:∃ E,E=encs c ws:=⟨_,rfl⟩
  have hEl:E.length=widthL c*n:=by rw [hE,encs_len,hl]
  have hE8:E.length≤480:=by
    rw [hEl]
    exact Nat.le_trans (Nat.mul_le_mul hw8 hn) (by decide)
  have p1:packOne ⟨c,false,n⟩ J=.inr E:=by
    unfold packOne
    rw [htx,if_neg (by simp),numberedE_eq]
    dsimp only
    rw [if_neg n1,hJ,hl,if_neg (show ¬ ((n:Int)≠-2∧((n:Nat):Int)<(n:Int)) from fun h=>by omega),if_pos hbad,if_neg n2,Int.toNat_natCast,List.take_of_length_le (by omega),← hE]
  have p2:packOne ⟨72,false,m⟩ hex=.inr X:=by
    have ht:textedE ⟨72,false,m⟩ hex=some X:=by
      have hc:cntT ⟨72,false,(m:Int)⟩ hex=hex.length:=by
        unfold cntT
        dsimp only
        rw [if_neg m2]
        unfold oneC
        dsimp only
        rw [if_neg m0,hhex]
        exact Int.toNat_natCast m
      unfold textedE
      dsimp only
      rw [if_neg (show ¬ (((72:UInt8) == 97 || (72:UInt8) == 65)=true) by decide),hc]
      show digE 72 hex.length 0 hex (List.replicate ((hex.length+1) / 2) 0)=_
      rw [dig_hex hex (by omega),hX]
    unfold packOne
    rw [if_pos (show textL 72=true from rfl),ht]
  have p3:packOne ⟨97,false,-2⟩ s=.inr s:=by
    unfold packOne textedE cntT
    rw [if_pos (by decide),if_pos (by decide),if_pos rfl,List.take_length,Nat.sub_self,List.replicate_zero,List.append_nil]
  have hpk:packingE (backL c n m)=true:=by
    unfold packingE
    rw [hF]
    simp [c0]
  have hvl:=packing_valid hpk
  refine ⟨(E++X)++s,by rw [List.length_append,List.length_append];omega,?_,?_⟩
  · have g : packGo (fldsE (backL c n m)) [J, hex, s] [] 0 = .inr ((E ++ X) ++ s) := by
      rw [hF,packGo_cons]
      dsimp only
      rw [e64,e120,if_neg (by simp),if_neg (by simp),p1]
      dsimp only
      rw [show putE [] 0 E=E by have:=putE_end [] E;simpa using this,if_neg (by omega),packGo_cons]
      dsimp only
      rw [if_neg (by decide),if_neg (by decide),p2]
      dsimp only
      rw [Nat.zero_add,putE_end,if_neg (by rw [List.length_append];omega),packGo_cons]
      dsimp only
      rw [if_neg (by decide),if_neg (by decide),p3]
      dsimp only
      rw [← List.length_append,putE_end,if_neg (by rw [List.length_append,List.length_append];omega),packGo]
    unfold packRes
    rw [if_pos hpk,g]
  · have u1 : toldE ⟨c, false, n⟩ n E = joinB (ws.map fun w => txt (wantZ (widthL c) (pVal w))) := by
      unfold toldE
      dsimp only
      rw [e97,e120,e65,htx,if_neg (by simp),if_neg (by simp),if_neg (by simp),hE,← hl,chunks_encs,List.map_map]
      congr 1
      exact List.map_congr_left fun w _=>number_back c w
    have u2:toldE ⟨72,false,m⟩ m X=hex:=by
      unfold toldE
      dsimp only
      rw [if_neg (show ¬ (((72:UInt8) == 97 || (72:UInt8) == 120)=true) by decide),if_neg (show ¬ (((72:UInt8) == 65)=true) by decide),if_pos (show textL 72=true from rfl)]
      show tellE 72 X m=hex
      rw [← hXh,show m=2*X.length by omega]
      exact tell_hex X
    have q1:cntU ⟨c,false,n⟩ (((E++X)++s).length-0)=n:=by
      unfold cntU
      dsimp only
      rw [if_neg n2]
      unfold oneC
      dsimp only
      rw [if_neg n0]
      exact Int.toNat_natCast n
    have q2:∀ k,cntU ⟨72,false,m⟩ k=m:=fun k=>by
      unfold cntU
      dsimp only
      rw [if_neg m2]
      unfold oneC
      dsimp only
      rw [if_neg m0]
      exact Int.toNat_natCast m
    have q3:∀ k,cntU ⟨97,false,-2⟩ k=k:=fun k=>by
      show k / max 1 0=k
      rw [show max 1 0=1 from rfl,Nat.div_one]
    have l3:∀ k,lenL 97 k=k:=fun k=>by
      show max 1 0*k=k
      rw [show max 1 0=1 from rfl,Nat.one_mul]
    have l2:lenL 72 m=X.length:=by
      show (m+1) / 2=_
      omega
    have hlen:((E++X)++s).length=E.length+X.length+s.length:=by rw [List.length_append,List.length_append]
    have g:unpackGo (fldsE (backL c n m)) ((E++X)++s) 0 []=([joinB (ws.map fun w=>txt (wantZ (widthL c) (pVal w))),hex,s],true):=by
      rw [hF,unpackGo]
      dsimp only
      rw [e64,if_neg (by simp),q1,lenL_num hw,← hEl,if_neg (by omega),show takesL c=true by unfold takesL;rw [bne,bne,e120,e64];rfl,if_pos rfl,List.drop_zero,List.append_assoc,List.take_left,u1,unpackGo]
      dsimp only
      rw [if_neg (by decide),q2,l2,Nat.zero_add,if_neg (by rw [← List.append_assoc,hlen];omega),if_pos (by decide),List.drop_left,List.take_left,u2,unpackGo]
      dsimp only
      rw [if_neg (by decide),q3,l3,if_neg (by omega),if_pos (by decide),← List.append_assoc,← List.length_append,List.drop_left,hlen,List.length_append,show E.length+X.length+s.length-(E.length+X.length)=s.length by omega,List.take_length,unpackGo]
      rfl
    unfold unpackRes
    rw [if_pos hvl,g]
end Go.Proofs.YtihdndaibmgoiaaGreatDoor.Pz
