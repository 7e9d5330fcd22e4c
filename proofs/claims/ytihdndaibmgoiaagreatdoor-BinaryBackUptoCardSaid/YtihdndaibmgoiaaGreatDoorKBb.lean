/-
  KBb: a part of the proofs of this seat, merged by a program; remarks are struck.
-/
import Derived.Test.YtihdndaibmgoiaaGreatDoorKBa
namespace Go.Proofs.YtihdndaibmgoiaaGreatDoor.Pz
open Go.RowKit
attribute [local go_sem] Oper.semAt_some
theorem can_cases (s:Str):(canRes s=([],2)∧badW s=11)∨(canRes s=([],4)∧badW s=4)∨(canRes s=(txt (pVal s),0)∧badW s=0∧(pVal s).natAbs<big600):=by
 rw [canRes_eq]
 unfold badW v64
 by_cases h:pOK s=true
 ·rw [if_pos h,if_pos h]
  by_cases hb:big600≤(pVal s).natAbs
  ·rw [if_pos hb,resOf_big _ hb]
   exact .inr (.inl ⟨rfl,rfl⟩)
  ·rw [if_neg hb,resOf_small _ (by omega)]
   exact .inr (.inr ⟨rfl,rfl,by omega⟩)
 ·rw [if_neg h,if_neg h]
  exact .inl ⟨rfl,rfl⟩
end Go.Proofs.YtihdndaibmgoiaaGreatDoor.Pz
namespace Go.Proofs.YtihdndaibmgoiaaGreatDoor.Pz
open Go.RowKit
attribute [local go_sem] Oper.semAt_some
theorem itoaN {n:Nat} (h:n≤1500):Lib.itoa (n:Int)=txt (n:Int):=by
 have h1:(List.range 1501).all (fun n=>Lib.itoa (n:Int) == txt (n:Int))=true:=by kernel_rfl
 have h2:=List.all_eq_true.1 h1 n (List.mem_range.2 (by omega))
 exact eq_of_beq h2
set_option maxHeartbeats 2000000 in
theorem ofN_fn (n:Nat) (hn:n≤1500) (w:World) (htab:Tab w):Calls Tryz.prog 18 #[.int .i64 (n:Nat)] w fun e w'=>e=.returned (.string ⟨(txt (n:Int)).toArray⟩)∧Below w.heap.size w w':=by
 have HC:=hid (Tryz.strconv_Itoa (n:Int) (by omega) (by omega) w htab)
 rw [itoaN hn] at HC
 have HCC:=hid (show Calls Tryz.prog 69 #[.int .i64 (n:Nat)] w fun e w'=>e=.returned (.string ⟨(txt (n:Int)).toArray⟩)∧Below w.heap.size w w' from HC.out.mono (by rintro e w1 ⟨rfl,k,os,rfl⟩;exact ⟨rfl,below_grow w k os⟩))
 clear htab HC
 go_enter Tryz.func18,Tryz.ntmps18
 go_wp2_with (go_at_call 69;(with_reducible refine HCC.out.mono ?_);rintro e w1 ⟨rfl,hb1⟩)
 go_ret
 exact ⟨rfl,hb1⟩
theorem digR_neg (c:UInt8):(digR c 16<0)=(16≤valH c):=by
 have h:(List.range 256).all (fun n=>decide (digR (UInt8.ofNat n) 16<0) == decide (16≤valH (UInt8.ofNat n)))=true:=by kernel_rfl
 have h2:=List.all_eq_true.1 h c.toNat (List.mem_range.2 c.toNat_lt)
 rw [UInt8.ofNat_toNat] at h2
 have h3:=eq_of_beq h2
 exact propext (decide_eq_decide.1 h3)
theorem divM_fn (z:Int) (M:Nat) (hM:0<M) (hM9:M≤18446744073709551616) (hz:z.natAbs<big600) (w:World):Calls Tryz.prog 14 #[.string ⟨(txt z).toArray⟩,.string ⟨(txt (M:Int)).toArray⟩] w fun e w'=>e=.returned (.tuple #[.string ⟨(txt (z / (M:Int))).toArray⟩,.string ⟨(txt (z % (M:Int))).toArray⟩,.int .i64 0])∧Below w.heap.size w w':=by
  have hMb:(M:Int).natAbs<big600:=big_room _ (by omega)
  have h:=divRf_fn (txt z) (txt (M:Int)) (Nat.le_trans (txt_len z hz) (by decide)) (Nat.le_trans (txt_len _ hMb) (by decide)) w
  have h1:=txt_read z
  have h2:=txt_read (M:Int)
  have e1:z.fdiv (M:Int)=z / (M:Int):=Int.fdiv_eq_ediv_of_nonneg _ (by omega)
  have e2:z.fmod (M:Int)=z % (M:Int):=Int.fmod_eq_emod_of_nonneg _ (by omega)
  have b1:(z / (M:Int)).natAbs<big600:=by
    have h3:(z / (M:Int)).natAbs≤z.natAbs:=by
      rcases Int.le_total 0 z with h5 | h5
      · have h6:z / (M:Int)≤z:=Int.ediv_le_self _ h5
        have h7:0≤z / (M:Int):=Int.ediv_nonneg h5 (by omega)
        omega
      · have h6 : z ≤ z / (M : Int) := by
          have h8:=Int.le_ediv_of_mul_le (a:=z) (b:=z) (c:=(M:Int)) (by omega) (by
            have h9:z*(M:Int)≤z*1:=Int.mul_le_mul_of_nonpos_left h5 (show (1:Int)≤(M:Int) by omega)
            omega)
          exact h8
        have h7:=Int.ediv_le_ediv (show (0:Int)<(M:Int) by omega) h5
        rw [Int.zero_ediv] at h7
        omega
    omega
  have b2:(z % (M:Int)).natAbs<big600:=big_room _ (by
    have h3:=Int.emod_nonneg z (show (M:Int)≠0 by omega)
    have h4:=Int.emod_lt_of_pos z (show (0:Int)<(M:Int) by omega)
    omega)
  rw [divVal_pos ⟨h1.1,h2.1⟩ (by rw [h2.2];omega),h1.2,h2.2,if_neg (by omega),divOK_small (by rw [e1];exact b1) (by rw [e2];exact b2),e1,e2] at h
  exact h
theorem cmp_txt (x y:Nat) (hx:x≤18446744073709551616) (hy:y≤18446744073709551616) (w:World):Calls Tryz.prog 16 #[.string ⟨(txt (x:Int)).toArray⟩,.string ⟨(txt (y:Int)).toArray⟩] w fun e w'=>e=.returned (.tuple #[.int .i64 (cmpI (x:Int) (y:Int)),.int .i64 0])∧Below w.heap.size w w':=by
 have hxb:(x:Int).natAbs<big600:=big_room _ (by omega)
 have hyb:(y:Int).natAbs<big600:=big_room _ (by omega)
 have h:=cmpR_fn (txt (x:Int)) (txt (y:Int)) (Nat.le_trans (txt_len _ hxb) (by decide)) (Nat.le_trans (txt_len _ hyb) (by decide)) w
 have h1:=txt_read (x:Int)
 have h2:=txt_read (y:Int)
 unfold cmpRes at h
 rw [if_pos ⟨h1.1,h2.1⟩,h1.2,h2.2,if_neg (by omega)] at h
 exact h
end Go.Proofs.YtihdndaibmgoiaaGreatDoor.Pz
namespace Go.Proofs.YtihdndaibmgoiaaGreatDoor.Pz
open Go.RowKit
attribute [local go_sem] Oper.semAt_some
theorem cell_lt {w:World} {b o:Nat} {v:Value} (h:w.cell? ⟨b,o,none⟩=some v):b<w.heap.size:=by
 rcases Nat.lt_or_ge b w.heap.size with h1 | h1
 ·exact h1
 ·unfold World.cell? at h
  rw [Array.getElem?_eq_none h1] at h
  cases h
theorem RowS.new2 (w:World) (y z:Str):RowS w.heap.size (w.alloc (.cells #[.string ⟨y.toArray⟩,.string ⟨z.toArray⟩] 9)) (.slice (some ⟨w.heap.size,0,none⟩) 2 2) [y,z]:=by
 refine ⟨by simp [strCells],.inr ⟨w.heap.size,2,_,rfl,Nat.le_refl _,heap_alloc_new _ _,Nat.le_refl _,by unfold maxLen;omega,rfl,?_⟩⟩
 simp [strCells]
theorem sumT_strip:∀ l:List Str,sumT (l.map strip)≤sumT l
 | []=>Nat.le_refl _
 | x::l=>by
  have h1:=strip_len x
  have h2:=sumT_strip l
  show (strip x).length+sumT (l.map strip)≤x.length+sumT l
  omega
theorem bads_strip:∀ l:List Str,(∀ x∈l,pOK x=true∧(pVal x).natAbs<big600)→badsE (l.map strip)=0
 | [],_=>rfl
 | x::l,h=>by
  have hx:=h x (by simp)
  have h2:=bads_strip l fun y hy=>h y (by simp [hy])
  have hv:=strip_val hx.1
  have hb:badW (strip x)=0:=by
   unfold badW v64
   rw [if_pos hv.1,hv.2,if_neg (by omega)]
  show (if badW (strip x)=0 then badsE (l.map strip) else badW (strip x))=0
  rw [if_pos hb]
  exact h2
theorem back_len {c:UInt8} {n m:Nat} (hn:n≤1500) (hm:m≤1500):(backL c n m).length≤100000:=by
 have h1:=(dig_txt hn).2.2.1
 have h2:=(dig_txt hm).2.2.1
 unfold backL
 simp only [List.length_cons,List.length_append,List.length_nil]
 omega
theorem sumT_le (B:Nat):∀ l:List Str,(∀ x∈l,x.length≤B)→sumT l≤B*l.length
 | [],_=>Nat.zero_le _
 | x::l,h=>by
  have h1:=h x (by simp)
  have h2:=sumT_le B l fun y hy=>h y (by simp [hy])
  show x.length+sumT l≤B*(l.length+1)
  rw [Nat.mul_succ]
  omega
theorem want_len {K:Nat} (hK:K≤8) (z:Int):(txt (wantZ K z)).length≤601:=by
 refine txt_len _ (big_room _ ?_)
 have h1:(2:Nat) ^ (8*K)≤18446744073709551616:=by rw [Nat.pow_mul];exact pow256 K hK
 have h0:0<(2:Nat) ^ (8*K):=Nat.two_pow_pos _
 unfold wantZ
 generalize (2:Nat) ^ (8*K)=M at *
 generalize (2:Nat) ^ (8*K-1)=H
 have h2:=Int.emod_nonneg z (show (M:Int)≠0 by omega)
 have h3:=Int.emod_lt_of_pos z (show (0:Int)<(M:Int) by omega)
 generalize z % (M:Int)=r at *
 split<;>omega
def goodH (c:UInt8):Prop:=valH c<16∧(c.toNat<65∨97≤c.toNat)
theorem high_val {c:UInt8} (h:valH c<16) (h65:65≤c.toNat) (h70:¬ c.toNat≤70):97≤c.toNat:=by
 have ha:(List.range 256).all (fun n=>!decide (valH (UInt8.ofNat n)<16) || decide (n<65) || decide (n≤70) || decide (97≤n))=true:=by kernel_rfl
 have h2:=List.all_eq_true.1 ha c.toNat (List.mem_range.2 c.toNat_lt)
 rw [UInt8.ofNat_toNat] at h2
 simp only [Bool.or_eq_true,Bool.not_eq_true',decide_eq_true_eq,decide_eq_false_iff_not] at h2
 omega
def letB (r:Nat):UInt8:=[99,115,83,105,73,119,87].getD r 0
theorem letB_ok:∀ r,r<7→1≤widthL (letB r)∧(⟨#[99,115,83,105,73,119,87]⟩:ByteArray).extract r (r+1)=⟨#[letB r]⟩∧([1,2,2,4,4,8,8]:List Nat).getD r 0=widthL (letB r):=by decide
set_option maxRecDepth 1000000 in
set_option maxHeartbeats 16000000 in
theorem binaryBack_fn (lt:UInt8) (nums:List Str) (va:Value) (hex s:Str) (w:World) (hva:StrsAt w va nums) (hnil:∀ n c,va=.slice none n c→c=0) (hh:hex.length≤2000000) (hs:s.length≤2000000) (hsum:sumT nums≤2000000) (hal:nums.length≤2000000) (htab:Tab w) :
    Calls Tryz.prog 3 #[.int .u8 (lt.toNat:Nat),va,.string ⟨hex.toArray⟩,.string ⟨s.toArray⟩] w fun e w'=>e=.returned (.bool true)∧Below w.heap.size w w':=by
  have hsz:(⟨hex.toArray⟩:ByteArray).size=hex.length:=Lib.size_mk _
  obtain ⟨w0,hw0⟩:∃ w0,w0=w.alloc (.cells #[.string ⟨hex.toArray⟩,.string ⟨s.toArray⟩] 9):=⟨_,rfl⟩
  have HB0:=hid (show Below w.heap.size w w0 by rw [hw0];exact belowA _ _)
  have HR0:=hid (show RowS w.heap.size w0 (.slice (some ⟨w.heap.size,0,none⟩) 2 2) [hex,s] by rw [hw0];exact RowS.new2 w hex s)
  have HZ0:=hid (show w.heap.size≤w0.heap.size by rw [hw0];simp)
  have HW0:=hid hw0
  obtain ⟨aa,ca,hvs,-,-⟩:=id hva
  obtain ⟨n,hn⟩:∃ n,n=nums.length:=⟨_,rfl⟩
  rw [← hn] at hvs
  subst hvs
  have HN:=hid hn
  have HVA:=hid hva
  have HV0:=hid (show StrsAt w0 (.slice aa n ca) nums from hva.below HB0.out)
  have HNIL:=hid hnil
  obtain ⟨bl,hbl⟩:∃ bl,bl=lightB 1500 ([hex,s]++nums):=⟨_,rfl⟩
  have HL:=hid (fun (u:World) (v:Value) (h:StrsAt u v ([hex,s]++nums))=>show Calls Tryz.prog 10 #[.int .i64 1500,v] u fun e w'=>e=.returned (.bool bl)∧w'=u by
    rw [hbl]
    exact light_fn 1500 h (by show hex.length+(s.length+sumT nums)≤10000000;omega) (by show nums.length+1+1≤10000000;omega))
  have HA:=hid (fun u (hu:Tab u)=>awake_fn u hu)
  have HT:=hid htab
  have HLEN:=hid (show ([hex,s]:List Str).length+nums.length≤10000000 by show 2+nums.length≤_;omega)
  have hn9:n≤2000000:=by rw [hn];exact hal
  clear htab hw0 hva hnil hn
  cases bl with
  | false=>
    as_aux_lemma=>
      clear hbl hh hs hsum hal
      go_enter Tryz.func3,Tryz.ntmps3
      go_wp2_with (first|(at_builtin;rw [← HW0.out];refine app_any rfl (.tmp 38) (.tmp 39) rfl w.heap.size _ (.slice aa n ca) [hex,s] nums rfl HR0.out rfl HV0.out HNIL.out HZ0.out HLEN.out ?_;intro v1 w1 hr1 hg1 hv1;have HR1:=hid hr1.strs;have HB1:=hid (HB0.out.grown hg1 HZ0.out (fun k hk=>(HR0.out.lt k hk).2));have HV1:=hid (HVA.out.below HB1.out);clear hr1 hg1 hv1)|(go_at_call 10;(with_reducible refine (HL.out _ _ HR1.out).mono ?_);rintro e w2 ⟨rfl,hw2⟩;replace hw2:=hw2.symm;subst hw2)|(go_at_call 11;(with_reducible refine (HA.out _ (HT.out.below HB1.out)).mono ?_);rintro e w3 ⟨rfl,hb3⟩;have HB3:=hid (HB1.out.trans (hb3.mono HB1.out.size));clear hb3))
      go_ret
      exact ⟨rfl,HB3.out⟩
  | true=>
    have hs2:hex.length+(s.length+sumT nums)≤1500:=by
      have h:=hbl.symm
      unfold lightB at h
      rw [Bool.and_eq_true] at h
      have h2:((sumT ([hex,s]++nums):Nat):Int)≤1500:=of_decide_eq_true h.1
      have h3:sumT ([hex,s]++nums)=hex.length+(s.length+sumT nums):=rfl
      omega
    have hl2:n≤58:=by
      have h:=hbl.symm
      unfold lightB at h
      rw [Bool.and_eq_true] at h
      have h2:([hex,s]++nums).length≤60:=of_decide_eq_true h.2
      have h3:([hex,s]++nums).length=nums.length+1+1:=rfl
      rw [HN.out]
      omega
    have HSUM:=hid hs2
    clear hbl hh hs hsum hal
    by_cases hn0:n<1
    · as_aux_lemma =>
        have hnI:(n:Int)<1:=by omega
        clear hn0
        go_enter Tryz.func3,Tryz.ntmps3
        go_wp2_with (first|(at_builtin;rw [← HW0.out];refine app_any rfl (.tmp 38) (.tmp 39) rfl w.heap.size _ (.slice aa n ca) [hex,s] nums rfl HR0.out rfl HV0.out HNIL.out HZ0.out HLEN.out ?_;intro v1 w1 hr1 hg1 hv1;have HR1:=hid hr1.strs;have HB1:=hid (HB0.out.grown hg1 HZ0.out (fun k hk=>(HR0.out.lt k hk).2));have HV1:=hid (HVA.out.below HB1.out);clear hr1 hg1 hv1)|(go_at_call 10;(with_reducible refine (HL.out _ _ HR1.out).mono ?_);rintro e w2 ⟨rfl,hw2⟩;replace hw2:=hw2.symm;subst hw2)|(go_at_call 11;(with_reducible refine (HA.out _ (HT.out.below HB1.out)).mono ?_);rintro e w3 ⟨rfl,hb3⟩;have HB3:=hid (HB1.out.trans (hb3.mono HB1.out.size));clear hb3))
        go_ret
        exact ⟨rfl,HB3.out⟩
    have hnI:¬ ((n:Int)<1):=by omega
    by_cases hev:hex.length % 2=0
    case neg=>
      have htm:Int.tmod (hex.length:Int) 2=1:=by rw [Int.tmod_eq_emod_of_nonneg (by omega)];omega
      clear hev hn0
      go_enter Tryz.func3,Tryz.ntmps3
      go_wp2_with (first|(at_builtin;rw [← HW0.out];refine app_any rfl (.tmp 38) (.tmp 39) rfl w.heap.size _ (.slice aa n ca) [hex,s] nums rfl HR0.out rfl HV0.out HNIL.out HZ0.out HLEN.out ?_;intro v1 w1 hr1 hg1 hv1;have HR1:=hid hr1.strs;have HB1:=hid (HB0.out.grown hg1 HZ0.out (fun k hk=>(HR0.out.lt k hk).2));have HV1:=hid (HVA.out.below HB1.out);clear hr1 hg1 hv1)|(go_at_call 10;(with_reducible refine (HL.out _ _ HR1.out).mono ?_);rintro e w2 ⟨rfl,hw2⟩;replace hw2:=hw2.symm;subst hw2)|(go_at_call 11;(with_reducible refine (HA.out _ (HT.out.below HB1.out)).mono ?_);rintro e w3 ⟨rfl,hb3⟩;have HB3:=hid (HB1.out.trans (hb3.mono HB1.out.size));clear hb3))
      go_ret
      exact ⟨rfl,HB3.out⟩
    have htm:Int.tmod (hex.length:Int) 2=0:=by rw [Int.tmod_eq_emod_of_nonneg (by omega)];omega
    have HEV:=hid hev
    clear hev hn0
    obtain ⟨m,hm⟩:∃ m,m=hex.length:=⟨_,rfl⟩
    have hm9:m≤1500:=by omega
    rw [← hm] at htm hsz
    have HM:=hid hm
    clear hm
    go_enter Tryz.func3,Tryz.ntmps3
    go_wp2_with (first|(at_builtin;rw [← HW0.out];refine app_any rfl (.tmp 38) (.tmp 39) rfl w.heap.size _ (.slice aa n ca) [hex,s] nums rfl HR0.out rfl HV0.out HNIL.out HZ0.out HLEN.out ?_;intro v1 w1 hr1 hg1 hv1;have HR1:=hid hr1.strs;have HB1:=hid (HB0.out.grown hg1 HZ0.out (fun k hk=>(HR0.out.lt k hk).2));have HV1:=hid (HVA.out.below HB1.out);clear hr1 hg1 hv1)|(go_at_call 10;(with_reducible refine (HL.out _ _ HR1.out).mono ?_);rintro e w2 ⟨rfl,hw2⟩;replace hw2:=hw2.symm;subst hw2))
    have HT1:=hid (HT.out.below HB1.out)
    go_loopg [9,57] m (fun k xv iv wr=>∃ (i:Nat) (l:Str),iv=.int .i64 (i:Nat)∧At hex l i∧(∀ c∈hex.take i,goodH c)∧wr=w1∧k=l.length)
    case atStart=>exact ⟨0,hex,rfl,At.start hex,by simp,rfl,HM.out⟩
    case round=>
      obtain ⟨i,l,rfl,hat,hgd,hw9,hk⟩:=hrel
      replace hk:=hk.symm
      subst hk
      subst hw9
      have HAT:=hid hat
      have HGD:=hid hgd
      have hlen:=hat.len
      rw [← HM.out] at hlen
      clear hat hgd
      cases l with
      | cons c t=>
        have hlt:=HAT.out.lt
        rw [← HM.out] at hlt
        have hltI:(i:Int)<(m:Int):=by omega
        have hx:=HAT.out.byte
        have HTK:=hid (show hex.take (i+1)=hex.take i++[c] by
          have h9:=HAT.out.head
          rw [List.take_add_one,h9]
          rfl)
        obtain ⟨d,hd⟩:∃ d,d=digR c 16:=⟨_,rfl⟩
        have HDG:=hid (show ∀ u,Calls Tryz.prog 12 #[.int .u8 (c.toNat:Nat),.int .i64 16] u fun e w'=>e=.returned (.int .i64 d)∧w'=u from fun u=>by rw [hd];exact digitR_fn c 16 (by decide) (by decide) u)
        have hneg:=digR_neg c
        rw [← hd] at hneg
        clear hd
        have HNEG:=hid hneg
        clear hneg
        by_cases hd0:d<0
        · as_aux_lemma =>
            go_wp2_with (first|(go_at_call 12;(with_reducible refine (HDG.out _).mono ?_);rintro e w4 ⟨rfl,hw4⟩;replace hw4:=hw4.symm;subst hw4)|(go_at_call 11;(with_reducible refine (HA.out _ HT1.out).mono ?_);rintro e w3 ⟨rfl,hb3⟩;have HB3:=hid (HB1.out.trans (hb3.mono HB1.out.size));clear hb3))
            go_ret
            exact ⟨rfl,HB3.out⟩
        have hv16:valH c<16:=by
          rcases Nat.lt_or_ge (valH c) 16 with h | h
          · exact h
          · exact absurd (HNEG.out.symm.mp h) hd0
        by_cases h65:(65:Int)≤(c.toNat:Int)
        · by_cases h70:(c.toNat:Int)≤70
          · as_aux_lemma =>
              go_wp2_with (first|(go_at_call 12;(with_reducible refine (HDG.out _).mono ?_);rintro e w4 ⟨rfl,hw4⟩;replace hw4:=hw4.symm;subst hw4)|(go_at_call 11;(with_reducible refine (HA.out _ HT1.out).mono ?_);rintro e w3 ⟨rfl,hb3⟩;have HB3:=hid (HB1.out.trans (hb3.mono HB1.out.size));clear hb3))
              go_ret
              exact ⟨rfl,HB3.out⟩
          · have HG2 := hid (show ∀ x ∈ hex.take (i + 1), goodH x by
              rw [HTK.out]
              intro x hx
              rcases List.mem_append.1 hx with h | h
              · exact HGD.out x h
              · rw [List.mem_singleton.1 h];exact ⟨hv16,.inr (high_val hv16 (by omega) (by omega))⟩)
            clear hv16
            go_wp2_with (go_at_call 12;(with_reducible refine (HDG.out _).mono ?_);rintro e w4 ⟨rfl,hw4⟩;replace hw4:=hw4.symm;subst hw4)
            go_roundg t.length
            case measure=>simp
            case rel=>exact ⟨i+1,t,by go_num,HAT.out.tail,HG2.out,rfl,rfl⟩
        · have HG2 := hid (show ∀ x ∈ hex.take (i + 1), goodH x by
            rw [HTK.out]
            intro x hx
            rcases List.mem_append.1 hx with h | h
            · exact HGD.out x h
            · rw [List.mem_singleton.1 h];exact ⟨hv16,.inl (by omega)⟩)
          clear hv16
          go_wp2_with (go_at_call 12;(with_reducible refine (HDG.out _).mono ?_);rintro e w4 ⟨rfl,hw4⟩;replace hw4:=hw4.symm;subst hw4)
          go_roundg t.length
          case measure=>simp
          case rel=>exact ⟨i+1,t,by go_num,HAT.out.tail,HG2.out,rfl,rfl⟩
      | nil=>
        have hnlt:¬ ((i:Int)<(m:Int)):=by simp at hlen;omega
        have HGH:=hid (show ∀ c∈hex,goodH c by
          have h:=HGD.out
          rw [List.take_of_length_le (by rw [← HM.out];simp at hlen;omega)] at h
          exact h)
        clear hlen
        obtain ⟨r,hr⟩:∃ r,r=lt.toNat % 7:=⟨_,rfl⟩
        have hr7:r<7:=by omega
        have htr:Int.tmod (lt.toNat:Int) 7=(r:Int):=by rw [Int.tmod_eq_emod_of_nonneg (by omega)];omega
        have hwr:IntKind.u8.wrap ((r:Int)+1)=(r:Int)+1:=by rw [IntKind.wrap_u8];omega
        have hrn:((r:Int)+1).toNat=r+1:=by omega
        have hr1:(r:Int)≤(r:Int)+1:=by omega
        have hr2:(r:Int)+1≤7:=by omega
        have hr3:(0:Int)≤(r:Int)∧(r:Int)<7:=by omega
        have hr4:(r:Int)<7:=by omega
        obtain ⟨c,hc⟩:∃ c,c=letB r:=⟨_,rfl⟩
        obtain ⟨K,hK⟩:∃ K,K=widthL c:=⟨_,rfl⟩
        have hl:=letB_ok r hr7
        rw [← hc,← hK] at hl
        obtain ⟨hw1,hext,hgK⟩:=hl
        have hcK:(wr.alloc (.cells #[.int .i64 1,.int .i64 2,.int .i64 2,.int .i64 4,.int .i64 4,.int .i64 8,.int .i64 8] 3)).cell? ⟨wr.heap.size,r,none⟩=some (.int .i64 (K:Nat)):=by
          rw [Lib.cell_of_heap (heap_alloc_new _ _),← hgK]
          have h9:∀ r,r<7→(#[(.int .i64 1:Value),.int .i64 2,.int .i64 2,.int .i64 4,.int .i64 4,.int .i64 8,.int .i64 8])[r]? = some (.int .i64 ((([1,2,2,4,4,8,8]:List Nat).getD r 0:Nat):Int)):=by
            intro r hr
            match r,hr with
            | 0,_=>rfl
            | 1,_=>rfl
            | 2,_=>rfl
            | 3,_=>rfl
            | 4,_=>rfl
            | 5,_=>rfl
            | 6,_=>rfl
          exact h9 r hr7
        have hK8:K≤8:=by rw [hK];exact widthL_le c
        have HKC:=hid hK
        clear hgK hc hK hr HGD HAT
        go_wp2_with fail
        obtain ⟨wA,hwA⟩:∃ wA,wA=wr.alloc (.cells #[.int .i64 1,.int .i64 2,.int .i64 2,.int .i64 4,.int .i64 4,.int .i64 8,.int .i64 8] 3):=⟨_,rfl⟩
        rw [← hwA]
        have HBA:=hid (show Below w.heap.size w wA from HB1.out.trans ((show Below wr.heap.size wr wA by rw [hwA];exact belowA _ _).mono HB1.out.size))
        clear hwA hcK hext htr hwr hrn hr1 hr2 hr3 hr4 hr7 htm hnlt
        go_loopg [12,91] K (fun k lv iv wr=>∃ (i:Nat),iv=.int .i64 (i:Nat)∧i≤K∧lv=.string ⟨(txt ((256 ^ i:Nat):Int)).toArray⟩∧Below wA.heap.size wA wr∧k=K-i)
        case atStart=>exact ⟨0,rfl,Nat.zero_le _,by rw [show ((256 ^ 0:Nat):Int)=1 from rfl,t1],Below.refl _ _,rfl⟩
        case round=>
          obtain ⟨i,rfl,hiK,rfl,hbl,hk⟩:=hrel
          replace hk:=hk.symm
          subst hk
          have HBL:=hid hbl
          have hs4:=hbl.size
          clear hbl
          rcases Nat.lt_or_ge i K with hlt | hge
          · have hltI:(i:Int)<(K:Int):=by omega
            have HMU:=hid (fun u=>times256 (256 ^ i) (by rw [← Nat.pow_succ];exact pow256 (i+1) (by omega)) u)
            rw [show 256 ^ i*256=256 ^ (i+1) from (Nat.pow_succ ..).symm] at HMU
            obtain ⟨x1,hx1⟩:∃ x1,x1=txt ((256 ^ i:Nat):Int):=⟨_,rfl⟩
            obtain ⟨x2,hx2⟩:∃ x2,x2=txt ((256 ^ (i+1):Nat):Int):=⟨_,rfl⟩
            rw [← hx1,← hx2] at HMU
            rw [← hx1]
            have HX2:=hid hx2
            clear hx1 hx2
            go_wp2_with (go_at_call 13;(with_reducible refine (HMU.out _).mono ?_);rintro e w3 ⟨rfl,hb3⟩;have HB3:=hid hb3;clear hb3)
            go_roundg (K-(i+1))
            case measure=>omega
            case rel=>exact ⟨i+1,by go_num,hlt,by rw [HX2.out],HBL.out.trans (HB3.out.mono hs4),rfl⟩
          · obtain rfl:K=i:=by omega
            have hnl:¬ ((K:Int)<(K:Int)):=by omega
            obtain ⟨M,hM⟩:∃ M,M=256 ^ K:=⟨_,rfl⟩
            obtain ⟨H,hH⟩:∃ H,H=2 ^ (8*K-1):=⟨_,rfl⟩
            have hMP:M=2 ^ (8*K):=by rw [hM,show (256:Nat)=2 ^ 8 from rfl,← Nat.pow_mul]
            have hMH:M=2*H:=by rw [hMP,hH,← Nat.pow_succ'];congr 1;omega
            have hH0:0<H:=by rw [hH];exact Nat.two_pow_pos _
            have hM9:M≤18446744073709551616:=by rw [hM];exact pow256 K hK8
            rw [← hM]
            have HWZ:=hid (show ∀ z:Int,wantZ K z=if (H:Int)≤z % (M:Int) then z % (M:Int)-(M:Int) else z % (M:Int) from fun z=>by unfold wantZ;rw [← hMP,← hH])
            obtain ⟨y0,hy0⟩:∃ y0,y0=txt ((M:Int) % 2):=⟨_,rfl⟩
            have HHF:=hid (show ∀ u,Calls Tryz.prog 14 #[.string ⟨(txt (M:Int)).toArray⟩,.string ⟨#[50]⟩] u fun e w'=>e=.returned (.tuple #[.string ⟨(txt (H:Int)).toArray⟩,.string ⟨y0.toArray⟩,.int .i64 0])∧Below u.heap.size u w' from fun u=>by
              have h:=divM_fn (M:Int) 2 (by decide) (by decide) (big_room _ (by omega)) u
              rw [show txt (((2:Nat)):Int)=[50] by kernel_rfl,show (M:Int) / ((2:Nat):Int)=(H:Int) by omega,show (M:Int) % ((2:Nat):Int)=(M:Int) % 2 from rfl,← hy0] at h
              exact h)
            obtain ⟨LM,hLM⟩:∃ LM,LM=txt (M:Int):=⟨_,rfl⟩
            obtain ⟨LH,hLH⟩:∃ LH,LH=txt (H:Int):=⟨_,rfl⟩
            rw [← hLM,← hLH] at HHF
            rw [← hLM]
            have HLM:=hid hLM
            have HLH:=hid hLH
            have HMF:=hid (show 0<M∧M≤18446744073709551616∧M=2*H from ⟨by omega,hM9,hMH⟩)
            clear hM hH hMP hMH hH0 hM9 hy0 hLM hLH hge
            go_wp2_with (go_at_call 14;(with_reducible refine (HHF.out _).mono ?_);rintro e w5 ⟨rfl,hb5⟩;have HB5:=hid ((HBA.out.trans (HBL.out.mono HBA.out.size)).trans (hb5.mono (Nat.le_trans HBA.out.size hs4)));clear hb5)
            go_loopg [16,107] n (fun k ov iv wr=>∃ (i:Nat) (out:List Str),iv=.int .i64 (i:Nat)∧i≤n∧RowS w5.heap.size wr ov out∧out=(nums.take i).map (fun x=>txt (wantZ K (pVal x)))∧(∀ x∈nums.take i,pOK x=true∧(pVal x).natAbs<big600)∧Below w5.heap.size w5 wr∧k=n-i)
            case atStart=>exact ⟨0,[],rfl,Nat.zero_le _,RowS.nil _ _,rfl,by simp,Below.refl _ _,rfl⟩
            case round=>
              obtain ⟨i,out,rfl,hin,hrow,hout,hgd,hbl,hk⟩:=hrel
              replace hk:=hk.symm
              subst hk
              obtain ⟨ao,co,hov⟩:=hrow.shape
              subst hov
              have HROW:=hid hrow
              have HOUT:=hid hout
              have HGD:=hid hgd
              have HBL3:=hid hbl
              have hs6:=hbl.size
              have HBW:=hid (HB5.out.trans (hbl.mono HB5.out.size))
              have hol:out.length≤n:=by rw [hout,List.length_map,List.length_take];omega
              clear hrow hout hgd hbl
              rcases Nat.lt_or_ge i n with hlt | hge
              · have hltI:(i:Int)<(n:Int):=by omega
                have hil:i<nums.length:=by rw [← HN.out];exact hlt
                obtain ⟨a',c',e',hcl⟩:=strsAt_off HVA.out
                simp only [Value.slice.injEq] at e'
                obtain ⟨ea,-,-⟩:=e'
                obtain ⟨b1,o1,hao,hcx⟩:=hcl i hil
                rw [← ea] at hao
                subst hao
                obtain ⟨x,hx⟩:∃ x,x=nums[i]:=⟨_,rfl⟩
                rw [← hx] at hcx
                have hcx2:wr.cell? ⟨b1,o1+i,none⟩=some (.string ⟨x.toArray⟩):=(HBW.out.cell (p:=⟨b1,o1+i,none⟩) (cell_lt hcx)).trans hcx
                have hxl:x.length≤1500:=by have h:=sumT_mem nums x (by rw [hx];exact List.getElem_mem hil);have:=HSUM.out;omega
                have HTK:=hid (show nums.take (i+1)=nums.take i++[x] by rw [hx,List.take_add_one,List.getElem?_eq_getElem hil];rfl)
                have hc:=fun u=>canR_fn x (by omega) u
                have HT6:=hid (HT.out.below HBW.out)
                clear hx hcx hcl ea hil
                rcases can_cases x with ⟨h1,-⟩ | ⟨h1,-⟩ | ⟨h1,-,h3⟩
                · rw [h1] at hc
                  have HC:=hid hc
                  clear hc h1
                  go_wp2_with (first|(go_at_call 15;(with_reducible refine (HC.out _).mono ?_);rintro e w7 ⟨rfl,hb7⟩;have HB7R:=hid hb7;have HB7:=hid (HBW.out.trans (hb7.mono HBW.out.size));clear hb7)|(go_at_call 11;(with_reducible refine (HA.out _ (HT.out.below HB7.out)).mono ?_);rintro e w8 ⟨rfl,hb8⟩;have HB8:=hid (HB7.out.trans (hb8.mono HB7.out.size));clear hb8))
                  go_ret
                  exact ⟨rfl,HB8.out⟩
                · rw [h1] at hc
                  have HC:=hid hc
                  clear hc h1
                  go_wp2_with (first|(go_at_call 15;(with_reducible refine (HC.out _).mono ?_);rintro e w7 ⟨rfl,hb7⟩;have HB7R:=hid hb7;have HB7:=hid (HBW.out.trans (hb7.mono HBW.out.size));clear hb7)|(go_at_call 11;(with_reducible refine (HA.out _ (HT.out.below HB7.out)).mono ?_);rintro e w8 ⟨rfl,hb8⟩;have HB8:=hid (HB7.out.trans (hb8.mono HB7.out.size));clear hb8))
                  go_ret
                  exact ⟨rfl,HB8.out⟩
                · rw [h1] at hc
                  have HC:=hid hc
                  obtain ⟨z,hz⟩:∃ z,z=pVal x:=⟨_,rfl⟩
                  have hpx:pOK x=true:=by
                    cases hp:pOK x with
                    | true=>rfl
                    | false=>
                      exfalso
                      rw [canRes_eq,hp,if_neg (by simp)] at h1
                      have h9:=congrArg Prod.snd h1
                      exact absurd h9 (by show ¬ ((2:Int)=0);decide)
                  rw [← hz] at HC h3
                  have HZX:=hid (show pVal x=z∧pOK x=true∧z.natAbs<big600 from ⟨hz.symm,hpx,h3⟩)
                  obtain ⟨R,hR⟩:∃ R:Nat,z % (M:Int)=(R:Int):=⟨(z % (M:Int)).toNat,by have h5:=Int.emod_nonneg z (show (M:Int)≠0 by have:=HMF.out.1;omega);omega⟩
                  have hRM:R<M:=by have h5:=Int.emod_lt_of_pos z (show (0:Int)<(M:Int) by have:=HMF.out.1;omega);omega
                  have HDV:=hid (fun u=>divM_fn z M HMF.out.1 HMF.out.2.1 h3 u)
                  rw [hR,← HLM.out] at HDV
                  have HCP:=hid (fun u=>cmp_txt R H (by have:=HMF.out.2;omega) (by have:=HMF.out.2;omega) u)
                  rw [← HLH.out] at HCP
                  have HSB:=hid (fun u=>minus_txt R M (by have:=HMF.out.2;omega) HMF.out.2.1 u)
                  rw [← HLM.out] at HSB
                  have HW2:=hid (HWZ.out z)
                  rw [hR] at HW2
                  obtain ⟨tz,htz⟩:∃ tz,tz=txt z:=⟨_,rfl⟩
                  obtain ⟨tq,htq⟩:∃ tq,tq=txt (z / (M:Int)):=⟨_,rfl⟩
                  obtain ⟨tr,htr⟩:∃ tr,tr=txt (R:Int):=⟨_,rfl⟩
                  rw [← htz] at HC HDV
                  rw [← htq,← htr] at HDV
                  rw [← htr] at HCP HSB
                  have HTR:=hid htr
                  clear hc h1 hz hpx h3 hR htz htq htr hxl
                  have HGD2:=hid (show ∀ y∈nums.take (i+1),pOK y=true∧(pVal y).natAbs<big600 by
                    rw [HTK.out]
                    intro y hy
                    rcases List.mem_append.1 hy with h | h
                    · exact HGD.out y h
                    · rw [List.mem_singleton.1 h];exact ⟨HZX.out.2.1,by rw [HZX.out.1];exact HZX.out.2.2⟩)
                  by_cases hHR:H≤R
                  · have HMAP := hid (show (nums.take (i + 1)).map (fun x => txt (wantZ K (pVal x))) = out ++ [txt ((R : Int) - (M : Int))] by
                      rw [HTK.out,List.map_append,HOUT.out,List.map_cons,HZX.out.1,HW2.out,if_pos (by omega)]
                      rfl)
                    obtain ⟨tw,htw⟩:∃ tw,tw=txt ((R:Int)-(M:Int)):=⟨_,rfl⟩
                    rw [← htw] at HMAP HSB
                    obtain ⟨cm,hcm⟩:∃ cm,cm=cmpI (R:Int) (H:Int):=⟨_,rfl⟩
                    have hcm0:(0:Int)≤cm:=by rw [hcm];unfold cmpI;split<;>(try split)<;>omega
                    rw [← hcm] at HCP
                    clear htw hcm hHR
                    go_wp2_with (first|(go_at_call 15;(with_reducible refine (HC.out _).mono ?_);rintro e w7 ⟨rfl,hb7⟩;have HB7R:=hid hb7;have HB7:=hid (HBW.out.trans (hb7.mono HBW.out.size));clear hb7)|(go_at_call 14;(with_reducible refine (HDV.out _).mono ?_);rintro e w10 ⟨rfl,hb10⟩;have HB10:=hid (hb10);clear hb10)|(go_at_call 16;(with_reducible refine (HCP.out _).mono ?_);rintro e w11 ⟨rfl,hb11⟩;have HB11:=hid (hb11);clear hb11)|(go_at_call 17;(with_reducible refine (HSB.out _).mono ?_);rintro e w12 ⟨rfl,hb12⟩;have HB12:=hid (hb12);clear hb12)|(at_builtin;have hb7x:=HB7R.out;have hbz:=((hb7x.trans (HB10.out.mono hb7x.size)).trans (HB11.out.mono (Nat.le_trans hb7x.size HB10.out.size))).trans (HB12.out.mono (Nat.le_trans hb7x.size (Nat.le_trans HB10.out.size HB11.out.size)));have HBZ:=hid hbz;refine app_one rfl rfl (.tmp 140) (.tmp 142) rfl w5.heap.size _ _ tw rfl (HROW.out.on hbz) rfl (Nat.le_trans hs6 hbz.size) (by omega) ?_;clear hb7x hbz;intro v9 w9 hr9 hg9 hv9;have HR9:=hid hr9;have HB9:=hid ((HBL3.out.trans (HBZ.out.mono hs6)).grown hg9 (Nat.le_trans hs6 HBZ.out.size) (fun k hk=>(HROW.out.lt k hk).2));clear hr9 hg9 hv9))
                    go_roundg (n-(i+1))
                    case measure=>omega
                    case rel=>exact ⟨i+1,out++[tw],by go_num,hlt,HR9.out,HMAP.out.symm,HGD2.out,HB9.out,rfl⟩
                  · have HMAP := hid (show (nums.take (i + 1)).map (fun x => txt (wantZ K (pVal x))) = out ++ [tr] by
                      rw [HTK.out,List.map_append,HOUT.out,List.map_cons,HZX.out.1,HW2.out,if_neg (by omega),HTR.out]
                      rfl)
                    obtain ⟨cm,hcm⟩:∃ cm,cm=cmpI (R:Int) (H:Int):=⟨_,rfl⟩
                    have hcm0:¬ ((0:Int)≤cm):=by rw [hcm];unfold cmpI;split<;>(try split)<;>omega
                    rw [← hcm] at HCP
                    clear hcm hHR
                    go_wp2_with (first|(go_at_call 15;(with_reducible refine (HC.out _).mono ?_);rintro e w7 ⟨rfl,hb7⟩;have HB7R:=hid hb7;have HB7:=hid (HBW.out.trans (hb7.mono HBW.out.size));clear hb7)|(go_at_call 14;(with_reducible refine (HDV.out _).mono ?_);rintro e w10 ⟨rfl,hb10⟩;have HB10:=hid (hb10);clear hb10)|(go_at_call 16;(with_reducible refine (HCP.out _).mono ?_);rintro e w11 ⟨rfl,hb11⟩;have HB11:=hid (hb11);clear hb11)|(at_builtin;have hb7x:=HB7R.out;have hbz:=(hb7x.trans (HB10.out.mono hb7x.size)).trans (HB11.out.mono (Nat.le_trans hb7x.size HB10.out.size));have HBZ:=hid hbz;refine app_one rfl rfl (.tmp 140) (.tmp 142) rfl w5.heap.size _ _ tr rfl (HROW.out.on hbz) rfl (Nat.le_trans hs6 hbz.size) (by omega) ?_;clear hb7x hbz;intro v9 w9 hr9 hg9 hv9;have HR9:=hid hr9;have HB9:=hid ((HBL3.out.trans (HBZ.out.mono hs6)).grown hg9 (Nat.le_trans hs6 HBZ.out.size) (fun k hk=>(HROW.out.lt k hk).2));clear hr9 hg9 hv9))
                    go_roundg (n-(i+1))
                    case measure=>omega
                    case rel=>exact ⟨i+1,out++[tr],by go_num,hlt,HR9.out,HMAP.out.symm,HGD2.out,HB9.out,rfl⟩
              · obtain rfl:n=i:=by omega
                have hnl3:¬ ((n:Int)<(n:Int)):=by omega
                have hta:nums.take n=nums:=List.take_of_length_le (by rw [← HN.out];exact Nat.le_refl _)
                have HGA:=hid (show ∀ x∈nums,pOK x=true∧(pVal x).natAbs<big600 by have h:=HGD.out;rw [hta] at h;exact h)
                have HWANT:=hid (show out=nums.map (fun x=>txt (wantZ K (pVal x))) by rw [HOUT.out,hta])
                have HOFN:=hid (fun u hu=>ofN_fn n (by omega) u hu)
                have HOFM:=hid (fun u hu=>ofN_fn m (by omega) u hu)
                obtain ⟨tn,htn⟩:∃ tn,tn=txt (n:Int):=⟨_,rfl⟩
                obtain ⟨tm,htm⟩:∃ tm,tm=txt (m:Int):=⟨_,rfl⟩
                rw [← htn] at HOFN
                rw [← htm] at HOFM
                have HTN:=hid htn
                have HTM:=hid htm
                have HBW0:=HBW
                have htnl:tn.length≤4:=by rw [htn];exact (dig_txt (by omega)).2.2.1
                have html:tm.length≤4:=by rw [htm];exact (dig_txt (by omega)).2.2.1
                have hs1:(⟨tn.toArray⟩:ByteArray).size=tn.length:=Lib.size_mk _
                have hs2:(⟨tm.toArray⟩:ByteArray).size=tm.length:=Lib.size_mk _
                have hs3:(⟨#[c]⟩:ByteArray).size=1:=rfl
                clear hta htn htm hge
                go_wp2_with (first|(go_at_call 18;(with_reducible refine (HOFN.out _ (HT.out.below HBW0.out)).mono ?_);rintro e w14 ⟨rfl,hb14⟩;have HB14:=hid (HBW0.out.trans (hb14.mono HBW0.out.size));have HR14:=hid (HROW.out.on hb14);clear hb14)|(go_at_call 18;(with_reducible refine (HOFM.out _ (HT.out.below HB14.out)).mono ?_);rintro e w15 ⟨rfl,hb15⟩;have HB15:=hid (HB14.out.trans (hb15.mono HB14.out.size));have HR15:=hid (HR14.out.on hb15);clear hb15))
                have hs15:=HB15.out.size
                go_loopg [28,159] n (fun k ov iv wr=>∃ (i:Nat) (o2:List Str),iv=.int .i64 (i:Nat)∧i≤n∧RowS w15.heap.size wr ov o2∧o2=(nums.take i).map strip∧Below w15.heap.size w15 wr∧k=n-i)
                case atStart=>exact ⟨0,[],rfl,Nat.zero_le _,RowS.nil _ _,rfl,Below.refl _ _,rfl⟩
                case round=>
                  obtain ⟨i,o2,rfl,hin,hrow,ho2,hbl,hk⟩:=hrel
                  replace hk:=hk.symm
                  subst hk
                  obtain ⟨a2,c2,hov⟩:=hrow.shape
                  subst hov
                  have HRO:=hid hrow
                  have HO2:=hid ho2
                  have HB16:=hid hbl
                  have hs7:=hbl.size
                  have HBX:=hid (HB15.out.trans (hbl.mono HB15.out.size))
                  have hol2:o2.length≤n:=by rw [ho2,List.length_map,List.length_take];omega
                  clear hrow ho2 hbl
                  rcases Nat.lt_or_ge i n with hlt | hge
                  · have hltI:(i:Int)<(n:Int):=by omega
                    have hil:i<nums.length:=by rw [← HN.out];exact hlt
                    obtain ⟨a',c',e',hcl⟩:=strsAt_off HVA.out
                    simp only [Value.slice.injEq] at e'
                    obtain ⟨ea,-,-⟩:=e'
                    obtain ⟨b1,o1,hao,hcx⟩:=hcl i hil
                    rw [← ea] at hao
                    subst hao
                    obtain ⟨x,hx⟩:∃ x,x=nums[i]:=⟨_,rfl⟩
                    rw [← hx] at hcx
                    have hcx2:wr.cell? ⟨b1,o1+i,none⟩=some (.string ⟨x.toArray⟩):=(HBX.out.cell (p:=⟨b1,o1+i,none⟩) (cell_lt hcx)).trans hcx
                    have hxl:x.length≤1500:=by have h:=sumT_mem nums x (by rw [hx];exact List.getElem_mem hil);have:=HSUM.out;omega
                    have HTK:=hid (show (nums.take (i+1)).map strip=o2++[strip x] by rw [hx,HO2.out,List.take_add_one,List.getElem?_eq_getElem hil,List.map_append];rfl)
                    have HST:=hid (fun u=>strip_fn x (by omega) u)
                    obtain ⟨sx,hsx⟩:∃ sx,sx=strip x:=⟨_,rfl⟩
                    rw [← hsx] at HST HTK
                    clear hx hcx hcl ea hil hsx hxl
                    go_wp2_with (first|(go_at_call 19;(with_reducible refine (HST.out _).mono ?_);rintro e w17 ⟨rfl,hw17⟩;replace hw17:=hw17.symm;subst hw17)|(at_builtin;refine app_one rfl rfl (.tmp 163) (.tmp 166) rfl w15.heap.size _ _ sx rfl HRO.out rfl hs7 (by omega) ?_;intro v9 w9 hr9 hg9 hv9;have HR9:=hid hr9;have HB9:=hid (HB16.out.grown hg9 hs7 (fun k hk=>(HRO.out.lt k hk).2));clear hr9 hg9 hv9))
                    go_roundg (n-(i+1))
                    case measure=>omega
                    case rel=>exact ⟨i+1,o2++[sx],by go_num,hlt,HR9.out,HTK.out.symm,HB9.out,rfl⟩
                  · obtain rfl:n=i:=by omega
                    have hnl4:¬ ((n:Int)<(n:Int)):=by omega
                    obtain ⟨ws,hws⟩:∃ ws,ws=nums.map strip:=⟨_,rfl⟩
                    have hta:nums.take n=nums:=List.take_of_length_le (by rw [← HN.out];exact Nat.le_refl _)
                    have HOW:=hid (show o2=ws by rw [HO2.out,hta,hws])
                    have hwl:ws.length=n:=by rw [hws,List.length_map,HN.out]
                    have hsw:sumT ws≤1500:=by rw [hws];exact Nat.le_trans (sumT_strip nums) (by have:=HSUM.out;omega)
                    have hwj:=words_join ws (by rw [hws];intro y hy;obtain ⟨x,hx,rfl⟩:=List.mem_map.1 hy;exact strip_word (HGA.out x hx).1)
                    have hbad:badsE ws=0:=by rw [hws];exact bads_strip nums HGA.out
                    obtain ⟨bb,hbl9,hpk,hup⟩:=back_all (c:=c) (by rw [← HKC.out];exact hw1) (n:=n) (m:=m) (by omega) (by omega) hm9 hwj hwl hbad HM.out.symm (by rw [HM.out];exact HEV.out) (fun y hy=>(HGH.out y hy).2) (fun y hy=>(HGH.out y hy).1) (s:=s) (by have:=HSUM.out;omega)
                    obtain ⟨J,hJ⟩:∃ J,J=joinB ws:=⟨_,rfl⟩
                    have hJl:J.length≤1600:=by rw [hJ];have h:=joinB_len ws;omega
                    rw [← hJ] at hpk
                    have hWJ:ws.map (fun w=>txt (wantZ (widthL c) (pVal w)))=out:=by
                      rw [HWANT.out,hws,List.map_map,← HKC.out]
                      refine List.map_congr_left fun x hx=>?_
                      show txt (wantZ K (pVal (strip x)))=_
                      rw [(strip_val (HGA.out x hx).1).2]
                    rw [hWJ] at hup
                    have HBL9:=hid hbl9
                    have HPK:=hid (fun (L:ByteArray) (hL:L=⟨(backL c n m).toArray⟩) (v:Value) u (hv:StrsAt u v [J,hex,s])=>show Calls Tryz.prog 20 #[.string L,v] u fun e w'=>e=.returned (.tuple #[.string ⟨bb.toArray⟩,.int .i64 0])∧Below u.heap.size u w' by
                      have h:=pack_fn (backL c n m) (back_len (by omega) (by omega)) [J,hex,s] v u hv (by intro x hx;have:=HSUM.out;simp only [List.mem_cons,List.mem_nil_iff,or_false] at hx;rcases hx with rfl | rfl | rfl<;>omega) (by show 3≤1000000;omega)
                      unfold PackQ at h
                      rw [hpk] at h
                      rw [hL]
                      exact h)
                    have HUP:=hid (fun (L:ByteArray) (hL:L=⟨(backL c n m).toArray⟩) u (hu:Tab u)=>show Calls Tryz.prog 22 #[.string L,.string ⟨bb.toArray⟩] u fun e w'=>∃ v,e=.returned (.tuple #[v,.bool true,.int .i64 0])∧RowS u.heap.size w' v [joinB out,hex,s]∧Below u.heap.size u w' by
                      have h:=unpack_fn (backL c n m) bb (back_len (by omega) (by omega)) (by have:=HBL9.out;omega) u hu
                      unfold UnpackQ at h
                      rw [hup] at h
                      rw [hL]
                      exact h)
                    have HJW:=hid (fun (v:Value) u (hv:StrsAt u v ws)=>joinB_fn ws v u hv (by omega) (by omega))
                    rw [← hJ] at HJW
                    have HJO:=hid (fun (v:Value) u (hv:StrsAt u v out)=>joinB_fn out v u hv (Nat.le_trans (sumT_le 601 out (by rw [HWANT.out];intro y hy;obtain ⟨x,_,rfl⟩:=List.mem_map.1 hy;exact want_len hK8 _)) (by omega)) (by omega))
                    have HTW:=hid (show (⟨(backL c n m).toArray⟩:ByteArray)=⟨(c::(tn++32::72::(tm++[32,97,42]))).toArray⟩ by unfold backL;rw [HTN.out,HTM.out])
                    have HRO2:=hid (show StrsAt wr (.slice a2 o2.length c2) ws by have h:=HRO.out.strs;rw [← HOW.out];exact h)
                    clear hws hta hwl hsw hwj hbad hpk hup hJ hWJ hbl9 hge
                    have HLAY:=hid (show (⟨#[c]⟩:ByteArray) ++ ⟨tn.toArray⟩ ++ ⟨#[32,72]⟩ ++ ⟨tm.toArray⟩ ++ ⟨#[32,97,42]⟩=⟨(backL c n m).toArray⟩ by
                      rw [HTW.out]
                      apply ByteArray.ext
                      simp)
                    have HSN:=hid (fun (u:World)=>show StrsAt (u.alloc (.cells #[.string ⟨J.toArray⟩,.string ⟨hex.toArray⟩,.string ⟨s.toArray⟩] 9)) (.slice (some ⟨u.heap.size,0,none⟩) 3 3) [J,hex,s] from strs_new u [J,hex,s])
                    have HSN2:=hid (fun (u:World)=>show StrsAt (u.alloc (.cells #[.string ⟨(joinB out).toArray⟩,.string ⟨hex.toArray⟩,.string ⟨s.toArray⟩] 9)) (.slice (some ⟨u.heap.size,0,none⟩) 3 3) [joinB out,hex,s] from strs_new u [joinB out,hex,s])
                    have HOL:=hid (show ([joinB out,hex,s]:List Str).length≤10000000 by show 3≤_;omega)
                    clear HTW
                    go_wp2_with (first|(go_at_call 21;(with_reducible refine (HJW.out _ _ HRO2.out).mono ?_);rintro e w20 ⟨rfl,hb20⟩;have HB20:=hid (HBX.out.trans (hb20.mono HBX.out.size));have HC20:=hid (HB16.out.trans (hb20.mono HB16.out.size));clear hb20)|(go_at_call 20;(with_reducible refine (HPK.out _ HLAY.out _ _ (HSN.out w20)).mono ?_);rintro e w21 ⟨rfl,hb21⟩;have HA21:=hid ((belowA w20 (.cells #[.string ⟨J.toArray⟩,.string ⟨hex.toArray⟩,.string ⟨s.toArray⟩] 9)).trans (hb21.mono (by simp)));have HB21:=hid (HB20.out.trans (HA21.out.mono HB20.out.size));have HC21:=hid (HC20.out.trans (HA21.out.mono HC20.out.size));clear hb21)|(go_at_call 22;(with_reducible refine (HUP.out _ HLAY.out _ (HT.out.below HB21.out)).mono ?_);rintro e w22 ⟨v22,rfl,hr22,hb22⟩;obtain ⟨a22,c22,he22⟩:=hr22.shape;subst he22;have HR22:=hid hr22;have HB22:=hid (HB21.out.trans (hb22.mono HB21.out.size));have HC22:=hid (HC21.out.trans (hb22.mono HC21.out.size));clear hr22 hb22)|(go_at_call 21;(with_reducible refine (HJO.out _ _ (HR15.out.on HC22.out).strs).mono ?_);rintro e w23 ⟨rfl,hb23⟩;have HB23:=hid (HB22.out.trans (hb23.mono HB22.out.size));have HR23:=hid (HR22.out.on hb23);clear hb23)|(go_at_call 23;refine (sameG_fn (m:=[joinB out,hex,s]) ((HR23.out.strs).below (belowA _ _)) (HSN2.out w23) HOL.out HOL.out).mono ?_;rw [decide_eq_true rfl];rintro e w24 ⟨rfl,hb24⟩;have HB24:=hid (HB23.out.trans (((belowA w23 (.cells #[.string ⟨(joinB out).toArray⟩,.string ⟨hex.toArray⟩,.string ⟨s.toArray⟩] 9)).trans (hb24.mono (by simp))).mono HB23.out.size));clear hb24)|(go_at_call 11;(with_reducible refine (HA.out _ (HT.out.below HB24.out)).mono ?_);rintro e w25 ⟨rfl,hb25⟩;have HBF:=hid (HB24.out.trans (hb25.mono HB24.out.size));clear hb25))
                    go_ret
                    exact ⟨rfl,HBF.out⟩
end Go.Proofs.YtihdndaibmgoiaaGreatDoor.Pz
namespace Go.Proofs.YtihdndaibmgoiaaGreatDoor.Pz
theorem byte_of_wf {n:Int} (h:(Lit.int .u8 n).wf=true):∃ y:UInt8,n=(y.toNat:Nat):=by
 simp only [Lit.wf,IntKind.min,IntKind.max,IntKind.signed,IntKind.bits,Bool.and_eq_true] at h
 have h2:0≤n∧n<256:=by
  obtain ⟨a,b⟩:=h
  simp at a b
  omega
 refine ⟨UInt8.ofNat n.toNat,?_⟩
 have e:(UInt8.ofNat n.toNat).toNat=n.toNat % 256:=UInt8.toNat_ofNat'
 rw [e]
 omega
end Go.Proofs.YtihdndaibmgoiaaGreatDoor.Pz
