/-
  Part K20 of the proofs of this seat, merged by a program out of 2 texts; remarks are struck.
-/
import Derived.Test.YtihdndaibmgoiaaGreatDoorK19
namespace Go.Proofs.YtihdndaibmgoiaaGreatDoor.Pz
open Go.RowKit
attribute [local go_sem] Oper.semAt_some
def optK:Option Str→Sum Int Str
 | none=>.inl 11
 | some x=>.inr x
set_option maxRecDepth 1000000 in
set_option maxHeartbeats 16000000 in
theorem oneR_fn (c:UInt8) (p:Bool) (n:Int) (hok:FldOk ⟨c,p,n⟩) (h120:c≠120) (h64:c≠64) (s:Str) (hs:s.length≤100000) (w:World) :
    Calls Tryz.prog 100 #[.agg #[.int .u8 (c.toNat:Nat),.bool p,.int .i64 n],.string ⟨s.toArray⟩] w (OneR (packOne ⟨c,p,n⟩ s) w):=by
  have hn:-2≤n∧n≤9999:=⟨hok.2.2.1,hok.2.2.2.1⟩
  have hkn:knownL c=true:=hok.1
  obtain ⟨w0,hw0⟩:∃ w0,w0=w.alloc (.cells #[.int .u8 (c.toNat:Nat),.bool p,.int .i64 n] 103):=⟨_,rfl⟩
  have HB0:=hid (show Below w.heap.size w w0 by rw [hw0];exact (Below.refl _ _).alloc (Nat.le_refl _) _)
  have hz0:w0.heap.size=w.heap.size+1:=by rw [hw0];simp
  have HZ0:=hid (show w.heap.size≤w0.heap.size by omega)
  have HW0:=hid hw0
  clear hw0 hz0 hok
  by_cases hc:c=97
  · as_aux_lemma =>
      have y97:((c.toNat:Int) == 97)=true:=byte_is hc rfl
      have y65:((c.toNat:Int) == 65)=false:=byte_ne (k:=65) 65 (by rw [hc];decide) rfl
      have y104:((c.toNat:Int) == 104)=false:=byte_ne (k:=104) 104 (by rw [hc];decide) rfl
      have y72:((c.toNat:Int) == 72)=false:=byte_ne (k:=72) 72 (by rw [hc];decide) rfl
      have y98:((c.toNat:Int) == 98)=false:=byte_ne (k:=98) 98 (by rw [hc];decide) rfl
      have y66:((c.toNat:Int) == 66)=false:=byte_ne (k:=66) 66 (by rw [hc];decide) rfl
      have HP:=hid (show packOne ⟨c,p,n⟩ s=.inr (s.take (cntT ⟨c,p,n⟩ s)++List.replicate (cntT ⟨c,p,n⟩ s-s.length) (if c == 65 then 32 else 0)) by unfold packOne textedE;dsimp only;rw [hc,if_pos (show textL 97=true from rfl),if_pos (show ((97:UInt8) == 97 || (97:UInt8) == 65)=true by decide)])
      obtain ⟨X,hX⟩:∃ X,X=s.take (cntT ⟨c,p,n⟩ s)++List.replicate (cntT ⟨c,p,n⟩ s-s.length) (if c == 65 then (32:UInt8) else 0):=⟨_,rfl⟩
      have HT:=hid (textR_fn c p n hn s hs w0)
      rw [← hX] at HP HT
      rw [HW0.out] at HT
      clear hX hc hn
      go_enter Tryz.func100,Tryz.ntmps100
      go_wp2_with (go_at_call 140;(with_reducible refine HT.out.mono ?_);rintro e w1 ⟨v,rfl,hr,hb⟩;rw [← HW0.out] at hr hb;have HR:=hid hr;have HB:=hid hb;clear hr hb)
      go_ret2
      exact ⟨_,_,X,rfl,HR.out.mono HZ0.out,HB0.out.trans (HB.out.mono HZ0.out),by rw [HP.out];exact ⟨rfl,rfl⟩⟩
  have N97:=hid hc
  clear hc
  by_cases hc:c=65
  · as_aux_lemma =>
      have y97:((c.toNat:Int) == 97)=false:=byte_ne (k:=97) 97 (by rw [hc];decide) rfl
      have y65:((c.toNat:Int) == 65)=true:=byte_is hc rfl
      have y104:((c.toNat:Int) == 104)=false:=byte_ne (k:=104) 104 (by rw [hc];decide) rfl
      have y72:((c.toNat:Int) == 72)=false:=byte_ne (k:=72) 72 (by rw [hc];decide) rfl
      have y98:((c.toNat:Int) == 98)=false:=byte_ne (k:=98) 98 (by rw [hc];decide) rfl
      have y66:((c.toNat:Int) == 66)=false:=byte_ne (k:=66) 66 (by rw [hc];decide) rfl
      have HP:=hid (show packOne ⟨c,p,n⟩ s=.inr (s.take (cntT ⟨c,p,n⟩ s)++List.replicate (cntT ⟨c,p,n⟩ s-s.length) (if c == 65 then 32 else 0)) by unfold packOne textedE;dsimp only;rw [hc,if_pos (show textL 65=true from rfl),if_pos (show ((65:UInt8) == 97 || (65:UInt8) == 65)=true by decide)])
      obtain ⟨X,hX⟩:∃ X,X=s.take (cntT ⟨c,p,n⟩ s)++List.replicate (cntT ⟨c,p,n⟩ s-s.length) (if c == 65 then (32:UInt8) else 0):=⟨_,rfl⟩
      have HT:=hid (textR_fn c p n hn s hs w0)
      rw [← hX] at HP HT
      rw [HW0.out] at HT
      clear hX hc hn
      go_enter Tryz.func100,Tryz.ntmps100
      go_wp2_with (go_at_call 140;(with_reducible refine HT.out.mono ?_);rintro e w1 ⟨v,rfl,hr,hb⟩;rw [← HW0.out] at hr hb;have HR:=hid hr;have HB:=hid hb;clear hr hb)
      go_ret2
      exact ⟨_,_,X,rfl,HR.out.mono HZ0.out,HB0.out.trans (HB.out.mono HZ0.out),by rw [HP.out];exact ⟨rfl,rfl⟩⟩
  have N65:=hid hc
  clear hc
  by_cases hc:c=104
  · as_aux_lemma =>
      have y97:((c.toNat:Int) == 97)=false:=byte_ne (k:=97) 97 (by rw [hc];decide) rfl
      have y65:((c.toNat:Int) == 65)=false:=byte_ne (k:=65) 65 (by rw [hc];decide) rfl
      have y104:((c.toNat:Int) == 104)=true:=byte_is hc rfl
      have y72:((c.toNat:Int) == 72)=false:=byte_ne (k:=72) 72 (by rw [hc];decide) rfl
      have y98:((c.toNat:Int) == 98)=false:=byte_ne (k:=98) 98 (by rw [hc];decide) rfl
      have y66:((c.toNat:Int) == 66)=false:=byte_ne (k:=66) 66 (by rw [hc];decide) rfl
      obtain ⟨D,hD⟩:∃ D,D=digE c (cntT ⟨c,p,n⟩ s) 0 s (List.replicate ((cntT ⟨c,p,n⟩ s+1) / 2) 0):=⟨_,rfl⟩
      have HP:=hid (show packOne ⟨c,p,n⟩ s=optK D by
        unfold packOne textedE
        dsimp only
        rw [if_pos (show textL c=true by rw [hc];rfl),if_neg (show ¬ ((c == 97 || c == 65)=true) by rw [hc];decide),show lenL c (cntT ⟨c,p,n⟩ s)=(cntT ⟨c,p,n⟩ s+1) / 2 by rw [hc];rfl,← hD]
        cases D<;>rfl)
      have HT:=hid (packed2R_fn c p n (by rw [hc];rfl) (by rw [hc];rfl) s hs ⟨hn.1,by omega⟩ w0)
      rw [← hD] at HT
      unfold PkdQ at HT
      rw [HW0.out] at HT
      clear hc hn hD
      cases D with
      | none=>
        have HT2:=hid (show _ from HT.out)
        simp only [Option.isSome_none] at HT2
        go_enter Tryz.func100,Tryz.ntmps100
        go_wp2_with (go_at_call 103;(with_reducible refine HT2.out.mono ?_);rintro e w1 ⟨v,rfl,hr,hb⟩;rw [← HW0.out] at hr hb;have HR:=hid hr;have HB:=hid hb;clear hr hb)
        go_ret2
        exact ⟨_,_,[],rfl,RowX.nil _ _,HB0.out.trans (HB.out.mono HZ0.out),by rw [HP.out];rfl⟩
      | some X=>
        have HT2:=hid (show _ from HT.out)
        simp only [Option.isSome_some] at HT2
        go_enter Tryz.func100,Tryz.ntmps100
        go_wp2_with (go_at_call 103;(with_reducible refine HT2.out.mono ?_);rintro e w1 ⟨v,rfl,hr,hb⟩;rw [← HW0.out] at hr hb;have HR:=hid hr;have HB:=hid hb;clear hr hb)
        go_ret2
        exact ⟨_,_,X,rfl,HR.out.toX.mono HZ0.out,HB0.out.trans (HB.out.mono HZ0.out),by rw [HP.out];exact ⟨rfl,rfl⟩⟩
  have N104:=hid hc
  clear hc
  by_cases hc:c=72
  · as_aux_lemma =>
      have y97:((c.toNat:Int) == 97)=false:=byte_ne (k:=97) 97 (by rw [hc];decide) rfl
      have y65:((c.toNat:Int) == 65)=false:=byte_ne (k:=65) 65 (by rw [hc];decide) rfl
      have y104:((c.toNat:Int) == 104)=false:=byte_ne (k:=104) 104 (by rw [hc];decide) rfl
      have y72:((c.toNat:Int) == 72)=true:=byte_is hc rfl
      have y98:((c.toNat:Int) == 98)=false:=byte_ne (k:=98) 98 (by rw [hc];decide) rfl
      have y66:((c.toNat:Int) == 66)=false:=byte_ne (k:=66) 66 (by rw [hc];decide) rfl
      obtain ⟨D,hD⟩:∃ D,D=digE c (cntT ⟨c,p,n⟩ s) 0 s (List.replicate ((cntT ⟨c,p,n⟩ s+1) / 2) 0):=⟨_,rfl⟩
      have HP:=hid (show packOne ⟨c,p,n⟩ s=optK D by
        unfold packOne textedE
        dsimp only
        rw [if_pos (show textL c=true by rw [hc];rfl),if_neg (show ¬ ((c == 97 || c == 65)=true) by rw [hc];decide),show lenL c (cntT ⟨c,p,n⟩ s)=(cntT ⟨c,p,n⟩ s+1) / 2 by rw [hc];rfl,← hD]
        cases D<;>rfl)
      have HT:=hid (packed2R_fn c p n (by rw [hc];rfl) (by rw [hc];rfl) s hs ⟨hn.1,by omega⟩ w0)
      rw [← hD] at HT
      unfold PkdQ at HT
      rw [HW0.out] at HT
      clear hc hn hD
      cases D with
      | none=>
        have HT2:=hid (show _ from HT.out)
        simp only [Option.isSome_none] at HT2
        go_enter Tryz.func100,Tryz.ntmps100
        go_wp2_with (go_at_call 103;(with_reducible refine HT2.out.mono ?_);rintro e w1 ⟨v,rfl,hr,hb⟩;rw [← HW0.out] at hr hb;have HR:=hid hr;have HB:=hid hb;clear hr hb)
        go_ret2
        exact ⟨_,_,[],rfl,RowX.nil _ _,HB0.out.trans (HB.out.mono HZ0.out),by rw [HP.out];rfl⟩
      | some X=>
        have HT2:=hid (show _ from HT.out)
        simp only [Option.isSome_some] at HT2
        go_enter Tryz.func100,Tryz.ntmps100
        go_wp2_with (go_at_call 103;(with_reducible refine HT2.out.mono ?_);rintro e w1 ⟨v,rfl,hr,hb⟩;rw [← HW0.out] at hr hb;have HR:=hid hr;have HB:=hid hb;clear hr hb)
        go_ret2
        exact ⟨_,_,X,rfl,HR.out.toX.mono HZ0.out,HB0.out.trans (HB.out.mono HZ0.out),by rw [HP.out];exact ⟨rfl,rfl⟩⟩
  have N72:=hid hc
  clear hc
  by_cases hc:c=98
  · as_aux_lemma =>
      have y97:((c.toNat:Int) == 97)=false:=byte_ne (k:=97) 97 (by rw [hc];decide) rfl
      have y65:((c.toNat:Int) == 65)=false:=byte_ne (k:=65) 65 (by rw [hc];decide) rfl
      have y104:((c.toNat:Int) == 104)=false:=byte_ne (k:=104) 104 (by rw [hc];decide) rfl
      have y72:((c.toNat:Int) == 72)=false:=byte_ne (k:=72) 72 (by rw [hc];decide) rfl
      have y98:((c.toNat:Int) == 98)=true:=byte_is hc rfl
      have y66:((c.toNat:Int) == 66)=false:=byte_ne (k:=66) 66 (by rw [hc];decide) rfl
      obtain ⟨D,hD⟩:∃ D,D=digE c (cntT ⟨c,p,n⟩ s) 0 s (List.replicate ((cntT ⟨c,p,n⟩ s+7) / 8) 0):=⟨_,rfl⟩
      have HP:=hid (show packOne ⟨c,p,n⟩ s=optK D by
        unfold packOne textedE
        dsimp only
        rw [if_pos (show textL c=true by rw [hc];rfl),if_neg (show ¬ ((c == 97 || c == 65)=true) by rw [hc];decide),show lenL c (cntT ⟨c,p,n⟩ s)=(cntT ⟨c,p,n⟩ s+7) / 8 by rw [hc];rfl,← hD]
        cases D<;>rfl)
      have HT:=hid (packed8R_fn c p n (by rw [hc];rfl) (by rw [hc];rfl) s hs ⟨hn.1,by omega⟩ w0)
      rw [← hD] at HT
      unfold PkdQ at HT
      rw [HW0.out] at HT
      clear hc hn hD
      cases D with
      | none=>
        have HT2:=hid (show _ from HT.out)
        simp only [Option.isSome_none] at HT2
        go_enter Tryz.func100,Tryz.ntmps100
        go_wp2_with (go_at_call 103;(with_reducible refine HT2.out.mono ?_);rintro e w1 ⟨v,rfl,hr,hb⟩;rw [← HW0.out] at hr hb;have HR:=hid hr;have HB:=hid hb;clear hr hb)
        go_ret2
        exact ⟨_,_,[],rfl,RowX.nil _ _,HB0.out.trans (HB.out.mono HZ0.out),by rw [HP.out];rfl⟩
      | some X=>
        have HT2:=hid (show _ from HT.out)
        simp only [Option.isSome_some] at HT2
        go_enter Tryz.func100,Tryz.ntmps100
        go_wp2_with (go_at_call 103;(with_reducible refine HT2.out.mono ?_);rintro e w1 ⟨v,rfl,hr,hb⟩;rw [← HW0.out] at hr hb;have HR:=hid hr;have HB:=hid hb;clear hr hb)
        go_ret2
        exact ⟨_,_,X,rfl,HR.out.toX.mono HZ0.out,HB0.out.trans (HB.out.mono HZ0.out),by rw [HP.out];exact ⟨rfl,rfl⟩⟩
  have N98:=hid hc
  clear hc
  by_cases hc:c=66
  · as_aux_lemma =>
      have y97:((c.toNat:Int) == 97)=false:=byte_ne (k:=97) 97 (by rw [hc];decide) rfl
      have y65:((c.toNat:Int) == 65)=false:=byte_ne (k:=65) 65 (by rw [hc];decide) rfl
      have y104:((c.toNat:Int) == 104)=false:=byte_ne (k:=104) 104 (by rw [hc];decide) rfl
      have y72:((c.toNat:Int) == 72)=false:=byte_ne (k:=72) 72 (by rw [hc];decide) rfl
      have y98:((c.toNat:Int) == 98)=false:=byte_ne (k:=98) 98 (by rw [hc];decide) rfl
      have y66:((c.toNat:Int) == 66)=true:=byte_is hc rfl
      obtain ⟨D,hD⟩:∃ D,D=digE c (cntT ⟨c,p,n⟩ s) 0 s (List.replicate ((cntT ⟨c,p,n⟩ s+7) / 8) 0):=⟨_,rfl⟩
      have HP:=hid (show packOne ⟨c,p,n⟩ s=optK D by
        unfold packOne textedE
        dsimp only
        rw [if_pos (show textL c=true by rw [hc];rfl),if_neg (show ¬ ((c == 97 || c == 65)=true) by rw [hc];decide),show lenL c (cntT ⟨c,p,n⟩ s)=(cntT ⟨c,p,n⟩ s+7) / 8 by rw [hc];rfl,← hD]
        cases D<;>rfl)
      have HT:=hid (packed8R_fn c p n (by rw [hc];rfl) (by rw [hc];rfl) s hs ⟨hn.1,by omega⟩ w0)
      rw [← hD] at HT
      unfold PkdQ at HT
      rw [HW0.out] at HT
      clear hc hn hD
      cases D with
      | none=>
        have HT2:=hid (show _ from HT.out)
        simp only [Option.isSome_none] at HT2
        go_enter Tryz.func100,Tryz.ntmps100
        go_wp2_with (go_at_call 103;(with_reducible refine HT2.out.mono ?_);rintro e w1 ⟨v,rfl,hr,hb⟩;rw [← HW0.out] at hr hb;have HR:=hid hr;have HB:=hid hb;clear hr hb)
        go_ret2
        exact ⟨_,_,[],rfl,RowX.nil _ _,HB0.out.trans (HB.out.mono HZ0.out),by rw [HP.out];rfl⟩
      | some X=>
        have HT2:=hid (show _ from HT.out)
        simp only [Option.isSome_some] at HT2
        go_enter Tryz.func100,Tryz.ntmps100
        go_wp2_with (go_at_call 103;(with_reducible refine HT2.out.mono ?_);rintro e w1 ⟨v,rfl,hr,hb⟩;rw [← HW0.out] at hr hb;have HR:=hid hr;have HB:=hid hb;clear hr hb)
        go_ret2
        exact ⟨_,_,X,rfl,HR.out.toX.mono HZ0.out,HB0.out.trans (HB.out.mono HZ0.out),by rw [HP.out];exact ⟨rfl,rfl⟩⟩
  have N66:=hid hc
  clear hc
  have htx:textL c=false:=by
    unfold textL
    rw [beq_eq_false_iff_ne.2 N97.out,beq_eq_false_iff_ne.2 N65.out,beq_eq_false_iff_ne.2 N104.out,beq_eq_false_iff_ne.2 N72.out,beq_eq_false_iff_ne.2 N98.out,beq_eq_false_iff_ne.2 N66.out]
    rfl
  have hw1:=num_width hkn htx h120 h64
  have y97:((c.toNat:Int) == 97)=false:=byte_ne (k:=97) 97 N97.out rfl
  have y65:((c.toNat:Int) == 65)=false:=byte_ne (k:=65) 65 N65.out rfl
  have y104:((c.toNat:Int) == 104)=false:=byte_ne (k:=104) 104 N104.out rfl
  have y72:((c.toNat:Int) == 72)=false:=byte_ne (k:=72) 72 N72.out rfl
  have y98:((c.toNat:Int) == 98)=false:=byte_ne (k:=98) 98 N98.out rfl
  have y66:((c.toNat:Int) == 66)=false:=byte_ne (k:=66) 66 N66.out rfl
  have HT:=hid (numbersR_fn c p n hn hw1 s hs w0)
  have HP:=hid (show packOne ⟨c,p,n⟩ s=numberedE ⟨c,p,n⟩ s by unfold packOne;rw [if_neg (by rw [htx];simp)])
  obtain ⟨D,hD⟩:∃ D,D=numberedE ⟨c,p,n⟩ s:=⟨_,rfl⟩
  rw [← hD] at HT HP
  unfold OneR at HT
  rw [HW0.out] at HT
  clear htx hw1 hn hD h120 h64 hkn
  go_enter Tryz.func100,Tryz.ntmps100
  go_wp2_with (go_at_call 141;(with_reducible refine HT.out.mono ?_);rintro e w1 ⟨v,z,x,rfl,hr,hb,hm⟩;rw [← HW0.out] at hr hb;have HR:=hid hr;have HB:=hid hb;have HM:=hid hm;clear hr hb hm)
  go_ret2
  exact ⟨v,z,x,rfl,HR.out.mono HZ0.out,HB0.out.trans (HB.out.mono HZ0.out),by rw [HP.out];exact HM.out⟩
end Go.Proofs.YtihdndaibmgoiaaGreatDoor.Pz
namespace Go.Proofs.YtihdndaibmgoiaaGreatDoor.Pz
open Go.RowKit
attribute [local go_sem] Oper.semAt_some
def packV:Sum Int Str→Str×Int
 | .inl e=>([],e)
 | .inr b=>(b,0)
theorem putE_nil (b:Str) (to':Nat):putE b to' []=b++List.replicate (to'-b.length) 0:=by
 have h:putE b to' []=(b++List.replicate (to'-b.length) 0).take to'++[]++(b++List.replicate (to'-b.length) 0).drop (to'+0):=rfl
 rw [h,List.append_nil,Nat.add_zero,List.take_append_drop]
theorem putE_more (b:Str) (k:Nat):putE b b.length (List.replicate k 0)=b++List.replicate k 0:=by
 have h:putE b b.length (List.replicate k 0)=(b++List.replicate (b.length-b.length) 0).take b.length++List.replicate k 0++(b++List.replicate (b.length-b.length) 0).drop (b.length+(List.replicate k (0:UInt8)).length):=rfl
 rw [h,Nat.sub_self,List.replicate_zero,List.append_nil,List.take_length,List.drop_of_length_le (by omega),List.append_nil]
theorem cell_lt {w:World} {b o:Nat} {v:Value} (h:w.cell? ⟨b,o,none⟩=some v):b<w.heap.size:=by
 rcases Nat.lt_or_ge b w.heap.size with h1 | h1
 ·exact h1
 ·unfold World.cell? at h
  rw [Array.getElem?_eq_none h1] at h
  cases h
theorem strs_tail {w:World} {a:Option Addr} {n c:Nat} {x:Str} {l:List Str} (h:StrsAt w (.slice a n c) (x::l)):∃ b o,a=some ⟨b,o,none⟩∧n=l.length+1∧n≤c∧w.cell? ⟨b,o,none⟩=some (.string ⟨x.toArray⟩)∧∀ q,q=(if c=1 then (⟨b,o,none⟩:Addr) else ⟨b,o+1,none⟩)→StrsAt w (.slice (some q) l.length (c-1)) l:=by
 obtain ⟨a',c',e,hn⟩:=strsAt_off h
 obtain ⟨a2,cap2,e2,hcap2,hcell2⟩:=id h
 simp only [Value.slice.injEq] at e e2
 obtain ⟨rfl,rfl,rfl⟩:=e
 obtain ⟨rfl,-,rfl⟩:=e2
 obtain ⟨b,o,h1,h2⟩:=hn 0 (by simp)
 subst h1
 refine ⟨b,o,rfl,rfl,hcap2,by simpa using h2,fun q hq=>⟨_,_,rfl,by simp only [List.length_cons] at hcap2;omega,fun i hi=>⟨q,rfl,?_,?_⟩⟩⟩
 ·obtain ⟨p,hp,hb,_⟩:=hcell2 0 (by simp)
  have hpb:b=p.block:=by cases hp;rfl
  rw [hq]
  split<;>(show b<_;omega)
 ·obtain ⟨b',o',h3,h4⟩:=hn (i+1) (by simp;omega)
  have e3:=Option.some.inj h3
  simp only [Addr.mk.injEq,and_true] at e3
  obtain ⟨rfl,rfl⟩:=e3
  have hc1:c≠1:=by simp only [List.length_cons] at hcap2;omega
  rw [hq,if_neg hc1,add_none,show o+1+i=o+(i+1) by omega]
  simpa using h4
set_option maxRecDepth 1000000 in
set_option maxHeartbeats 16000000 in
theorem packR_fn (y:Str) (hy:y.length≤100000) (args:List Str) (va:Value) (w:World) (hva:StrsAt w va args) (hx:∀ x∈args,x.length≤100000) (hal:args.length≤1000000) :
    Calls Tryz.prog 49 #[.string ⟨y.toArray⟩,va] w (PackQ y args w):=by
  have hrd:=readL_fn y false hy w
  rw [readG_packing] at hrd
  unfold ReadQ at hrd
  unfold PackQ
  by_cases hv:packingE y=true
  case neg=>
    have HRS:=hid (show packRes y args=([],2) by unfold packRes;rw [if_neg hv])
    rw [if_neg hv] at hrd
    have HRD:=hid (show Calls Tryz.prog 82 #[.string ⟨y.toArray⟩,.bool false] w fun e w'=>∃ v,e=.returned (.tuple #[v,.bool false])∧RowD w.heap.size w' v []∧Below w.heap.size w w' from hrd)
    clear hrd hv hva hx hal
    go_enter Tryz.func49,Tryz.ntmps49
    go_wp2_with (go_at_call 82;(with_reducible refine HRD.out.mono ?_);rintro e w1 ⟨v,rfl,hr1,hb1⟩;have HB1:=hid hb1;clear hr1 hb1)
    go_ret2
    exact ⟨by rw [HRS.out];rfl,HB1.out⟩
  rw [if_pos hv] at hrd
  obtain ⟨l,hl⟩:∃ l,l=fldsE y:=⟨_,rfl⟩
  have HOK:=hid (show ∀ f∈l,FldOk f by rw [hl];exact packing_ok hv)
  obtain ⟨U,hU⟩:∃ U,U=packGo l args [] 0:=⟨_,rfl⟩
  have HRS:=hid (show packRes y args=packV U by unfold packRes;rw [if_pos hv,hU,hl];rfl)
  have hl9:l.length≤100000:=by rw [hl];exact Nat.le_trans (flds_len _ y (Nat.le_refl _)) hy
  rw [← hl] at hrd
  have HRD:=hid (show Calls Tryz.prog 82 #[.string ⟨y.toArray⟩,.bool false] w fun e w'=>∃ v,e=.returned (.tuple #[v,.bool true])∧RowD w.heap.size w' v l∧Below w.heap.size w w' from hrd)
  obtain ⟨n,hn⟩:∃ n,n=l.length:=⟨_,rfl⟩
  have HNL:=hid hn
  have HU:=hid hU
  have HVA:=hid hva
  have HX:=hid hx
  have HAL:=hid hal
  clear hrd hv hl hn hU hva hx hal
  go_enter Tryz.func49,Tryz.ntmps49
  go_wp2_with (go_at_call 82;(with_reducible refine HRD.out.mono ?_);rintro e w1 ⟨v,rfl,hr1,hb1⟩;have HB1:=hid hb1;obtain ⟨vb,vc,hve⟩:=hr1.shape;subst hve;rw [← HNL.out] at hr1;have HR1:=hid hr1;clear hr1 hb1)
  obtain ⟨g0,hg0⟩:∃ g0,g0=w1.heap.size:=⟨_,rfl⟩
  obtain ⟨w2,hw2⟩:∃ w2,w2=w1.alloc (.cells #[.slice none 0 0,.int .i64 0] 117):=⟨_,rfl⟩
  rw [← hw2,← hg0]
  have HP2:=hid (show PkR g0 w2 (.slice none 0 0) [] 0 from ⟨by rw [hw2,hg0];exact heap_alloc_new _ _,RowY.nil _ _⟩)
  have HB2:=hid (show Below g0 w1 w2 by rw [hw2,hg0];exact belowA _ _)
  have HG0:=hid hg0
  clear hw2 hg0
  go_loopg [1,26] n (fun k av iv wr=>∃ (i a:Nat) (v:Value) (bb:Str) (rest:List Str),iv=.int .i64 (i:Nat)∧i≤n∧StrsAt w av rest∧PkR g0 wr v bb a∧bb.length≤65536∧a≤65536∧(∀ x∈rest,x.length≤100000)∧rest.length≤1000000∧U=packGo (l.drop i) rest bb a∧Below g0 w1 wr∧k=n-i)
  case atStart=>exact ⟨0,0,_,[],args,rfl,Nat.zero_le _,HVA.out,HP2.out,Nat.zero_le _,Nat.zero_le _,HX.out,HAL.out,by rw [List.drop_zero];exact HU.out,HB2.out,rfl⟩
  case round=>
    obtain ⟨i,a,v,bb,rest,rfl,hin,hsr,hpk,hb9,ha9,hxr,hrl,hun,hbl,hk⟩:=hrel
    replace hk:=hk.symm
    subst hk
    obtain ⟨aa,ca,he,hcap0,hcell0⟩:=id hsr
    subst he
    obtain ⟨ab,cb,hve⟩:=hpk.row.shape
    subst hve
    have HSR:=hid hsr
    have HPK:=hid hpk
    have HXR:=hid hxr
    have HUN:=hid hun
    have HBL:=hid hbl
    have hgl:=hpk.lt
    have hs1:=HB1.out.size
    have hs4:=hbl.size
    have p0:=hpk.c0
    clear hsr hcell0 hpk hxr hun hbl
    rcases Nat.lt_or_ge i n with hlt | hge
    · have hltI:(i:Int)<(n:Int):=by omega
      have hil:i<l.length:=by rw [← HNL.out];exact hlt
      obtain ⟨g,hge,_,hgl2,f0,f1,f2⟩:=RowD.at HR1.out hil
      subst hge
      obtain ⟨f,hf⟩:∃ f,f=l[i]:=⟨_,rfl⟩
      rw [← hf] at f0 f1 f2
      have HFO:=hid (HOK.out f (by rw [hf];exact List.getElem_mem hil))
      have HDR:=hid (show l.drop i=f::l.drop (i+1) by rw [hf];exact List.drop_eq_getElem_cons hil)
      have g0c:=(HBL.out.cell (p:=⟨g,i*3,none⟩) (by rw [HG0.out];exact hgl2)).trans f0
      have g1c:=(HBL.out.cell (p:=⟨g,i*3+1,none⟩) (by rw [HG0.out];exact hgl2)).trans f1
      have g2c:=(HBL.out.cell (p:=⟨g,i*3+2,none⟩) (by rw [HG0.out];exact hgl2)).trans f2
      obtain ⟨c,p,q⟩:=f
      dsimp only at g0c g1c g2c
      clear hf f0 f1 f2
      rw [HDR.out,packGo_cons] at HUN
      dsimp only at HUN
      obtain ⟨wf,hwf⟩:∃ wf,wf=wr.alloc (.cells #[.int .u8 (c.toNat:Nat),.bool p,.int .i64 q] 103):=⟨_,rfl⟩
      have HBW:=hid (show Below wr.heap.size wr wf by rw [hwf];exact belowA _ _)
      have HPF:=hid (HPK.out.on HBW.out)
      have HZF:=hid (show wf.heap.size=wr.heap.size+1 by rw [hwf];simp)
      have HWF:=hid hwf
      have HBF:=hid (HBL.out.trans (HBW.out.mono (by omega)))
      have q0:wf.cell? ⟨g0,0,none⟩=some (.slice ab bb.length cb):=HPF.out.c0
      rw [HWF.out] at q0
      clear HDR hwf
      have hcr:-2≤q∧q≤9999:=⟨HFO.out.2.2.1,HFO.out.2.2.2.1⟩
      by_cases hc:c=120
      · as_aux_lemma =>
          have y120:((c.toNat:Int) == 120)=true:=byte_is hc rfl
          obtain ⟨N,hN⟩:∃ N,N=oneC ⟨c,p,q⟩:=⟨_,rfl⟩
          have HLIM:=hid (show U=if 65536<(putE bb a (List.replicate N 0)).length then .inl 4 else packGo (l.drop (i+1)) rest (putE bb a (List.replicate N 0)) (a+N) by rw [HUN.out,if_neg (show ¬ ((c == 64)=true) by rw [hc];decide),if_pos (show (c == 120)=true by rw [hc];decide),hN])
          have hN9:N≤9999:=by rw [hN];unfold oneC;dsimp only;split<;>omega
          by_cases hq0:q<0
          · have hN1:N=1:=by rw [hN];unfold oneC;dsimp only;rw [if_pos hq0]
            subst hN1
            clear hN hc
            obtain ⟨z,hz⟩:∃ z,z=putE bb a (List.replicate 1 0):=⟨_,rfl⟩
            have HZ:=hid hz
            have hzl:z.length=max (max bb.length a) (a+1):=by rw [hz,putE_len,List.length_replicate]
            rw [← hz] at HLIM
            clear hz
            by_cases hlim:65536<z.length
            · have hlI:(65536:Int)<(z.length:Int):=by omega
              have HO:=hid (show U=.inl 4 by rw [HLIM.out,if_pos hlim])
              go_wp2_with (first|(at_make;refine mk_zero _ rfl _ _ rfl 1 _ _ rfl rfl rfl rfl (by omega) ?_;rw [← HWF.out];intro w4 hr4 hb4;have HR4:=hid hr4;have HB4:=hid hb4;clear hr4 hb4)|(go_at_call 99;refine (putR_fn g0 _ bb a _ _ _ (HPF.out.on HB4.out) (HR4.out.toX.mono (by rw [HZF.out];omega)) (fun k hk e=>by have h1:=(HPF.out.row.lt k e).1;have h2:=(HR4.out.lt k hk).2;omega) (by omega) (by omega) (by rw [List.length_replicate];omega)).mono ?_;rintro e w5 ⟨rfl,⟨v5,hp5⟩,hb5⟩;rw [List.length_replicate,← HZ.out] at hp5;obtain ⟨a5,c5,he5⟩:=hp5.row.shape;subst he5;have HP5:=hid hp5;have r0:=hp5.c0;have HB5:=hid ((HBF.out.trans (HB4.out.mono (by rw [HZF.out];omega))).trans hb5);clear hp5 hb5))
              go_ret2
              exact ⟨by rw [HRS.out,HO.out];rfl,HB1.out.trans (HB5.out.mono (by rw [HG0.out];exact HB1.out.size))⟩
            · have hlI:¬ ((65536:Int)<(z.length:Int)):=by omega
              have HO:=hid (show U=packGo (l.drop (i+1)) rest z (a+1) by rw [HLIM.out,if_neg hlim])
              go_wp2_with (first|(at_make;refine mk_zero _ rfl _ _ rfl 1 _ _ rfl rfl rfl rfl (by omega) ?_;rw [← HWF.out];intro w4 hr4 hb4;have HR4:=hid hr4;have HB4:=hid hb4;clear hr4 hb4)|(go_at_call 99;refine (putR_fn g0 _ bb a _ _ _ (HPF.out.on HB4.out) (HR4.out.toX.mono (by rw [HZF.out];omega)) (fun k hk e=>by have h1:=(HPF.out.row.lt k e).1;have h2:=(HR4.out.lt k hk).2;omega) (by omega) (by omega) (by rw [List.length_replicate];omega)).mono ?_;rintro e w5 ⟨rfl,⟨v5,hp5⟩,hb5⟩;rw [List.length_replicate,← HZ.out] at hp5;obtain ⟨a5,c5,he5⟩:=hp5.row.shape;subst he5;have HP5:=hid hp5;have r0:=hp5.c0;have HB5:=hid ((HBF.out.trans (HB4.out.mono (by rw [HZF.out];omega))).trans hb5);clear hp5 hb5))
              go_roundg (n-(i+1))
              case measure=>omega
              case rel=>exact ⟨i+1,a+1,_,z,rest,by go_num,hlt,HSR.out,HP5.out,by omega,by omega,HXR.out,hrl,HO.out,HB5.out,rfl⟩
          · obtain ⟨m,hm⟩:∃ m:Nat,q=(m:Int):=⟨q.toNat,by omega⟩
            have hN1:N=m:=by rw [hN];unfold oneC;dsimp only;rw [if_neg hq0];omega
            subst hN1
            have hqn:q=(N:Int):=hm
            rw [hqn] at hq0 g2c HWF q0 HFO hcr
            clear hm hqn
            clear hN hc
            obtain ⟨z,hz⟩:∃ z,z=putE bb a (List.replicate N 0):=⟨_,rfl⟩
            have HZ:=hid hz
            have hzl:z.length=max (max bb.length a) (a+N):=by rw [hz,putE_len,List.length_replicate]
            rw [← hz] at HLIM
            clear hz
            by_cases hlim:65536<z.length
            · have hlI:(65536:Int)<(z.length:Int):=by omega
              have HO:=hid (show U=.inl 4 by rw [HLIM.out,if_pos hlim])
              go_wp2_with (first|(at_make;refine mk_zero _ rfl _ _ rfl N _ _ rfl rfl rfl rfl (by omega) ?_;rw [← HWF.out];intro w4 hr4 hb4;have HR4:=hid hr4;have HB4:=hid hb4;clear hr4 hb4)|(go_at_call 99;refine (putR_fn g0 _ bb a _ _ _ (HPF.out.on HB4.out) (HR4.out.toX.mono (by rw [HZF.out];omega)) (fun k hk e=>by have h1:=(HPF.out.row.lt k e).1;have h2:=(HR4.out.lt k hk).2;omega) (by omega) (by omega) (by rw [List.length_replicate];omega)).mono ?_;rintro e w5 ⟨rfl,⟨v5,hp5⟩,hb5⟩;rw [List.length_replicate,← HZ.out] at hp5;obtain ⟨a5,c5,he5⟩:=hp5.row.shape;subst he5;have HP5:=hid hp5;have r0:=hp5.c0;have HB5:=hid ((HBF.out.trans (HB4.out.mono (by rw [HZF.out];omega))).trans hb5);clear hp5 hb5))
              go_ret2
              exact ⟨by rw [HRS.out,HO.out];rfl,HB1.out.trans (HB5.out.mono (by rw [HG0.out];exact HB1.out.size))⟩
            · have hlI:¬ ((65536:Int)<(z.length:Int)):=by omega
              have HO:=hid (show U=packGo (l.drop (i+1)) rest z (a+N) by rw [HLIM.out,if_neg hlim])
              go_wp2_with (first|(at_make;refine mk_zero _ rfl _ _ rfl N _ _ rfl rfl rfl rfl (by omega) ?_;rw [← HWF.out];intro w4 hr4 hb4;have HR4:=hid hr4;have HB4:=hid hb4;clear hr4 hb4)|(go_at_call 99;refine (putR_fn g0 _ bb a _ _ _ (HPF.out.on HB4.out) (HR4.out.toX.mono (by rw [HZF.out];omega)) (fun k hk e=>by have h1:=(HPF.out.row.lt k e).1;have h2:=(HR4.out.lt k hk).2;omega) (by omega) (by omega) (by rw [List.length_replicate];omega)).mono ?_;rintro e w5 ⟨rfl,⟨v5,hp5⟩,hb5⟩;rw [List.length_replicate,← HZ.out] at hp5;obtain ⟨a5,c5,he5⟩:=hp5.row.shape;subst he5;have HP5:=hid hp5;have r0:=hp5.c0;have HB5:=hid ((HBF.out.trans (HB4.out.mono (by rw [HZF.out];omega))).trans hb5);clear hp5 hb5))
              go_roundg (n-(i+1))
              case measure=>omega
              case rel=>exact ⟨i+1,a+N,_,z,rest,by go_num,hlt,HSR.out,HP5.out,by omega,by omega,HXR.out,hrl,HO.out,HB5.out,rfl⟩
      have N120:=hid hc
      have y120:((c.toNat:Int) == 120)=false:=byte_ne (k:=120) 120 hc rfl
      clear hc
      by_cases hc:c=64
      · as_aux_lemma =>
          have y64:((c.toNat:Int) == 64)=true:=byte_is hc rfl
          have hq1:q≠-1:=HFO.out.2.2.2.2 hc
          obtain ⟨T,hT⟩:∃ T,T=if q = -2 then bb.length else q.toNat:=⟨_,rfl⟩
          have HLIM:=hid (show U=if 65536<(bb++List.replicate (T-bb.length) 0).length then .inl 4 else packGo (l.drop (i+1)) rest (bb++List.replicate (T-bb.length) 0) T by rw [HUN.out,if_pos (show (c == 64)=true by rw [hc];decide),← hT,putE_nil])
          clear hc
          by_cases hq:q = -2
          · have hTb:T=bb.length:=by rw [hT,if_pos hq]
            have HO:=hid (show U=packGo (l.drop (i+1)) rest bb bb.length by rw [HLIM.out,hTb,Nat.sub_self,List.replicate_zero,List.append_nil,if_neg (by omega)])
            subst hq
            clear hT hTb hq1 hcr
            have hnl:¬ ((bb.length:Int)<(bb.length:Int)):=by omega
            have hlI:¬ ((65536:Int)<(bb.length:Int)):=by omega
            have HX1:=HPK.out.setA bb.length
            have HX2:=HX1.setA bb.length
            have HG2:=hid (HX2.on (belowA _ (.cells #[.int .u8 (c.toNat:Nat),.bool p,.int .i64 (-2)] 103)))
            have HBG:=hid (((HBL.out.setCell (p:=⟨g0,1,none⟩) (Nat.le_refl _) (.int .i64 (bb.length:Nat))).setCell (p:=⟨g0,1,none⟩) (Nat.le_refl _) (.int .i64 (bb.length:Nat))).trans ((belowA _ (.cells #[.int .u8 (c.toNat:Nat),.bool p,.int .i64 (-2)] 103)).mono (by simp [World.setCell];omega)))
            have s0:=HPF.out.c0
            have s1:=HPF.out.c1
            have s2:=HPF.out.f1
            rw [HWF.out] at s0 s1 s2
            have t0:=HX1.c0
            have t3:=HX1.c1
            have t4:=HX1.f1
            have t5:=HX2.c0
            clear HX1 HX2
            go_wp2
            go_roundg (n-(i+1))
            case measure=>omega
            case rel=>exact ⟨i+1,bb.length,_,bb,rest,by go_num,hlt,HSR.out,HG2.out,by omega,by omega,HXR.out,hrl,HO.out,HBG.out,rfl⟩
          · obtain ⟨m,hm⟩:∃ m:Nat,q=(m:Int):=⟨q.toNat,by omega⟩
            have hTm:T=m:=by rw [hT,if_neg hq,hm];exact Int.toNat_natCast m
            subst hTm
            have hm9:T≤9999:=by omega
            have e2:((T:Int) == -2)=false:=by rw [beq_eq_false_iff_ne];omega
            rw [hm] at g2c HWF q0
            clear hT hq1 hcr hq hm HFO
            obtain ⟨wg,hwg⟩:∃ wg,wg=(wr.setCell ⟨g0,1,none⟩ (.int .i64 (bb.length:Nat))).alloc (.cells #[.int .u8 (c.toNat:Nat),.bool p,.int .i64 (T:Int)] 103):=⟨_,rfl⟩
            have HX1:=HPK.out.setA bb.length
            have HG1:=hid (show PkR g0 wg (.slice ab bb.length cb) bb bb.length by rw [hwg];exact HX1.on (belowA _ _))
            have HBG:=hid (show Below g0 w1 wg by rw [hwg];exact (HBL.out.setCell (p:=⟨g0,1,none⟩) (Nat.le_refl _) (.int .i64 (bb.length:Nat))).trans ((belowA _ _).mono (by simp [World.setCell];omega)))
            have HZG:=hid (show wg.heap.size=wf.heap.size by rw [hwg,HZF.out];simp [World.setCell])
            have HWG:=hid hwg
            have s1:=HPF.out.c1
            have s2:=HPF.out.f1
            rw [HWF.out] at s1 s2
            have t0:=HX1.c0
            have t3:=HX1.c1
            have t4:=HX1.f1
            by_cases hTb:bb.length<T
            · have hTbI:(bb.length:Int)<(T:Int):=by omega
              obtain ⟨k,hk⟩:∃ k,k=T-bb.length:=⟨_,rfl⟩
              have hkI:(T:Int)-(bb.length:Int)=(k:Int):=by omega
              have hk9:k≤9999:=by omega
              have hwk:IntKind.i64.wrap (k:Int)=(k:Int):=IntWalk.i64_in _ (by omega)
              obtain ⟨z,hz⟩:∃ z,z=bb++List.replicate k 0:=⟨_,rfl⟩
              have hzT:z.length=T:=by rw [hz,List.length_append,List.length_replicate];omega
              have HO:=hid (show U=packGo (l.drop (i+1)) rest z T by rw [HLIM.out,← hk,← hz,if_neg (by omega)])
              have HZ:=hid (show putE bb bb.length (List.replicate k 0)=z by rw [hz];exact putE_more bb k)
              have hbk:bb.length+k=T:=by omega
              have HBK:=hid hbk
              have hlI:¬ ((65536:Int)<(z.length:Int)):=by omega
              have s0:=HG1.out.c0
              rw [HWG.out] at s0
              clear hk hz hwg hbk HX1
              go_wp2_with (first|(at_make;rw [← HWG.out];refine mk_zero _ rfl _ _ rfl k _ _ rfl rfl rfl rfl (by omega) ?_;intro w4 hr4 hb4;have HR4:=hid hr4;have HB4:=hid hb4;clear hr4 hb4)|(go_at_call 99;refine (putR_fn g0 _ bb bb.length _ _ _ (HG1.out.on HB4.out) (HR4.out.toX.mono (by rw [HZG.out,HZF.out];omega)) (fun k hk e=>by have h1:=(HG1.out.row.lt k e).1;have h2:=(HR4.out.lt k hk).2;omega) (by omega) (by omega) (by rw [List.length_replicate];omega)).mono ?_;rintro e w5 ⟨rfl,⟨v5,hp5⟩,hb5⟩;rw [List.length_replicate,HZ.out,HBK.out] at hp5;obtain ⟨a5,c5,he5⟩:=hp5.row.shape;subst he5;have HP5:=hid hp5;have HP6:=hid (hp5.setA T);have r0:=hp5.c0;have r1:=hp5.c1;have r2:=hp5.f1;have r3:=(hp5.setA T).c0;have HB5:=hid ((HBG.out.trans (HB4.out.mono (by rw [HZG.out,HZF.out];omega))).trans hb5);clear hp5 hb5))
              go_roundg (n-(i+1))
              case measure=>omega
              case rel=>exact ⟨i+1,T,_,z,rest,by go_num,hlt,HSR.out,HP6.out,by omega,by omega,HXR.out,hrl,HO.out,HB5.out.setCell (Nat.le_refl _) _,rfl⟩
            · have hTbI:¬ ((bb.length:Int)<(T:Int)):=by omega
              have hlI:¬ ((65536:Int)<(bb.length:Int)):=by omega
              have HO:=hid (show U=packGo (l.drop (i+1)) rest bb T by rw [HLIM.out,show T-bb.length=0 by omega,List.replicate_zero,List.append_nil,if_neg (by omega)])
              have HX2:=HX1.setA T
              have HG2:=hid (HX2.on (belowA _ (.cells #[.int .u8 (c.toNat:Nat),.bool p,.int .i64 (T:Int)] 103)))
              have HBG2:=hid (((HBL.out.setCell (p:=⟨g0,1,none⟩) (Nat.le_refl _) (.int .i64 (bb.length:Nat))).setCell (p:=⟨g0,1,none⟩) (Nat.le_refl _) (.int .i64 (T:Nat))).trans ((belowA _ (.cells #[.int .u8 (c.toNat:Nat),.bool p,.int .i64 (T:Int)] 103)).mono (by simp [World.setCell];omega)))
              have t5:=HX2.c0
              clear hwg hTb HX1 HX2
              go_wp2
              go_roundg (n-(i+1))
              case measure=>omega
              case rel=>exact ⟨i+1,T,_,bb,rest,by go_num,hlt,HSR.out,HG2.out,by omega,by omega,HXR.out,hrl,HO.out,HBG2.out,rfl⟩
      have N64:=hid hc
      have y64:((c.toNat:Int) == 64)=false:=byte_ne (k:=64) 64 hc rfl
      clear hc
      have HUD:=hid (HUN.out.trans ((if_neg (show ¬ ((c == 64)=true) by rw [beq_eq_false_iff_ne.2 N64.out];simp)).trans (if_neg (show ¬ ((c == 120)=true) by rw [beq_eq_false_iff_ne.2 N120.out];simp))))
      cases rest with
      | nil=>
        as_aux_lemma=>
          have HO:=hid (show U=.inl 8 from HUD.out)
          go_wp2
          go_ret2
          exact ⟨by rw [HRS.out,HO.out];rfl,HB1.out.trans ((HWF.out ▸ HBF.out).mono (by rw [HG0.out];exact HB1.out.size))⟩
      | cons x rest=>
        as_aux_lemma=>
          obtain ⟨b1,o1,hao,hn1,hnc,hcx,hst⟩:=strs_tail HSR.out
          subst hao
          have HST:=hid hst
          have hxl:=HXR.out x (by simp)
          have hxl2:x.length≤100000:=hxl
          have hsz:(x::rest).length=rest.length+1:=rfl
          have hb1:b1<w.heap.size:=cell_lt hcx
          have hcr2:wf.cell? ⟨b1,o1,none⟩=some (.string ⟨x.toArray⟩):=((HB1.out.trans (HBF.out.mono (by rw [HG0.out];exact HB1.out.size))).cell (p:=⟨b1,o1,none⟩) hb1).trans hcx
          have HONE:=hid (fun u=>oneR_fn c p q HFO.out N120.out N64.out x hxl2 u)
          unfold OneR at HONE
          have hplen:=packOne_len (f:=⟨c,p,q⟩) (s:=x) hxl2 hcr
          obtain ⟨D,hD⟩:∃ D,D=packOne ⟨c,p,q⟩ x:=⟨_,rfl⟩
          have hne:=fun e (h:packOne ⟨c,p,q⟩ x=.inl e)=>packOne_ne h
          dsimp only at HUD
          rw [← hD] at HONE HUD hplen hne
          have hfc:wf.cell? ⟨wr.heap.size,0,none⟩=some (.int .u8 (c.toNat:Nat))∧wf.cell? ⟨wr.heap.size,1,none⟩=some (.bool p)∧wf.cell? ⟨wr.heap.size,2,none⟩=some (.int .i64 q):=by rw [HWF.out,Lib.cell_of_heap (heap_alloc_new _ _),Lib.cell_of_heap (heap_alloc_new _ _),Lib.cell_of_heap (heap_alloc_new _ _)];exact ⟨rfl,rfl,rfl⟩
          have hlen0:(0:Int)<((rest.length+1:Nat):Int):=by omega
          clear hD hxl hxl2 hst hcap0
          cases D with
          | inl k=>
            have HO:=hid (show U=.inl k from HUD.out)
            have hk0:k≠0:=hne k rfl
            have hkn:(k != 0)=true:=bne_iff_ne.2 hk0
            have hkn2:(k == 0)=false:=beq_eq_false_iff_ne.2 hk0
            clear hne hplen
            go_upto_region 11 with fail
            rw [← HWF.out]
            have S0:Hid ((fun u:World=>u.cell? ⟨wr.heap.size,0,none⟩=some (.int .u8 (c.toNat:Nat))∧u.cell? ⟨wr.heap.size,1,none⟩=some (.bool p)∧u.cell? ⟨wr.heap.size,2,none⟩=some (.int .i64 q)∧u.cell? ⟨b1,o1,none⟩=some (.string ⟨x.toArray⟩)) wf.drew):=hid ⟨hfc.1,hfc.2.1,hfc.2.2,hcr2⟩
            refine U_begin (late:=fun k=>decide (10≤k)) (S:=fun u:World=>u.cell? ⟨wr.heap.size,0,none⟩=some (.int .u8 (c.toNat:Nat))∧u.cell? ⟨wr.heap.size,1,none⟩=some (.bool p)∧u.cell? ⟨wr.heap.size,2,none⟩=some (.int .i64 q)∧u.cell? ⟨b1,o1,none⟩=some (.string ⟨x.toArray⟩)) (by kernel_rfl) ?_
            refine U_take2 8 (i:=0) (v:=.agg #[.int .u8 (c.toNat:Nat),.bool p,.int .i64 q]) rfl (by kernel_rfl) (by kernel_rfl) (by kernel_rfl) (by kernel_rfl) (by kernel_rfl) (fun _ _ _ h=>h) (.inl ⟨rfl,fun u hu=>(by obtain ⟨h1,h2⟩:=hu;go_simp)⟩) S0.out ?_
            refine U_take2 8 (i:=1) (v:=.slice (some ⟨b1,o1,none⟩) (rest.length+1) ca) rfl (by kernel_rfl) (by kernel_rfl) (by kernel_rfl) (by kernel_rfl) (by kernel_rfl) (fun _ _ _ h=>h) (.inl ⟨rfl,fun u hu=>(by go_simp)⟩) S0.out ?_
            refine U_take2 8 (i:=2) (v:=.pointer (some ⟨b1,o1,none⟩)) rfl (by kernel_rfl) (by kernel_rfl) (by kernel_rfl) (by kernel_rfl) (by kernel_rfl) (fun _ _ _ h=>h) (.inl ⟨rfl,fun u hu=>(by go_simp)⟩) S0.out ?_
            refine U_take2 8 (i:=3) (v:=.string ⟨x.toArray⟩) rfl (by kernel_rfl) (by kernel_rfl) (by kernel_rfl) (by kernel_rfl) (by kernel_rfl) (fun _ _ _ h=>h) (.inl ⟨rfl,fun u hu=>(by obtain ⟨h1,h2⟩:=hu;go_simp)⟩) S0.out ?_
            refine U_step (j:=4) (by kernel_rfl) rfl (fun K hK=>?_)
            go_simp
            (with_reducible refine (HONE.out _).mono ?_);rintro e w6 ⟨v6,z6,x6,rfl,hr6,hb6,hm6⟩
            have HB6:=hid (show Below wf.heap.size wf w6 from (Below.refl _ wf).drew.trans hb6)
            have S6:Hid ((fun u:World=>u.cell? ⟨wr.heap.size,0,none⟩=some (.int .u8 (c.toNat:Nat))∧u.cell? ⟨wr.heap.size,1,none⟩=some (.bool p)∧u.cell? ⟨wr.heap.size,2,none⟩=some (.int .i64 q)∧u.cell? ⟨b1,o1,none⟩=some (.string ⟨x.toArray⟩)) w6):=hid ⟨(HB6.out.cell (p:=⟨wr.heap.size,0,none⟩) (by rw [HZF.out];show wr.heap.size<wr.heap.size+1;omega)).trans hfc.1,(HB6.out.cell (p:=⟨wr.heap.size,1,none⟩) (by rw [HZF.out];show wr.heap.size<wr.heap.size+1;omega)).trans hfc.2.1,(HB6.out.cell (p:=⟨wr.heap.size,2,none⟩) (by rw [HZF.out];show wr.heap.size<wr.heap.size+1;omega)).trans hfc.2.2,(HB6.out.cell (p:=⟨b1,o1,none⟩) (cell_lt hcr2)).trans hcr2⟩
            refine hK.out _ _ (.inr S6.out) ?_
            obtain rfl:z6=k:=hm6
            obtain ⟨a6,c6,he6⟩:=hr6.shape
            subst he6
            have HR6:=hid hr6
            clear hK K S0 hb6 hr6
            refine U_take2 8 (i:=5) (v:=.tuple #[.slice a6 x6.length c6,.int .i64 z6]) rfl (by kernel_rfl) (by kernel_rfl) (by kernel_rfl) (by kernel_rfl) (by kernel_rfl) (fun _ _ _ h=>h) (.inl ⟨rfl,fun u hu=>(by go_simp)⟩) S6.out ?_
            refine U_take2 8 (i:=6) (v:=.slice a6 x6.length c6) rfl (by kernel_rfl) (by kernel_rfl) (by kernel_rfl) (by kernel_rfl) (by kernel_rfl) (fun _ _ _ h=>h) (.inl ⟨rfl,fun u hu=>(by go_simp)⟩) S6.out ?_
            refine U_take2 8 (i:=7) (v:=.int .i64 z6) rfl (by kernel_rfl) (by kernel_rfl) (by kernel_rfl) (by kernel_rfl) (by kernel_rfl) (fun _ _ _ h=>h) (.inl ⟨rfl,fun u hu=>(by go_simp)⟩) S6.out ?_
            refine U_take2 8 (i:=8) (v:=.slice a6 x6.length c6) rfl (by kernel_rfl) (by kernel_rfl) (by kernel_rfl) (by kernel_rfl) (by kernel_rfl) (fun _ _ _ h=>h) (.inl ⟨rfl,fun u hu=>(by go_simp)⟩) S6.out ?_
            refine U_take2 8 (i:=9) (v:=.int .i64 z6) rfl (by kernel_rfl) (by kernel_rfl) (by kernel_rfl) (by kernel_rfl) (by kernel_rfl) (fun _ _ _ h=>h) (.inl ⟨rfl,fun u hu=>(by go_simp)⟩) S6.out ?_
            refine U_done (by kernel_rfl) ?_ _
            clear S6
            go_wp2
            go_ret2
            exact ⟨by rw [HRS.out,HO.out];rfl,HB1.out.trans ((HBF.out.trans (HB6.out.mono (by rw [HZF.out];omega))).mono (by rw [HG0.out];exact HB1.out.size))⟩
          | inr yb=>
            have hyl:yb.length≤1000000:=hplen
            have HUE:=hid (show U=if 65536<(putE bb a yb).length then .inl 4 else packGo (l.drop (i+1)) rest (putE bb a yb) (a+yb.length) from HUD.out)
            clear hne hplen
            go_upto_region 11 with fail
            rw [← HWF.out]
            have S0:Hid ((fun u:World=>u.cell? ⟨wr.heap.size,0,none⟩=some (.int .u8 (c.toNat:Nat))∧u.cell? ⟨wr.heap.size,1,none⟩=some (.bool p)∧u.cell? ⟨wr.heap.size,2,none⟩=some (.int .i64 q)∧u.cell? ⟨b1,o1,none⟩=some (.string ⟨x.toArray⟩)) wf.drew):=hid ⟨hfc.1,hfc.2.1,hfc.2.2,hcr2⟩
            refine U_begin (late:=fun k=>decide (10≤k)) (S:=fun u:World=>u.cell? ⟨wr.heap.size,0,none⟩=some (.int .u8 (c.toNat:Nat))∧u.cell? ⟨wr.heap.size,1,none⟩=some (.bool p)∧u.cell? ⟨wr.heap.size,2,none⟩=some (.int .i64 q)∧u.cell? ⟨b1,o1,none⟩=some (.string ⟨x.toArray⟩)) (by kernel_rfl) ?_
            refine U_take2 8 (i:=0) (v:=.agg #[.int .u8 (c.toNat:Nat),.bool p,.int .i64 q]) rfl (by kernel_rfl) (by kernel_rfl) (by kernel_rfl) (by kernel_rfl) (by kernel_rfl) (fun _ _ _ h=>h) (.inl ⟨rfl,fun u hu=>(by obtain ⟨h1,h2⟩:=hu;go_simp)⟩) S0.out ?_
            refine U_take2 8 (i:=1) (v:=.slice (some ⟨b1,o1,none⟩) (rest.length+1) ca) rfl (by kernel_rfl) (by kernel_rfl) (by kernel_rfl) (by kernel_rfl) (by kernel_rfl) (fun _ _ _ h=>h) (.inl ⟨rfl,fun u hu=>(by go_simp)⟩) S0.out ?_
            refine U_take2 8 (i:=2) (v:=.pointer (some ⟨b1,o1,none⟩)) rfl (by kernel_rfl) (by kernel_rfl) (by kernel_rfl) (by kernel_rfl) (by kernel_rfl) (fun _ _ _ h=>h) (.inl ⟨rfl,fun u hu=>(by go_simp)⟩) S0.out ?_
            refine U_take2 8 (i:=3) (v:=.string ⟨x.toArray⟩) rfl (by kernel_rfl) (by kernel_rfl) (by kernel_rfl) (by kernel_rfl) (by kernel_rfl) (fun _ _ _ h=>h) (.inl ⟨rfl,fun u hu=>(by obtain ⟨h1,h2⟩:=hu;go_simp)⟩) S0.out ?_
            refine U_step (j:=4) (by kernel_rfl) rfl (fun K hK=>?_)
            go_simp
            (with_reducible refine (HONE.out _).mono ?_);rintro e w6 ⟨v6,z6,x6,rfl,hr6,hb6,hm6⟩
            have HB6:=hid (show Below wf.heap.size wf w6 from (Below.refl _ wf).drew.trans hb6)
            have S6:Hid ((fun u:World=>u.cell? ⟨wr.heap.size,0,none⟩=some (.int .u8 (c.toNat:Nat))∧u.cell? ⟨wr.heap.size,1,none⟩=some (.bool p)∧u.cell? ⟨wr.heap.size,2,none⟩=some (.int .i64 q)∧u.cell? ⟨b1,o1,none⟩=some (.string ⟨x.toArray⟩)) w6):=hid ⟨(HB6.out.cell (p:=⟨wr.heap.size,0,none⟩) (by rw [HZF.out];show wr.heap.size<wr.heap.size+1;omega)).trans hfc.1,(HB6.out.cell (p:=⟨wr.heap.size,1,none⟩) (by rw [HZF.out];show wr.heap.size<wr.heap.size+1;omega)).trans hfc.2.1,(HB6.out.cell (p:=⟨wr.heap.size,2,none⟩) (by rw [HZF.out];show wr.heap.size<wr.heap.size+1;omega)).trans hfc.2.2,(HB6.out.cell (p:=⟨b1,o1,none⟩) (cell_lt hcr2)).trans hcr2⟩
            refine hK.out _ _ (.inr S6.out) ?_
            obtain ⟨rfl,rfl⟩:z6=0∧x6=yb:=hm6
            obtain ⟨a6,c6,he6⟩:=hr6.shape
            subst he6
            have HR6:=hid hr6
            clear hK K S0 hb6 hr6
            refine U_take2 8 (i:=5) (v:=.tuple #[.slice a6 x6.length c6,.int .i64 0]) rfl (by kernel_rfl) (by kernel_rfl) (by kernel_rfl) (by kernel_rfl) (by kernel_rfl) (fun _ _ _ h=>h) (.inl ⟨rfl,fun u hu=>(by go_simp)⟩) S6.out ?_
            refine U_take2 8 (i:=6) (v:=.slice a6 x6.length c6) rfl (by kernel_rfl) (by kernel_rfl) (by kernel_rfl) (by kernel_rfl) (by kernel_rfl) (fun _ _ _ h=>h) (.inl ⟨rfl,fun u hu=>(by go_simp)⟩) S6.out ?_
            refine U_take2 8 (i:=7) (v:=.int .i64 0) rfl (by kernel_rfl) (by kernel_rfl) (by kernel_rfl) (by kernel_rfl) (by kernel_rfl) (fun _ _ _ h=>h) (.inl ⟨rfl,fun u hu=>(by go_simp)⟩) S6.out ?_
            refine U_take2 8 (i:=8) (v:=.slice a6 x6.length c6) rfl (by kernel_rfl) (by kernel_rfl) (by kernel_rfl) (by kernel_rfl) (by kernel_rfl) (fun _ _ _ h=>h) (.inl ⟨rfl,fun u hu=>(by go_simp)⟩) S6.out ?_
            refine U_take2 8 (i:=9) (v:=.int .i64 0) rfl (by kernel_rfl) (by kernel_rfl) (by kernel_rfl) (by kernel_rfl) (by kernel_rfl) (fun _ _ _ h=>h) (.inl ⟨rfl,fun u hu=>(by go_simp)⟩) S6.out ?_
            refine U_done (by kernel_rfl) ?_ _
            have HP6:=hid (HPF.out.on HB6.out)
            have HB7:=hid (HBF.out.trans (HB6.out.mono (by rw [HZF.out];omega)))
            have HS6:=hid (show wf.heap.size≤w6.heap.size from HB6.out.size)
            have hps:=HP6.out.lt
            clear S6 hfc hcr2
            obtain ⟨z,hz⟩:∃ z,z=putE bb a x6:=⟨_,rfl⟩
            have HZ:=hid hz
            have hzl:z.length=max (max bb.length a) (a+x6.length):=by rw [hz,putE_len]
            rw [← hz] at HUE
            clear hz
            have hcaI:(1:Int)≤(ca:Int):=by omega
            have hc1:(1:Int)≤((rest.length+1:Nat):Int):=by omega
            by_cases hlim:65536<z.length
            · have hlI:(65536:Int)<(z.length:Int):=by omega
              have HO:=hid (show U=.inl 4 by rw [HUE.out,if_pos hlim])
              by_cases hca:ca=1
              · subst hca
                have HSN:=hid (HST.out ⟨b1,o1,none⟩ (by rw [if_pos rfl]))
                go_wp2_with (go_at_call 99;refine (putR_fn g0 _ bb a _ _ _ HP6.out (HR6.out.mono (show g0+1≤wf.heap.size by rw [HZF.out];omega)) (fun k hk e=>by have h1:=(HPF.out.row.lt k e).1;have h2:wf.heap.size≤k:=(HR6.out.lt k hk).2;omega) (by omega) (by omega) (by omega)).mono ?_;rintro e w5 ⟨rfl,⟨v5,hp5⟩,hb5⟩;rw [← HZ.out] at hp5;obtain ⟨a5,c5,he5⟩:=hp5.row.shape;subst he5;have HP5:=hid hp5;have r0:=hp5.c0;have HB5:=hid (HB7.out.trans hb5);clear hp5 hb5)
                go_ret2
                exact ⟨by rw [HRS.out,HO.out];rfl,HB1.out.trans (HB5.out.mono (by rw [HG0.out];exact HB1.out.size))⟩
              · have hca2:¬ 1=ca:=fun h=>hca h.symm
                have HSN:=hid (HST.out ⟨b1,o1+1,none⟩ (by rw [if_neg hca]))
                go_wp2_with (go_at_call 99;refine (putR_fn g0 _ bb a _ _ _ HP6.out (HR6.out.mono (show g0+1≤wf.heap.size by rw [HZF.out];omega)) (fun k hk e=>by have h1:=(HPF.out.row.lt k e).1;have h2:wf.heap.size≤k:=(HR6.out.lt k hk).2;omega) (by omega) (by omega) (by omega)).mono ?_;rintro e w5 ⟨rfl,⟨v5,hp5⟩,hb5⟩;rw [← HZ.out] at hp5;obtain ⟨a5,c5,he5⟩:=hp5.row.shape;subst he5;have HP5:=hid hp5;have r0:=hp5.c0;have HB5:=hid (HB7.out.trans hb5);clear hp5 hb5)
                go_ret2
                exact ⟨by rw [HRS.out,HO.out];rfl,HB1.out.trans (HB5.out.mono (by rw [HG0.out];exact HB1.out.size))⟩
            · have hlI:¬ ((65536:Int)<(z.length:Int)):=by omega
              have HO:=hid (show U=packGo (l.drop (i+1)) rest z (a+x6.length) by rw [HUE.out,if_neg hlim])
              by_cases hca:ca=1
              · subst hca
                have HSN:=hid (HST.out ⟨b1,o1,none⟩ (by rw [if_pos rfl]))
                go_wp2_with (go_at_call 99;refine (putR_fn g0 _ bb a _ _ _ HP6.out (HR6.out.mono (show g0+1≤wf.heap.size by rw [HZF.out];omega)) (fun k hk e=>by have h1:=(HPF.out.row.lt k e).1;have h2:wf.heap.size≤k:=(HR6.out.lt k hk).2;omega) (by omega) (by omega) (by omega)).mono ?_;rintro e w5 ⟨rfl,⟨v5,hp5⟩,hb5⟩;rw [← HZ.out] at hp5;obtain ⟨a5,c5,he5⟩:=hp5.row.shape;subst he5;have HP5:=hid hp5;have r0:=hp5.c0;have HB5:=hid (HB7.out.trans hb5);clear hp5 hb5)
                go_roundg (n-(i+1))
                case measure=>omega
                case rel=>exact ⟨i+1,a+x6.length,_,z,rest,by go_num,hlt,HSN.out,HP5.out,by omega,by omega,fun x hx=>HXR.out x (List.mem_cons_of_mem _ hx),by omega,HO.out,HB5.out,rfl⟩
              · have hca2:¬ 1=ca:=fun h=>hca h.symm
                have HSN:=hid (HST.out ⟨b1,o1+1,none⟩ (by rw [if_neg hca]))
                go_wp2_with (go_at_call 99;refine (putR_fn g0 _ bb a _ _ _ HP6.out (HR6.out.mono (show g0+1≤wf.heap.size by rw [HZF.out];omega)) (fun k hk e=>by have h1:=(HPF.out.row.lt k e).1;have h2:wf.heap.size≤k:=(HR6.out.lt k hk).2;omega) (by omega) (by omega) (by omega)).mono ?_;rintro e w5 ⟨rfl,⟨v5,hp5⟩,hb5⟩;rw [← HZ.out] at hp5;obtain ⟨a5,c5,he5⟩:=hp5.row.shape;subst he5;have HP5:=hid hp5;have r0:=hp5.c0;have HB5:=hid (HB7.out.trans hb5);clear hp5 hb5)
                go_roundg (n-(i+1))
                case measure=>omega
                case rel=>exact ⟨i+1,a+x6.length,_,z,rest,by go_num,hlt,HSN.out,HP5.out,by omega,by omega,fun x hx=>HXR.out x (List.mem_cons_of_mem _ hx),by omega,HO.out,HB5.out,rfl⟩
    · obtain rfl:i=n:=by omega
      have hnl:¬ ((i:Int)<(l.length:Int)):=by rw [← HNL.out];omega
      have HO:=hid (show U=.inr bb by rw [HUN.out,List.drop_eq_nil_of_le (by rw [← HNL.out];exact Nat.le_refl _)];rfl)
      have hst:=HPK.out.row.str
      clear hge hin
      go_wp2
      go_ret2
      exact ⟨by rw [HRS.out,HO.out];rfl,HB1.out.trans (HBL.out.mono (by rw [HG0.out];exact HB1.out.size))⟩
end Go.Proofs.YtihdndaibmgoiaaGreatDoor.Pz
