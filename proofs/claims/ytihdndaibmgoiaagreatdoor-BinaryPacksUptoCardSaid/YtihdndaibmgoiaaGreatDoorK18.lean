/-
  Part K18 of the proofs of this seat, merged by a program out of 3 texts; remarks are struck.
-/
import Derived.Deep.CutBlock
import Derived.Test.YtihdndaibmgoiaaGreatDoorK17
namespace Go.Proofs.YtihdndaibmgoiaaGreatDoor.Pz
theorem ofNat_lt2 {n:Nat} (h:n<256):(UInt8.ofNat n).toNat=n:=by
 rw [UInt8.toNat_ofNat']
 exact Nat.mod_eq_of_lt h
end Go.Proofs.YtihdndaibmgoiaaGreatDoor.Pz
namespace Go.Proofs.YtihdndaibmgoiaaGreatDoor.Pz
open Go.RowKit
attribute [local go_sem] Oper.semAt_some
theorem appZ_lit0 {w:World} {N:Nat} (hN:w.heap.size=N) {ops:Array Oper} {rest:List Oper} {o:Oper} {a:Act} {Q:Exit→Act→World→Prop} (hgd:o.guard=none) (s x:Operand)
  (ho:o.op=.call { callee:=.builtin .append,args:=#[s,x],argTypes:=#[46,46] }) (B:Nat) (v:Value) (l:Str)
  (hs:a.eval s=v) (hown:RowZ B w v l) (hx:a.eval x=.slice (some ⟨N,0,none⟩) 1 1) (hl:l.length≤1000000)
  (h:∀ v' w',RowZ B w' v' (l++[0])→Below B w w'→wpList Tryz.prog ops Q rest (a.put o.dst v') w') :
  wpList Tryz.prog ops Q (o::rest) a (w.alloc (.cells #[.int .u8 0] 5)):=appZ_one hN hgd s x ho B v l 0 hs hown hx hl h
theorem appZ_lit32 {w:World} {N:Nat} (hN:w.heap.size=N) {ops:Array Oper} {rest:List Oper} {o:Oper} {a:Act} {Q:Exit→Act→World→Prop} (hgd:o.guard=none) (s x:Operand)
  (ho:o.op=.call { callee:=.builtin .append,args:=#[s,x],argTypes:=#[46,46] }) (B:Nat) (v:Value) (l:Str)
  (hs:a.eval s=v) (hown:RowZ B w v l) (hx:a.eval x=.slice (some ⟨N,0,none⟩) 1 1) (hl:l.length≤1000000)
  (h:∀ v' w',RowZ B w' v' (l++[32])→Below B w w'→wpList Tryz.prog ops Q rest (a.put o.dst v') w') :
  wpList Tryz.prog ops Q (o::rest) a (w.alloc (.cells #[.int .u8 32] 5)):=appZ_one hN hgd s x ho B v l 32 hs hown hx hl h
set_option maxRecDepth 1000000 in
set_option maxHeartbeats 8000000 in
theorem textR_fn (c:UInt8) (p:Bool) (n:Int) (hn:-2≤n∧n≤9999) (s:Str) (hs:s.length≤100000) (w:World) :
    Calls Tryz.prog 140 #[.agg #[.int .u8 (c.toNat:Nat),.bool p,.int .i64 n],.string ⟨s.toArray⟩] w fun e w'=>∃ v,e=.returned v∧RowX w.heap.size w' v (s.take (cntT ⟨c,p,n⟩ s)++List.replicate (cntT ⟨c,p,n⟩ s-s.length) (if c == 65 then 32 else 0))∧Below w.heap.size w w':=by
  have hsz:(⟨s.toArray⟩:ByteArray).size=s.length:=Lib.size_mk _
  obtain ⟨N,hN⟩:∃ N,N=cntT ⟨c,p,n⟩ s:=⟨_,rfl⟩
  rw [← hN]
  obtain ⟨fl,hfl⟩:∃ fl:UInt8,fl=if c == 65 then 32 else 0:=⟨_,rfl⟩
  rw [← hfl]
  obtain ⟨w0,hw0⟩:∃ w0,w0=w.alloc (.cells #[.int .u8 (c.toNat:Nat),.bool p,.int .i64 n] 103):=⟨_,rfl⟩
  have c0:w0.cell? ⟨w.heap.size,0,none⟩=some (.int .u8 (c.toNat:Nat)):=by rw [hw0,Lib.cell_of_heap (heap_alloc_new _ _)];rfl
  have c2:w0.cell? ⟨w.heap.size,2,none⟩=some (.int .i64 n):=by rw [hw0,Lib.cell_of_heap (heap_alloc_new _ _)];rfl
  have HB0:=hid (show Below w.heap.size w w0 by rw [hw0];exact (Below.refl _ _).alloc (Nat.le_refl _) _)
  have HZ0:=hid (show w0.heap.size=w.heap.size+1 by rw [hw0];simp)
  have hcv:=fun x:Str=>Lib.run_convert_string_bytes (P:=Tryz.prog) w0 9 46 5 ⟨x.toArray⟩ Tryz.underlying9 Tryz.underlying46 Tryz.underlying5
  have HCV:=hid hcv
  have HW0:=hid hw0
  have HNN:=hid hN
  clear hw0 hcv hN
  rcases (show n = -1 ∨ n = -2 ∨ ∃ m : Nat, n = (m : Int) ∧ m ≤ 9999 by
      rcases (show n = -1∨n = -2∨0≤n by omega) with h | h | h
      · exact .inl h
      · exact .inr (.inl h)
      · exact .inr (.inr ⟨n.toNat,by omega,by omega⟩)) with hq | hq | ⟨m,hq,hm9⟩
  · subst hq
    have HNE:=hid (show N=1 by rw [HNN.out];rfl)
    clear HNN hn
    by_cases hfit:1<s.length
    · have hfI:((1:Nat):Int)<(s.length:Int):=by omega
      have hfI2:(1:Int)<(s.length:Int):=by omega
      by_cases hc:c=65
      · as_aux_lemma =>
          have y65:((c.toNat:Int) == 65)=true:=byte_is hc rfl
          obtain rfl:fl=32:=by rw [hfl,hc];rfl
          clear hfl hc
          obtain ⟨x,hx⟩:∃ x,x=s.take 1:=⟨_,rfl⟩
          have hxl:x.length=1:=by rw [hx,List.length_take];omega
          have hext:(⟨s.toArray⟩:ByteArray).extract 0 1=⟨x.toArray⟩:=by rw [Lib.extract_mk,hx,Nat.sub_zero,List.drop_zero]
          have hxs:(⟨x.toArray⟩:ByteArray).size=x.length:=Lib.size_mk _
          have hcv:=HCV.out x
          rw [hxs] at hcv
          obtain ⟨cap,hcap⟩:∃ cap,cap=grownCap w0 x.length 0 5:=⟨_,rfl⟩
          obtain ⟨w2,hw2⟩:∃ w2,w2=Lib.bytesWorld w0 5 ⟨x.toArray⟩:=⟨_,rfl⟩
          have hz:=rowZ_new w0 x (by omega)
          rw [← hcap,← hw2] at hz hcv
          rw [HZ0.out] at hz hcv
          rw [HW0.out] at hcv
          have HZ:=hid hz
          have HB2:=hid (show Below (w.heap.size+1) w0 w2 by rw [hw2,← HZ0.out];exact Lib.bytesWorld_below _ _ _)
          have HX:=hid hx
          have HXL:=hid hxl
          rw [hxl] at hcv
          clear hcap hw2 hz hx hxl hxs
          go_enter Tryz.func140,Tryz.ntmps140
          have hmin:min ((1:Nat):Int) (s.length:Int)=((1:Nat):Int):=by omega
          have hmin2:min (1:Int) (s.length:Int)=1:=by omega
          go_wp2_with fail
          go_loopg [7] (1-x.length) (fun k ov wr=>∃ (out:Str),RowZ (w.heap.size+1) wr ov out∧out=x++List.replicate (out.length-x.length) 32∧x.length≤out.length∧out.length≤max x.length (1)∧Below (w.heap.size+1) w0 wr∧k=1-out.length)
          case atStart=>exact ⟨x,by have h:=HZ.out;rw [HXL.out] at h;exact h,by rw [Nat.sub_self];exact (List.append_nil x).symm,Nat.le_refl _,Nat.le_max_left _ _,HB2.out,rfl⟩
          case round=>
            obtain ⟨out,hrow,hoe,hol,hom,hbl,hk⟩:=hrel
            replace hk:=hk.symm
            subst hk
            obtain ⟨ao,co,hov⟩:=hrow.shape
            subst hov
            have HROW:=hid hrow
            have HOE:=hid hoe
            have HBL:=hid hbl
            clear hrow hoe hbl
            rcases Nat.lt_or_ge out.length (1) with hlt | hge
            · have hltI:(out.length:Int)<((1:Nat):Int):=by omega
              have hltI2:(out.length:Int)<1:=by omega
              go_wp2_with (at_builtin;refine appZ_lit32 rfl rfl (.tmp 31) (.tmp 33) rfl (w.heap.size+1) _ _ rfl HROW.out rfl (by omega) ?_;intro v9 w9 hr9 hb9;have HR9:=hid hr9;have HB9:=hid hb9;clear hr9 hb9)
              go_roundg (1-(out.length+1))
              case measure=>omega
              case rel=>exact ⟨out++[32],HR9.out,by rw [List.length_append,show out.length + [(32:UInt8)].length-x.length=(out.length-x.length)+1 by (show out.length+1-x.length=_;omega),List.replicate_succ',← List.append_assoc,← HOE.out],by rw [List.length_append];omega,by rw [List.length_append];show out.length+1≤_;omega,HBL.out.trans HB9.out,by rw [List.length_append];rfl⟩
            · have hnlt:¬ ((out.length:Int)<((1:Nat):Int)):=by omega
              have hnlt2:¬ ((out.length:Int)<1):=by omega
              have HF:=hid (show out=s.take N++List.replicate (N-s.length) 32 by
                have h1:=HXL.out
                rw [HOE.out,show out.length-x.length=0 by omega,HNE.out,show 1-s.length=0 by omega,HX.out])
              clear hge
              go_wp2
              go_ret
              exact ⟨_,rfl,by rw [← HF.out];exact HROW.out.toX.mono (by omega),HB0.out.trans (HBL.out.mono (by omega))⟩
      · as_aux_lemma =>
          have y65:((c.toNat:Int) == 65)=false:=byte_ne (k:=65) 65 hc rfl
          obtain rfl:fl=0:=by rw [hfl,if_neg (by rw [beq_eq_false_iff_ne.2 hc];simp)]
          clear hfl hc
          obtain ⟨x,hx⟩:∃ x,x=s.take 1:=⟨_,rfl⟩
          have hxl:x.length=1:=by rw [hx,List.length_take];omega
          have hext:(⟨s.toArray⟩:ByteArray).extract 0 1=⟨x.toArray⟩:=by rw [Lib.extract_mk,hx,Nat.sub_zero,List.drop_zero]
          have hxs:(⟨x.toArray⟩:ByteArray).size=x.length:=Lib.size_mk _
          have hcv:=HCV.out x
          rw [hxs] at hcv
          obtain ⟨cap,hcap⟩:∃ cap,cap=grownCap w0 x.length 0 5:=⟨_,rfl⟩
          obtain ⟨w2,hw2⟩:∃ w2,w2=Lib.bytesWorld w0 5 ⟨x.toArray⟩:=⟨_,rfl⟩
          have hz:=rowZ_new w0 x (by omega)
          rw [← hcap,← hw2] at hz hcv
          rw [HZ0.out] at hz hcv
          rw [HW0.out] at hcv
          have HZ:=hid hz
          have HB2:=hid (show Below (w.heap.size+1) w0 w2 by rw [hw2,← HZ0.out];exact Lib.bytesWorld_below _ _ _)
          have HX:=hid hx
          have HXL:=hid hxl
          rw [hxl] at hcv
          clear hcap hw2 hz hx hxl hxs
          go_enter Tryz.func140,Tryz.ntmps140
          have hmin:min ((1:Nat):Int) (s.length:Int)=((1:Nat):Int):=by omega
          have hmin2:min (1:Int) (s.length:Int)=1:=by omega
          go_wp2_with fail
          go_loopg [7] (1-x.length) (fun k ov wr=>∃ (out:Str),RowZ (w.heap.size+1) wr ov out∧out=x++List.replicate (out.length-x.length) 0∧x.length≤out.length∧out.length≤max x.length (1)∧Below (w.heap.size+1) w0 wr∧k=1-out.length)
          case atStart=>exact ⟨x,by have h:=HZ.out;rw [HXL.out] at h;exact h,by rw [Nat.sub_self];exact (List.append_nil x).symm,Nat.le_refl _,Nat.le_max_left _ _,HB2.out,rfl⟩
          case round=>
            obtain ⟨out,hrow,hoe,hol,hom,hbl,hk⟩:=hrel
            replace hk:=hk.symm
            subst hk
            obtain ⟨ao,co,hov⟩:=hrow.shape
            subst hov
            have HROW:=hid hrow
            have HOE:=hid hoe
            have HBL:=hid hbl
            clear hrow hoe hbl
            rcases Nat.lt_or_ge out.length (1) with hlt | hge
            · have hltI:(out.length:Int)<((1:Nat):Int):=by omega
              have hltI2:(out.length:Int)<1:=by omega
              go_wp2_with (at_builtin;refine appZ_lit0 rfl rfl (.tmp 31) (.tmp 33) rfl (w.heap.size+1) _ _ rfl HROW.out rfl (by omega) ?_;intro v9 w9 hr9 hb9;have HR9:=hid hr9;have HB9:=hid hb9;clear hr9 hb9)
              go_roundg (1-(out.length+1))
              case measure=>omega
              case rel=>exact ⟨out++[0],HR9.out,by rw [List.length_append,show out.length + [(0:UInt8)].length-x.length=(out.length-x.length)+1 by (show out.length+1-x.length=_;omega),List.replicate_succ',← List.append_assoc,← HOE.out],by rw [List.length_append];omega,by rw [List.length_append];show out.length+1≤_;omega,HBL.out.trans HB9.out,by rw [List.length_append];rfl⟩
            · have hnlt:¬ ((out.length:Int)<((1:Nat):Int)):=by omega
              have hnlt2:¬ ((out.length:Int)<1):=by omega
              have HF:=hid (show out=s.take N++List.replicate (N-s.length) 0 by
                have h1:=HXL.out
                rw [HOE.out,show out.length-x.length=0 by omega,HNE.out,show 1-s.length=0 by omega,HX.out])
              clear hge
              go_wp2
              go_ret
              exact ⟨_,rfl,by rw [← HF.out];exact HROW.out.toX.mono (by omega),HB0.out.trans (HBL.out.mono (by omega))⟩
    · have hfI:¬ (((1:Nat):Int)<(s.length:Int)):=by omega
      have hfI2:¬ ((1:Int)<(s.length:Int)):=by omega
      by_cases hc:c=65
      · as_aux_lemma =>
          have y65:((c.toNat:Int) == 65)=true:=byte_is hc rfl
          obtain rfl:fl=32:=by rw [hfl,hc];rfl
          clear hfl hc
          obtain ⟨x,hx⟩:∃ x,x=s:=⟨_,rfl⟩
          have hxl:x.length=s.length:=by rw [hx]
          have hext:(⟨s.toArray⟩:ByteArray).extract 0 s.length=⟨x.toArray⟩:=by rw [Lib.extract_mk,hx,Nat.sub_zero,List.drop_zero,List.take_length]
          have hxs:(⟨x.toArray⟩:ByteArray).size=x.length:=Lib.size_mk _
          have hcv:=HCV.out x
          rw [hxs] at hcv
          obtain ⟨cap,hcap⟩:∃ cap,cap=grownCap w0 x.length 0 5:=⟨_,rfl⟩
          obtain ⟨w2,hw2⟩:∃ w2,w2=Lib.bytesWorld w0 5 ⟨x.toArray⟩:=⟨_,rfl⟩
          have hz:=rowZ_new w0 x (by omega)
          rw [← hcap,← hw2] at hz hcv
          rw [HZ0.out] at hz hcv
          rw [HW0.out] at hcv
          have HZ:=hid hz
          have HB2:=hid (show Below (w.heap.size+1) w0 w2 by rw [hw2,← HZ0.out];exact Lib.bytesWorld_below _ _ _)
          have HX:=hid hx
          have HXL:=hid hxl
          rw [hxl] at hcv
          clear hcap hw2 hz hx hxl hxs
          go_enter Tryz.func140,Tryz.ntmps140
          have hmin:min ((1:Nat):Int) (s.length:Int)=(s.length:Int):=by omega
          have hmin2:min (1:Int) (s.length:Int)=(s.length:Int):=by omega
          go_wp2_with fail
          go_loopg [7] (1-x.length) (fun k ov wr=>∃ (out:Str),RowZ (w.heap.size+1) wr ov out∧out=x++List.replicate (out.length-x.length) 32∧x.length≤out.length∧out.length≤max x.length (1)∧Below (w.heap.size+1) w0 wr∧k=1-out.length)
          case atStart=>exact ⟨x,by have h:=HZ.out;rw [HXL.out] at h;exact h,by rw [Nat.sub_self];exact (List.append_nil x).symm,Nat.le_refl _,Nat.le_max_left _ _,HB2.out,rfl⟩
          case round=>
            obtain ⟨out,hrow,hoe,hol,hom,hbl,hk⟩:=hrel
            replace hk:=hk.symm
            subst hk
            obtain ⟨ao,co,hov⟩:=hrow.shape
            subst hov
            have HROW:=hid hrow
            have HOE:=hid hoe
            have HBL:=hid hbl
            clear hrow hoe hbl
            rcases Nat.lt_or_ge out.length (1) with hlt | hge
            · have hltI:(out.length:Int)<((1:Nat):Int):=by omega
              have hltI2:(out.length:Int)<1:=by omega
              go_wp2_with (at_builtin;refine appZ_lit32 rfl rfl (.tmp 31) (.tmp 33) rfl (w.heap.size+1) _ _ rfl HROW.out rfl (by omega) ?_;intro v9 w9 hr9 hb9;have HR9:=hid hr9;have HB9:=hid hb9;clear hr9 hb9)
              go_roundg (1-(out.length+1))
              case measure=>omega
              case rel=>exact ⟨out++[32],HR9.out,by rw [List.length_append,show out.length + [(32:UInt8)].length-x.length=(out.length-x.length)+1 by (show out.length+1-x.length=_;omega),List.replicate_succ',← List.append_assoc,← HOE.out],by rw [List.length_append];omega,by rw [List.length_append];show out.length+1≤_;omega,HBL.out.trans HB9.out,by rw [List.length_append];rfl⟩
            · have hnlt:¬ ((out.length:Int)<((1:Nat):Int)):=by omega
              have hnlt2:¬ ((out.length:Int)<1):=by omega
              have HF:=hid (show out=s.take N++List.replicate (N-s.length) 32 by
                have h1:=HXL.out
                rw [HOE.out,HNE.out,List.take_of_length_le (by omega),HX.out,show out.length-s.length=1-s.length by (rw [HX.out] at hol hom;omega)])
              clear hge
              go_wp2
              go_ret
              exact ⟨_,rfl,by rw [← HF.out];exact HROW.out.toX.mono (by omega),HB0.out.trans (HBL.out.mono (by omega))⟩
      · as_aux_lemma =>
          have y65:((c.toNat:Int) == 65)=false:=byte_ne (k:=65) 65 hc rfl
          obtain rfl:fl=0:=by rw [hfl,if_neg (by rw [beq_eq_false_iff_ne.2 hc];simp)]
          clear hfl hc
          obtain ⟨x,hx⟩:∃ x,x=s:=⟨_,rfl⟩
          have hxl:x.length=s.length:=by rw [hx]
          have hext:(⟨s.toArray⟩:ByteArray).extract 0 s.length=⟨x.toArray⟩:=by rw [Lib.extract_mk,hx,Nat.sub_zero,List.drop_zero,List.take_length]
          have hxs:(⟨x.toArray⟩:ByteArray).size=x.length:=Lib.size_mk _
          have hcv:=HCV.out x
          rw [hxs] at hcv
          obtain ⟨cap,hcap⟩:∃ cap,cap=grownCap w0 x.length 0 5:=⟨_,rfl⟩
          obtain ⟨w2,hw2⟩:∃ w2,w2=Lib.bytesWorld w0 5 ⟨x.toArray⟩:=⟨_,rfl⟩
          have hz:=rowZ_new w0 x (by omega)
          rw [← hcap,← hw2] at hz hcv
          rw [HZ0.out] at hz hcv
          rw [HW0.out] at hcv
          have HZ:=hid hz
          have HB2:=hid (show Below (w.heap.size+1) w0 w2 by rw [hw2,← HZ0.out];exact Lib.bytesWorld_below _ _ _)
          have HX:=hid hx
          have HXL:=hid hxl
          rw [hxl] at hcv
          clear hcap hw2 hz hx hxl hxs
          go_enter Tryz.func140,Tryz.ntmps140
          have hmin:min ((1:Nat):Int) (s.length:Int)=(s.length:Int):=by omega
          have hmin2:min (1:Int) (s.length:Int)=(s.length:Int):=by omega
          go_wp2_with fail
          go_loopg [7] (1-x.length) (fun k ov wr=>∃ (out:Str),RowZ (w.heap.size+1) wr ov out∧out=x++List.replicate (out.length-x.length) 0∧x.length≤out.length∧out.length≤max x.length (1)∧Below (w.heap.size+1) w0 wr∧k=1-out.length)
          case atStart=>exact ⟨x,by have h:=HZ.out;rw [HXL.out] at h;exact h,by rw [Nat.sub_self];exact (List.append_nil x).symm,Nat.le_refl _,Nat.le_max_left _ _,HB2.out,rfl⟩
          case round=>
            obtain ⟨out,hrow,hoe,hol,hom,hbl,hk⟩:=hrel
            replace hk:=hk.symm
            subst hk
            obtain ⟨ao,co,hov⟩:=hrow.shape
            subst hov
            have HROW:=hid hrow
            have HOE:=hid hoe
            have HBL:=hid hbl
            clear hrow hoe hbl
            rcases Nat.lt_or_ge out.length (1) with hlt | hge
            · have hltI:(out.length:Int)<((1:Nat):Int):=by omega
              have hltI2:(out.length:Int)<1:=by omega
              go_wp2_with (at_builtin;refine appZ_lit0 rfl rfl (.tmp 31) (.tmp 33) rfl (w.heap.size+1) _ _ rfl HROW.out rfl (by omega) ?_;intro v9 w9 hr9 hb9;have HR9:=hid hr9;have HB9:=hid hb9;clear hr9 hb9)
              go_roundg (1-(out.length+1))
              case measure=>omega
              case rel=>exact ⟨out++[0],HR9.out,by rw [List.length_append,show out.length + [(0:UInt8)].length-x.length=(out.length-x.length)+1 by (show out.length+1-x.length=_;omega),List.replicate_succ',← List.append_assoc,← HOE.out],by rw [List.length_append];omega,by rw [List.length_append];show out.length+1≤_;omega,HBL.out.trans HB9.out,by rw [List.length_append];rfl⟩
            · have hnlt:¬ ((out.length:Int)<((1:Nat):Int)):=by omega
              have hnlt2:¬ ((out.length:Int)<1):=by omega
              have HF:=hid (show out=s.take N++List.replicate (N-s.length) 0 by
                have h1:=HXL.out
                rw [HOE.out,HNE.out,List.take_of_length_le (by omega),HX.out,show out.length-s.length=1-s.length by (rw [HX.out] at hol hom;omega)])
              clear hge
              go_wp2
              go_ret
              exact ⟨_,rfl,by rw [← HF.out];exact HROW.out.toX.mono (by omega),HB0.out.trans (HBL.out.mono (by omega))⟩
  · subst hq
    have HNE:=hid (show N=s.length by rw [HNN.out];rfl)
    clear HNN hn
    by_cases hc:c=65
    · as_aux_lemma =>
        have y65:((c.toNat:Int) == 65)=true:=byte_is hc rfl
        obtain rfl:fl=32:=by rw [hfl,hc];rfl
        clear hfl hc
        obtain ⟨x,hx⟩:∃ x,x=s:=⟨_,rfl⟩
        have hxl:x.length=s.length:=by rw [hx]
        have hext:(⟨s.toArray⟩:ByteArray).extract 0 s.length=⟨x.toArray⟩:=by rw [Lib.extract_mk,hx,Nat.sub_zero,List.drop_zero,List.take_length]
        have hxs:(⟨x.toArray⟩:ByteArray).size=x.length:=Lib.size_mk _
        have hcv:=HCV.out x
        rw [hxs] at hcv
        obtain ⟨cap,hcap⟩:∃ cap,cap=grownCap w0 x.length 0 5:=⟨_,rfl⟩
        obtain ⟨w2,hw2⟩:∃ w2,w2=Lib.bytesWorld w0 5 ⟨x.toArray⟩:=⟨_,rfl⟩
        have hz:=rowZ_new w0 x (by omega)
        rw [← hcap,← hw2] at hz hcv
        rw [HZ0.out] at hz hcv
        rw [HW0.out] at hcv
        have HZ:=hid hz
        have HB2:=hid (show Below (w.heap.size+1) w0 w2 by rw [hw2,← HZ0.out];exact Lib.bytesWorld_below _ _ _)
        have HX:=hid hx
        have HXL:=hid hxl
        rw [hxl] at hcv
        clear hcap hw2 hz hx hxl hxs
        go_enter Tryz.func140,Tryz.ntmps140
        have hmin:min ((s.length:Nat):Int) (s.length:Int)=(s.length:Int):=by omega
        go_wp2_with fail
        go_loopg [7] (s.length-x.length) (fun k ov wr=>∃ (out:Str),RowZ (w.heap.size+1) wr ov out∧out=x++List.replicate (out.length-x.length) 32∧x.length≤out.length∧out.length≤max x.length (s.length)∧Below (w.heap.size+1) w0 wr∧k=s.length-out.length)
        case atStart=>exact ⟨x,by have h:=HZ.out;rw [HXL.out] at h;exact h,by rw [Nat.sub_self];exact (List.append_nil x).symm,Nat.le_refl _,Nat.le_max_left _ _,HB2.out,rfl⟩
        case round=>
          obtain ⟨out,hrow,hoe,hol,hom,hbl,hk⟩:=hrel
          replace hk:=hk.symm
          subst hk
          obtain ⟨ao,co,hov⟩:=hrow.shape
          subst hov
          have HROW:=hid hrow
          have HOE:=hid hoe
          have HBL:=hid hbl
          clear hrow hoe hbl
          rcases Nat.lt_or_ge out.length (s.length) with hlt | hge
          · have hltI:(out.length:Int)<((s.length:Nat):Int):=by omega
            go_wp2_with (at_builtin;refine appZ_lit32 rfl rfl (.tmp 31) (.tmp 33) rfl (w.heap.size+1) _ _ rfl HROW.out rfl (by omega) ?_;intro v9 w9 hr9 hb9;have HR9:=hid hr9;have HB9:=hid hb9;clear hr9 hb9)
            go_roundg (s.length-(out.length+1))
            case measure=>omega
            case rel=>exact ⟨out++[32],HR9.out,by rw [List.length_append,show out.length + [(32:UInt8)].length-x.length=(out.length-x.length)+1 by (show out.length+1-x.length=_;omega),List.replicate_succ',← List.append_assoc,← HOE.out],by rw [List.length_append];omega,by rw [List.length_append];show out.length+1≤_;omega,HBL.out.trans HB9.out,by rw [List.length_append];rfl⟩
          · have hnlt:¬ ((out.length:Int)<((s.length:Nat):Int)):=by omega
            have HF:=hid (show out=s.take N++List.replicate (N-s.length) 32 by
              have h1:=HXL.out
              rw [HOE.out,HNE.out,List.take_of_length_le (by omega),HX.out,show out.length-s.length=s.length-s.length by (rw [HX.out] at hol hom;omega)])
            clear hge
            go_wp2
            go_ret
            exact ⟨_,rfl,by rw [← HF.out];exact HROW.out.toX.mono (by omega),HB0.out.trans (HBL.out.mono (by omega))⟩
    · as_aux_lemma =>
        have y65:((c.toNat:Int) == 65)=false:=byte_ne (k:=65) 65 hc rfl
        obtain rfl:fl=0:=by rw [hfl,if_neg (by rw [beq_eq_false_iff_ne.2 hc];simp)]
        clear hfl hc
        obtain ⟨x,hx⟩:∃ x,x=s:=⟨_,rfl⟩
        have hxl:x.length=s.length:=by rw [hx]
        have hext:(⟨s.toArray⟩:ByteArray).extract 0 s.length=⟨x.toArray⟩:=by rw [Lib.extract_mk,hx,Nat.sub_zero,List.drop_zero,List.take_length]
        have hxs:(⟨x.toArray⟩:ByteArray).size=x.length:=Lib.size_mk _
        have hcv:=HCV.out x
        rw [hxs] at hcv
        obtain ⟨cap,hcap⟩:∃ cap,cap=grownCap w0 x.length 0 5:=⟨_,rfl⟩
        obtain ⟨w2,hw2⟩:∃ w2,w2=Lib.bytesWorld w0 5 ⟨x.toArray⟩:=⟨_,rfl⟩
        have hz:=rowZ_new w0 x (by omega)
        rw [← hcap,← hw2] at hz hcv
        rw [HZ0.out] at hz hcv
        rw [HW0.out] at hcv
        have HZ:=hid hz
        have HB2:=hid (show Below (w.heap.size+1) w0 w2 by rw [hw2,← HZ0.out];exact Lib.bytesWorld_below _ _ _)
        have HX:=hid hx
        have HXL:=hid hxl
        rw [hxl] at hcv
        clear hcap hw2 hz hx hxl hxs
        go_enter Tryz.func140,Tryz.ntmps140
        have hmin:min ((s.length:Nat):Int) (s.length:Int)=(s.length:Int):=by omega
        go_wp2_with fail
        go_loopg [7] (s.length-x.length) (fun k ov wr=>∃ (out:Str),RowZ (w.heap.size+1) wr ov out∧out=x++List.replicate (out.length-x.length) 0∧x.length≤out.length∧out.length≤max x.length (s.length)∧Below (w.heap.size+1) w0 wr∧k=s.length-out.length)
        case atStart=>exact ⟨x,by have h:=HZ.out;rw [HXL.out] at h;exact h,by rw [Nat.sub_self];exact (List.append_nil x).symm,Nat.le_refl _,Nat.le_max_left _ _,HB2.out,rfl⟩
        case round=>
          obtain ⟨out,hrow,hoe,hol,hom,hbl,hk⟩:=hrel
          replace hk:=hk.symm
          subst hk
          obtain ⟨ao,co,hov⟩:=hrow.shape
          subst hov
          have HROW:=hid hrow
          have HOE:=hid hoe
          have HBL:=hid hbl
          clear hrow hoe hbl
          rcases Nat.lt_or_ge out.length (s.length) with hlt | hge
          · have hltI:(out.length:Int)<((s.length:Nat):Int):=by omega
            go_wp2_with (at_builtin;refine appZ_lit0 rfl rfl (.tmp 31) (.tmp 33) rfl (w.heap.size+1) _ _ rfl HROW.out rfl (by omega) ?_;intro v9 w9 hr9 hb9;have HR9:=hid hr9;have HB9:=hid hb9;clear hr9 hb9)
            go_roundg (s.length-(out.length+1))
            case measure=>omega
            case rel=>exact ⟨out++[0],HR9.out,by rw [List.length_append,show out.length + [(0:UInt8)].length-x.length=(out.length-x.length)+1 by (show out.length+1-x.length=_;omega),List.replicate_succ',← List.append_assoc,← HOE.out],by rw [List.length_append];omega,by rw [List.length_append];show out.length+1≤_;omega,HBL.out.trans HB9.out,by rw [List.length_append];rfl⟩
          · have hnlt:¬ ((out.length:Int)<((s.length:Nat):Int)):=by omega
            have HF:=hid (show out=s.take N++List.replicate (N-s.length) 0 by
              have h1:=HXL.out
              rw [HOE.out,HNE.out,List.take_of_length_le (by omega),HX.out,show out.length-s.length=s.length-s.length by (rw [HX.out] at hol hom;omega)])
            clear hge
            go_wp2
            go_ret
            exact ⟨_,rfl,by rw [← HF.out];exact HROW.out.toX.mono (by omega),HB0.out.trans (HBL.out.mono (by omega))⟩
  · subst hq
    have e1:((m:Int) == -1)=false:=by rw [beq_eq_false_iff_ne];omega
    have e2:((m:Int) == -2)=false:=by rw [beq_eq_false_iff_ne];omega
    have HNE:=hid (show N=m by rw [HNN.out];unfold cntT oneC;dsimp only;rw [if_neg (by omega),if_neg (by omega)];exact Int.toNat_natCast m)
    clear HNN hn
    by_cases hfit:m<s.length
    · have hfI:((m:Nat):Int)<(s.length:Int):=by omega
      by_cases hc:c=65
      · as_aux_lemma =>
          have y65:((c.toNat:Int) == 65)=true:=byte_is hc rfl
          obtain rfl:fl=32:=by rw [hfl,hc];rfl
          clear hfl hc
          obtain ⟨x,hx⟩:∃ x,x=s.take m:=⟨_,rfl⟩
          have hxl:x.length=m:=by rw [hx,List.length_take];omega
          have hext:(⟨s.toArray⟩:ByteArray).extract 0 m=⟨x.toArray⟩:=by rw [Lib.extract_mk,hx,Nat.sub_zero,List.drop_zero]
          have hxs:(⟨x.toArray⟩:ByteArray).size=x.length:=Lib.size_mk _
          have hcv:=HCV.out x
          rw [hxs] at hcv
          obtain ⟨cap,hcap⟩:∃ cap,cap=grownCap w0 x.length 0 5:=⟨_,rfl⟩
          obtain ⟨w2,hw2⟩:∃ w2,w2=Lib.bytesWorld w0 5 ⟨x.toArray⟩:=⟨_,rfl⟩
          have hz:=rowZ_new w0 x (by omega)
          rw [← hcap,← hw2] at hz hcv
          rw [HZ0.out] at hz hcv
          rw [HW0.out] at hcv
          have HZ:=hid hz
          have HB2:=hid (show Below (w.heap.size+1) w0 w2 by rw [hw2,← HZ0.out];exact Lib.bytesWorld_below _ _ _)
          have HX:=hid hx
          have HXL:=hid hxl
          rw [hxl] at hcv
          clear hcap hw2 hz hx hxl hxs
          go_enter Tryz.func140,Tryz.ntmps140
          have hmin:min ((m:Nat):Int) (s.length:Int)=((m:Nat):Int):=by omega
          go_wp2_with fail
          go_loopg [7] (m-x.length) (fun k ov wr=>∃ (out:Str),RowZ (w.heap.size+1) wr ov out∧out=x++List.replicate (out.length-x.length) 32∧x.length≤out.length∧out.length≤max x.length (m)∧Below (w.heap.size+1) w0 wr∧k=m-out.length)
          case atStart=>exact ⟨x,by have h:=HZ.out;rw [HXL.out] at h;exact h,by rw [Nat.sub_self];exact (List.append_nil x).symm,Nat.le_refl _,Nat.le_max_left _ _,HB2.out,rfl⟩
          case round=>
            obtain ⟨out,hrow,hoe,hol,hom,hbl,hk⟩:=hrel
            replace hk:=hk.symm
            subst hk
            obtain ⟨ao,co,hov⟩:=hrow.shape
            subst hov
            have HROW:=hid hrow
            have HOE:=hid hoe
            have HBL:=hid hbl
            clear hrow hoe hbl
            rcases Nat.lt_or_ge out.length (m) with hlt | hge
            · have hltI:(out.length:Int)<((m:Nat):Int):=by omega
              go_wp2_with (at_builtin;refine appZ_lit32 rfl rfl (.tmp 31) (.tmp 33) rfl (w.heap.size+1) _ _ rfl HROW.out rfl (by omega) ?_;intro v9 w9 hr9 hb9;have HR9:=hid hr9;have HB9:=hid hb9;clear hr9 hb9)
              go_roundg (m-(out.length+1))
              case measure=>omega
              case rel=>exact ⟨out++[32],HR9.out,by rw [List.length_append,show out.length + [(32:UInt8)].length-x.length=(out.length-x.length)+1 by (show out.length+1-x.length=_;omega),List.replicate_succ',← List.append_assoc,← HOE.out],by rw [List.length_append];omega,by rw [List.length_append];show out.length+1≤_;omega,HBL.out.trans HB9.out,by rw [List.length_append];rfl⟩
            · have hnlt:¬ ((out.length:Int)<((m:Nat):Int)):=by omega
              have HF:=hid (show out=s.take N++List.replicate (N-s.length) 32 by
                have h1:=HXL.out
                rw [HOE.out,show out.length-x.length=0 by omega,HNE.out,show m-s.length=0 by omega,HX.out])
              clear hge
              go_wp2
              go_ret
              exact ⟨_,rfl,by rw [← HF.out];exact HROW.out.toX.mono (by omega),HB0.out.trans (HBL.out.mono (by omega))⟩
      · as_aux_lemma =>
          have y65:((c.toNat:Int) == 65)=false:=byte_ne (k:=65) 65 hc rfl
          obtain rfl:fl=0:=by rw [hfl,if_neg (by rw [beq_eq_false_iff_ne.2 hc];simp)]
          clear hfl hc
          obtain ⟨x,hx⟩:∃ x,x=s.take m:=⟨_,rfl⟩
          have hxl:x.length=m:=by rw [hx,List.length_take];omega
          have hext:(⟨s.toArray⟩:ByteArray).extract 0 m=⟨x.toArray⟩:=by rw [Lib.extract_mk,hx,Nat.sub_zero,List.drop_zero]
          have hxs:(⟨x.toArray⟩:ByteArray).size=x.length:=Lib.size_mk _
          have hcv:=HCV.out x
          rw [hxs] at hcv
          obtain ⟨cap,hcap⟩:∃ cap,cap=grownCap w0 x.length 0 5:=⟨_,rfl⟩
          obtain ⟨w2,hw2⟩:∃ w2,w2=Lib.bytesWorld w0 5 ⟨x.toArray⟩:=⟨_,rfl⟩
          have hz:=rowZ_new w0 x (by omega)
          rw [← hcap,← hw2] at hz hcv
          rw [HZ0.out] at hz hcv
          rw [HW0.out] at hcv
          have HZ:=hid hz
          have HB2:=hid (show Below (w.heap.size+1) w0 w2 by rw [hw2,← HZ0.out];exact Lib.bytesWorld_below _ _ _)
          have HX:=hid hx
          have HXL:=hid hxl
          rw [hxl] at hcv
          clear hcap hw2 hz hx hxl hxs
          go_enter Tryz.func140,Tryz.ntmps140
          have hmin:min ((m:Nat):Int) (s.length:Int)=((m:Nat):Int):=by omega
          go_wp2_with fail
          go_loopg [7] (m-x.length) (fun k ov wr=>∃ (out:Str),RowZ (w.heap.size+1) wr ov out∧out=x++List.replicate (out.length-x.length) 0∧x.length≤out.length∧out.length≤max x.length (m)∧Below (w.heap.size+1) w0 wr∧k=m-out.length)
          case atStart=>exact ⟨x,by have h:=HZ.out;rw [HXL.out] at h;exact h,by rw [Nat.sub_self];exact (List.append_nil x).symm,Nat.le_refl _,Nat.le_max_left _ _,HB2.out,rfl⟩
          case round=>
            obtain ⟨out,hrow,hoe,hol,hom,hbl,hk⟩:=hrel
            replace hk:=hk.symm
            subst hk
            obtain ⟨ao,co,hov⟩:=hrow.shape
            subst hov
            have HROW:=hid hrow
            have HOE:=hid hoe
            have HBL:=hid hbl
            clear hrow hoe hbl
            rcases Nat.lt_or_ge out.length (m) with hlt | hge
            · have hltI:(out.length:Int)<((m:Nat):Int):=by omega
              go_wp2_with (at_builtin;refine appZ_lit0 rfl rfl (.tmp 31) (.tmp 33) rfl (w.heap.size+1) _ _ rfl HROW.out rfl (by omega) ?_;intro v9 w9 hr9 hb9;have HR9:=hid hr9;have HB9:=hid hb9;clear hr9 hb9)
              go_roundg (m-(out.length+1))
              case measure=>omega
              case rel=>exact ⟨out++[0],HR9.out,by rw [List.length_append,show out.length + [(0:UInt8)].length-x.length=(out.length-x.length)+1 by (show out.length+1-x.length=_;omega),List.replicate_succ',← List.append_assoc,← HOE.out],by rw [List.length_append];omega,by rw [List.length_append];show out.length+1≤_;omega,HBL.out.trans HB9.out,by rw [List.length_append];rfl⟩
            · have hnlt:¬ ((out.length:Int)<((m:Nat):Int)):=by omega
              have HF:=hid (show out=s.take N++List.replicate (N-s.length) 0 by
                have h1:=HXL.out
                rw [HOE.out,show out.length-x.length=0 by omega,HNE.out,show m-s.length=0 by omega,HX.out])
              clear hge
              go_wp2
              go_ret
              exact ⟨_,rfl,by rw [← HF.out];exact HROW.out.toX.mono (by omega),HB0.out.trans (HBL.out.mono (by omega))⟩
    · have hfI:¬ (((m:Nat):Int)<(s.length:Int)):=by omega
      by_cases hc:c=65
      · as_aux_lemma =>
          have y65:((c.toNat:Int) == 65)=true:=byte_is hc rfl
          obtain rfl:fl=32:=by rw [hfl,hc];rfl
          clear hfl hc
          obtain ⟨x,hx⟩:∃ x,x=s:=⟨_,rfl⟩
          have hxl:x.length=s.length:=by rw [hx]
          have hext:(⟨s.toArray⟩:ByteArray).extract 0 s.length=⟨x.toArray⟩:=by rw [Lib.extract_mk,hx,Nat.sub_zero,List.drop_zero,List.take_length]
          have hxs:(⟨x.toArray⟩:ByteArray).size=x.length:=Lib.size_mk _
          have hcv:=HCV.out x
          rw [hxs] at hcv
          obtain ⟨cap,hcap⟩:∃ cap,cap=grownCap w0 x.length 0 5:=⟨_,rfl⟩
          obtain ⟨w2,hw2⟩:∃ w2,w2=Lib.bytesWorld w0 5 ⟨x.toArray⟩:=⟨_,rfl⟩
          have hz:=rowZ_new w0 x (by omega)
          rw [← hcap,← hw2] at hz hcv
          rw [HZ0.out] at hz hcv
          rw [HW0.out] at hcv
          have HZ:=hid hz
          have HB2:=hid (show Below (w.heap.size+1) w0 w2 by rw [hw2,← HZ0.out];exact Lib.bytesWorld_below _ _ _)
          have HX:=hid hx
          have HXL:=hid hxl
          rw [hxl] at hcv
          clear hcap hw2 hz hx hxl hxs
          go_enter Tryz.func140,Tryz.ntmps140
          have hmin:min ((m:Nat):Int) (s.length:Int)=(s.length:Int):=by omega
          go_wp2_with fail
          go_loopg [7] (m-x.length) (fun k ov wr=>∃ (out:Str),RowZ (w.heap.size+1) wr ov out∧out=x++List.replicate (out.length-x.length) 32∧x.length≤out.length∧out.length≤max x.length (m)∧Below (w.heap.size+1) w0 wr∧k=m-out.length)
          case atStart=>exact ⟨x,by have h:=HZ.out;rw [HXL.out] at h;exact h,by rw [Nat.sub_self];exact (List.append_nil x).symm,Nat.le_refl _,Nat.le_max_left _ _,HB2.out,rfl⟩
          case round=>
            obtain ⟨out,hrow,hoe,hol,hom,hbl,hk⟩:=hrel
            replace hk:=hk.symm
            subst hk
            obtain ⟨ao,co,hov⟩:=hrow.shape
            subst hov
            have HROW:=hid hrow
            have HOE:=hid hoe
            have HBL:=hid hbl
            clear hrow hoe hbl
            rcases Nat.lt_or_ge out.length (m) with hlt | hge
            · have hltI:(out.length:Int)<((m:Nat):Int):=by omega
              go_wp2_with (at_builtin;refine appZ_lit32 rfl rfl (.tmp 31) (.tmp 33) rfl (w.heap.size+1) _ _ rfl HROW.out rfl (by omega) ?_;intro v9 w9 hr9 hb9;have HR9:=hid hr9;have HB9:=hid hb9;clear hr9 hb9)
              go_roundg (m-(out.length+1))
              case measure=>omega
              case rel=>exact ⟨out++[32],HR9.out,by rw [List.length_append,show out.length + [(32:UInt8)].length-x.length=(out.length-x.length)+1 by (show out.length+1-x.length=_;omega),List.replicate_succ',← List.append_assoc,← HOE.out],by rw [List.length_append];omega,by rw [List.length_append];show out.length+1≤_;omega,HBL.out.trans HB9.out,by rw [List.length_append];rfl⟩
            · have hnlt:¬ ((out.length:Int)<((m:Nat):Int)):=by omega
              have HF:=hid (show out=s.take N++List.replicate (N-s.length) 32 by
                have h1:=HXL.out
                rw [HOE.out,HNE.out,List.take_of_length_le (by omega),HX.out,show out.length-s.length=m-s.length by (rw [HX.out] at hol hom;omega)])
              clear hge
              go_wp2
              go_ret
              exact ⟨_,rfl,by rw [← HF.out];exact HROW.out.toX.mono (by omega),HB0.out.trans (HBL.out.mono (by omega))⟩
      · as_aux_lemma =>
          have y65:((c.toNat:Int) == 65)=false:=byte_ne (k:=65) 65 hc rfl
          obtain rfl:fl=0:=by rw [hfl,if_neg (by rw [beq_eq_false_iff_ne.2 hc];simp)]
          clear hfl hc
          obtain ⟨x,hx⟩:∃ x,x=s:=⟨_,rfl⟩
          have hxl:x.length=s.length:=by rw [hx]
          have hext:(⟨s.toArray⟩:ByteArray).extract 0 s.length=⟨x.toArray⟩:=by rw [Lib.extract_mk,hx,Nat.sub_zero,List.drop_zero,List.take_length]
          have hxs:(⟨x.toArray⟩:ByteArray).size=x.length:=Lib.size_mk _
          have hcv:=HCV.out x
          rw [hxs] at hcv
          obtain ⟨cap,hcap⟩:∃ cap,cap=grownCap w0 x.length 0 5:=⟨_,rfl⟩
          obtain ⟨w2,hw2⟩:∃ w2,w2=Lib.bytesWorld w0 5 ⟨x.toArray⟩:=⟨_,rfl⟩
          have hz:=rowZ_new w0 x (by omega)
          rw [← hcap,← hw2] at hz hcv
          rw [HZ0.out] at hz hcv
          rw [HW0.out] at hcv
          have HZ:=hid hz
          have HB2:=hid (show Below (w.heap.size+1) w0 w2 by rw [hw2,← HZ0.out];exact Lib.bytesWorld_below _ _ _)
          have HX:=hid hx
          have HXL:=hid hxl
          rw [hxl] at hcv
          clear hcap hw2 hz hx hxl hxs
          go_enter Tryz.func140,Tryz.ntmps140
          have hmin:min ((m:Nat):Int) (s.length:Int)=(s.length:Int):=by omega
          go_wp2_with fail
          go_loopg [7] (m-x.length) (fun k ov wr=>∃ (out:Str),RowZ (w.heap.size+1) wr ov out∧out=x++List.replicate (out.length-x.length) 0∧x.length≤out.length∧out.length≤max x.length (m)∧Below (w.heap.size+1) w0 wr∧k=m-out.length)
          case atStart=>exact ⟨x,by have h:=HZ.out;rw [HXL.out] at h;exact h,by rw [Nat.sub_self];exact (List.append_nil x).symm,Nat.le_refl _,Nat.le_max_left _ _,HB2.out,rfl⟩
          case round=>
            obtain ⟨out,hrow,hoe,hol,hom,hbl,hk⟩:=hrel
            replace hk:=hk.symm
            subst hk
            obtain ⟨ao,co,hov⟩:=hrow.shape
            subst hov
            have HROW:=hid hrow
            have HOE:=hid hoe
            have HBL:=hid hbl
            clear hrow hoe hbl
            rcases Nat.lt_or_ge out.length (m) with hlt | hge
            · have hltI:(out.length:Int)<((m:Nat):Int):=by omega
              go_wp2_with (at_builtin;refine appZ_lit0 rfl rfl (.tmp 31) (.tmp 33) rfl (w.heap.size+1) _ _ rfl HROW.out rfl (by omega) ?_;intro v9 w9 hr9 hb9;have HR9:=hid hr9;have HB9:=hid hb9;clear hr9 hb9)
              go_roundg (m-(out.length+1))
              case measure=>omega
              case rel=>exact ⟨out++[0],HR9.out,by rw [List.length_append,show out.length + [(0:UInt8)].length-x.length=(out.length-x.length)+1 by (show out.length+1-x.length=_;omega),List.replicate_succ',← List.append_assoc,← HOE.out],by rw [List.length_append];omega,by rw [List.length_append];show out.length+1≤_;omega,HBL.out.trans HB9.out,by rw [List.length_append];rfl⟩
            · have hnlt:¬ ((out.length:Int)<((m:Nat):Int)):=by omega
              have HF:=hid (show out=s.take N++List.replicate (N-s.length) 0 by
                have h1:=HXL.out
                rw [HOE.out,HNE.out,List.take_of_length_le (by omega),HX.out,show out.length-s.length=m-s.length by (rw [HX.out] at hol hom;omega)])
              clear hge
              go_wp2
              go_ret
              exact ⟨_,rfl,by rw [← HF.out];exact HROW.out.toX.mono (by omega),HB0.out.trans (HBL.out.mono (by omega))⟩
end Go.Proofs.YtihdndaibmgoiaaGreatDoor.Pz
namespace Go.Proofs.YtihdndaibmgoiaaGreatDoor.Pz
open Go.RowKit
attribute [local go_sem] Oper.semAt_some
def dgI (c:UInt8):Int:=if valH (UInt8.ofNat (c.toNat % 128))<16 then (valH (UInt8.ofNat (c.toNat % 128)):Nat) else -1
theorem digit_index (c:UInt8):Lib.indexByte [48,49,50,51,52,53,54,55,56,57,97,98,99,100,101,102] (Lib.lowerB (UInt8.ofNat (c.toNat % 128)))=dgI c:=by
 have h:(List.range 256).all (fun n=>Lib.indexByte [48,49,50,51,52,53,54,55,56,57,97,98,99,100,101,102] (Lib.lowerB (UInt8.ofNat (n % 128))) == (if valH (UInt8.ofNat (n % 128))<16 then ((valH (UInt8.ofNat (n % 128)):Nat):Int) else -1))=true:=by kernel_rfl
 have h2:=List.all_eq_true.1 h c.toNat (List.mem_range.2 c.toNat_lt)
 unfold dgI
 simpa using h2
theorem and127 (c:UInt8):Go.bits .and .u8 (c.toNat:Int) 127=(((UInt8.ofNat (c.toNat % 128)).toNat:Nat):Int):=by
 have h:(List.range 256).all (fun n=>Go.bits .and .u8 (n:Int) 127 == (((UInt8.ofNat (n % 128)).toNat:Nat):Int))=true:=by kernel_rfl
 have h2:=List.all_eq_true.1 h c.toNat (List.mem_range.2 c.toNat_lt)
 simpa using h2
set_option maxRecDepth 100000 in
set_option maxHeartbeats 2000000 in
theorem digitR_fn (c:UInt8) (w:World):Calls Tryz.prog 143 #[.int .u8 (c.toNat:Nat)] w fun e w'=>e=.returned (.int .i64 (dgI c))∧Below w.heap.size w w':=by
 have hand:=and127 c
 have hdi:=digit_index c
 obtain ⟨b,hb⟩:∃ b,b=UInt8.ofNat (c.toNat % 128):=⟨_,rfl⟩
 have hbl:b.toNat<128:=by rw [hb,ofNat_lt2 (by omega)];omega
 obtain ⟨R,hR⟩:∃ R,R=dgI c:=⟨_,rfl⟩
 rw [← hb] at hand hdi
 rw [← hR] at hdi ⊢
 obtain ⟨w1,hw1⟩:∃ w1,w1=w.alloc (.cells #[.int .u8 (b.toNat:Nat)] 5):=⟨_,rfl⟩
 have hcv:=run_convert_bytes_back (P:=Tryz.prog) w1 46 9 5 ⟨w.heap.size,0,none⟩ 1 [b] Tryz.underlying46 Tryz.underlying5 Tryz.underlying9 (fun k hk=>by
  rw [hw1,add_none,Nat.zero_add,Lib.cell_of_heap (heap_alloc_new _ _)]
  match k,hk with
  | 0,_=>rfl)
 have HB1:=hid (show Below w.heap.size w w1 by rw [hw1];exact (Below.refl _ _).alloc (Nat.le_refl _) _)
 have HL:=hid (fun u=>Tryz.strings_ToLower_ascii ⟨[b].toArray⟩ u (by rw [Lib.size_mk];show 1≤140737488355328;decide) (fun j x hj=>by
  have hj:([b]:Str)[j]? = some x:=hj
  match j,hj with
  | 0,hj=>simp at hj;rw [← hj];exact hbl))
 have HLL:=hid (show ∀ u,Calls Tryz.prog 173 #[.string ⟨[b].toArray⟩] u fun e w'=>e=.returned (.string ⟨#[Lib.lowerB b]⟩)∧Below u.heap.size u w' from HL.out)
 have HI:=hid (show ∀ u,Calls Tryz.prog 102 #[.string ⟨#[48,49,50,51,52,53,54,55,56,57,97,98,99,100,101,102]⟩,.string ⟨#[Lib.lowerB b]⟩] u fun e w'=>e=.returned (.int .i64 R)∧w'=u from fun u=>by
  have h:=Tryz.strings_Index_one ⟨#[48,49,50,51,52,53,54,55,56,57,97,98,99,100,101,102]⟩ (Lib.lowerB b) u
  rw [← hdi]
  exact h)
 rw [hw1,show ([b]:Str).length=1 from rfl] at hcv
 have HW1:=hid hw1
 clear hb hR hdi HL hw1
 go_enter Tryz.func143,Tryz.ntmps143
 go_wp2_with (first|(go_at_call 173;(with_reducible refine (HLL.out _).mono ?_);rintro e w3 ⟨rfl,hb3⟩;rw [← HW1.out] at hb3;have HB3:=hid (HB1.out.trans (hb3.mono HB1.out.size));clear hb3)|(go_at_call 102;(with_reducible refine (HI.out _).mono ?_);rintro e w4 ⟨rfl,rfl⟩))
 go_ret
 exact ⟨rfl,HB3.out⟩
theorem dgI_big {d:UInt8} (h:d.toNat<128) (hv:16≤valH d):dgI d = -1:=by
 unfold dgI
 rw [Nat.mod_eq_of_lt h,UInt8.ofNat_toNat,if_neg (by omega)]
theorem dgI_small {d:UInt8} (hv:valH d<16):d.toNat<128∧dgI d=(valH d:Nat):=by
 have h:d.toNat<128:=by
  unfold valH at hv
  split at hv
  ·omega
  ·split at hv
   ·omega
   ·split at hv
    ·omega
    ·omega
 refine ⟨h,?_⟩
 unfold dgI
 rw [Nat.mod_eq_of_lt h,UInt8.ofNat_toNat,if_pos hv]
def PkdQ (r:Option Str) (w:World) (e:Ending) (w':World):Prop:=∃ v,e=.returned (.tuple #[v,.bool r.isSome])∧RowY w.heap.size w' v (r.getD [])∧Below w.heap.size w w'
set_option maxRecDepth 1000000 in
set_option maxHeartbeats 8000000 in
theorem packed2R_fn (c:UInt8) (p:Bool) (n:Int) (hbits:bitsL c=4) (hg:grt c=(c == 72 || c == 66)) (s:Str) (hs:s.length≤100000) (hn:-2≤n∧n≤800000) (w:World) :
  Calls Tryz.prog 103 #[.agg #[.int .u8 (c.toNat:Nat),.bool p,.int .i64 n],.string ⟨s.toArray⟩,.int .i64 2] w (PkdQ (digE c (cntT ⟨c,p,n⟩ s) 0 s (List.replicate ((cntT ⟨c,p,n⟩ s+1) / 2) 0)) w):=by
 have hsz:(⟨s.toArray⟩:ByteArray).size=s.length:=Lib.size_mk _
 obtain ⟨N,hN⟩:∃ N,N=cntT ⟨c,p,n⟩ s:=⟨_,rfl⟩
 obtain ⟨M,hM⟩:∃ M,M=(N+1) / 2:=⟨_,rfl⟩
 rw [← hN,← hM]
 have hN1:=hid (fun (h:n = -1)=>show N=1 by rw [hN];unfold cntT oneC;subst h;rfl)
 have hN2:=hid (fun (h:n = -2)=>show N=s.length by rw [hN];unfold cntT;subst h;rfl)
 have hN3:=hid (fun (h:0≤n)=>show (N:Int)=n by
  rw [hN];unfold cntT oneC;dsimp only
  rw [if_neg (by omega),if_neg (by omega)];omega)
 have hN9:N≤800000:=by
  rcases (show n = -1∨n = -2∨0≤n by omega) with h | h | h
  ·rw [hN1.out h];decide
  ·rw [hN2.out h];omega
  ·have:=hN3.out h;omega
 obtain ⟨R,hR⟩:∃ R,R=digE c N 0 s (List.replicate M 0):=⟨_,rfl⟩
 rw [← hR]
 have HR:=hid hR
 obtain ⟨w0,hw0⟩:∃ w0,w0=w.alloc (.cells #[.int .u8 (c.toNat:Nat),.bool p,.int .i64 n] 103):=⟨_,rfl⟩
 have c0:w0.cell? ⟨w.heap.size,0,none⟩=some (.int .u8 (c.toNat:Nat)):=by rw [hw0,Lib.cell_of_heap (heap_alloc_new _ _)];rfl
 have c2:w0.cell? ⟨w.heap.size,2,none⟩=some (.int .i64 n):=by rw [hw0,Lib.cell_of_heap (heap_alloc_new _ _)];rfl
 have HC0:=hid c0
 have HB0:=hid (show Below w.heap.size w w0 by rw [hw0];exact (Below.refl _ _).alloc (Nat.le_refl _) _)
 have HZ0:=hid (show w.heap.size<w0.heap.size by rw [hw0];simp)
 have HGR:=hid (fun u=>great_fn c u)
 have HG:=hid hg
 have HBITS:=hid hbits
 have HW0:=hid hw0
 have HMN:=hid hM
 clear hw0 hbits hR hg hN hM c0
 unfold PkdQ
 go_enter Tryz.func103,Tryz.ntmps103
 go_upto_block 0 with fail
 rw [← HW0.out]
 go_cut [8] from 13 to 83 (fun nv wx=>nv=.int .i64 (N:Nat)∧wx=w0)
 case first=>
  rcases (show n = -1∨n = -2∨0≤n by omega) with h | h | h
  ·have HQ:=hid (hN1.out h)
   subst h
   go_wp2
   go_meet
   case rel=>exact ⟨by rw [HQ.out];rfl,rfl⟩
  ·have HQ:=hid (hN2.out h)
   subst h
   go_wp2
   go_meet
   case rel=>exact ⟨by rw [HQ.out],rfl⟩
  ·have HQ:=hid (hN3.out h)
   have e1:(n == -1)=false:=by rw [beq_eq_false_iff_ne];omega
   have e2:(n == -2)=false:=by rw [beq_eq_false_iff_ne];omega
   clear h hn
   go_wp2
   go_meet
   case rel=>exact ⟨by rw [HQ.out],rfl⟩
 obtain ⟨rfl,hw⟩:=hcut
 replace hw:=hw.symm
 subst hw
 clear hN1 hN2 hN3 hn c2 HW0
 have htd:Int.tdiv ((N:Int)+2-1) 2=(M:Int):=by rw [Int.tdiv_eq_ediv_of_nonneg (by omega),HMN.out];omega
 have htd2:Int.tdiv ((N:Int)+1) 2=(M:Int):=by rw [Int.tdiv_eq_ediv_of_nonneg (by omega),HMN.out];omega
 have htd3:((N:Int)+2-1) / 2=(M:Int):=by rw [HMN.out];omega
 have htd4:((N:Int)+1) / 2=(M:Int):=by rw [HMN.out];omega
 have hM9:M≤800000:=by rw [HMN.out];omega
 have hwM:IntKind.i64.wrap (M:Int)=(M:Int):=IntWalk.i64_in _ (by omega)
 go_upto_region 8 with (at_make;refine mk_zero _ rfl _ _ rfl M _ _ rfl rfl rfl rfl (by omega) ?_;intro w4 hr4 hb4;have HRO:=hid hr4;have HB4:=hid hb4;clear hr4 hb4)
 obtain ⟨G,hG⟩:∃ G,G=w0.heap.size:=⟨_,rfl⟩
 rw [← hG] at HRO HB4 HZ0
 rw [← hG]
 have HGE:=hid hG
 clear hG
 have HC4:=hid (show w4.cell? ⟨w.heap.size,0,none⟩=some (.int .u8 (c.toNat:Nat)) from (HB4.out.cell (p:=⟨w.heap.size,0,none⟩) HZ0.out).trans HC0.out)
 clear htd htd2 htd3 htd4 hwM HC0
 go_wp2_with fail
 go_loopg [31] s.length (fun k iv wr=>∃ (i:Nat) (o l:Str),iv=.int .i64 (i:Nat)∧At s l i∧RowY G wr (.slice (some ⟨G,0,none⟩) M M) o∧o.length=M∧R=digE c N i l o∧wr.cell? ⟨w.heap.size,0,none⟩=some (.int .u8 (c.toNat:Nat))∧Below G w0 wr∧k=l.length)
 case atStart=>exact ⟨0,_,s,rfl,At.start s,HRO.out,by simp,HR.out,HC4.out,HB4.out,rfl⟩
 case round=>
  obtain ⟨i,o,l,rfl,ha,hro,hol,hR2,hc0,hbl,rfl⟩:=hrel
  have HROW:=hid hro
  have HR2:=hid hR2
  have HCC:=hid hc0
  have HBL:=hid hbl
  have hlen:=ha.len
  have HA:=hid ha
  clear hro hR2 hc0 hbl ha HRO HC4 HB4
  cases l with
  | nil=>
   have hge:¬ ((i:Int)<(s.length:Int)):=by simp at hlen;omega
   have HO:=hid (show R=some o from HR2.out)
   go_wp2
   go_ret2
   exact ⟨_,by rw [HO.out];rfl,by rw [HO.out];exact RowY.mono HROW.out (by have:=HZ0.out;omega),HB0.out.trans (HBL.out.mono (by have:=HZ0.out;omega))⟩
  | cons d t=>
   have hlt:=HA.out.lt
   have hltI:(i:Int)<(s.length:Int):=by omega
   have hx:=HA.out.byte
   have hR3:=HR2.out
   rw [digE,HBITS.out] at hR3
   have HDF:=hid (fun u=>digitR_fn d u)
   obtain ⟨dv,hdv⟩:∃ dv,dv=dgI d:=⟨_,rfl⟩
   rw [← hdv] at HDF
   by_cases hbad:2 ^ 4≤valH d
   ·have HO:=hid (show R=none by rw [hR3,if_pos hbad])
    by_cases h127:127<d.toNat
    ·have hI:(127:Int)<(d.toNat:Int):=by omega
     clear hR3 hbad hdv h127
     go_wp2_with (go_at_call 143;(with_reducible refine (HDF.out _).mono ?_);rintro e w5 ⟨rfl,hb5⟩;have HB5:=hid hb5;clear hb5)
     go_ret2
     exact ⟨_,by rw [HO.out];rfl,by rw [HO.out];exact RowY.nil _ _,HB0.out.trans ((HBL.out.trans (HB5.out.mono (by have:=HBL.out.size;have:=HGE.out;omega))).mono (by have:=HZ0.out;omega))⟩
    ·have hI:¬ ((127:Int)<(d.toNat:Int)):=by omega
     by_cases h16:16≤valH d
     ·have hneg:dv = -1:=by rw [hdv];exact dgI_big (by omega) h16
      subst hneg
      clear hR3 hbad hdv h127 h16
      go_wp2_with (go_at_call 143;(with_reducible refine (HDF.out _).mono ?_);rintro e w5 ⟨rfl,hb5⟩;have HB5:=hid hb5;clear hb5)
      go_ret2
      exact ⟨_,by rw [HO.out];rfl,by rw [HO.out];exact RowY.nil _ _,HB0.out.trans ((HBL.out.trans (HB5.out.mono (by have:=HBL.out.size;have:=HGE.out;omega))).mono (by have:=HZ0.out;omega))⟩
     ·exact absurd (show 16≤valH d from hbad) h16
   ·obtain ⟨v,hv⟩:∃ v,v=valH d:=⟨_,rfl⟩
    rw [← hv] at hbad hR3
    rw [if_neg hbad] at hR3
    have hvl:v<16:=by omega
    obtain ⟨h128,hd2⟩:=dgI_small (d:=d) (by rw [← hv];omega)
    have hdV:dv=(v:Int):=by rw [hdv,hd2,hv]
    subst hdV
    have hI:¬ ((127:Int)<(d.toNat:Int)):=by omega
    have h1v:¬ ((15:Int)<(v:Int)):=by omega
    have HO:=hid hR3
    clear hR3 hbad hdv h128 hd2 hv
    by_cases hiN:i<N
    ·have hiI:¬ ((N:Int)≤(i:Int)):=by omega
     obtain ⟨J,hJe⟩:∃ J,J=i*4 / 8:=⟨_,rfl⟩
     have hJ:J<M:=by have:=HMN.out;omega
     have hJI:(i:Int) / 2=(J:Int):=by omega
     have hJM:(J:Int)<(M:Int):=by omega
     obtain ⟨m,hm⟩:∃ m,m=i % 2:=⟨_,rfl⟩
     have hml:m<2:=by rw [hm];exact Nat.mod_lt _ (by decide)
     have htm:Int.tmod (i:Int) 2=(m:Int):=by rw [Int.tmod_eq_emod_of_nonneg (by omega)];omega
     have hwm:IntKind.i64.wrap (m:Int)=(m:Int):=IntWalk.i64_in _ (by omega)
     have HSH:=hid (show shiftL c i 4=4*(if grt c then 2-1-m else m) by
      unfold shiftL
      rw [hm,← HG.out]
      cases grt c<;>rfl)
     obtain ⟨ob,hob⟩:∃ ob,o[J]? = some ob:=⟨_,List.getElem?_eq_getElem (by omega)⟩
     have HJE:=hid hJe
     have HOB:=hid hob
     clear hJe hm hob
     cases hgc:grt c with
     | false=>
      obtain ⟨pl,hpl⟩:∃ pl,pl=m:=⟨_,rfl⟩
      have hplI:(m:Int)=(pl:Int):=by omega
      have hpl8:pl<2:=by omega
      obtain ⟨sh,hsh⟩:∃ sh,sh=4*pl:=⟨_,rfl⟩
      have hshI:(pl:Int)*8 / 2=(sh:Int):=by omega
      have hsh7:sh≤7:=by omega
      have HSL:=hid (show IntKind.i64.wrap ((v:Int)*2 ^ sh)=(v:Int)*2 ^ sh by
       have hs:=shl_in (v:=v) (sh:=sh) (by omega) hsh7
       rw [Nat.min_eq_left (by omega)] at hs
       exact hs)
      have HSHE:=hid (show shiftL c i 4=sh by rw [HSH.out,hgc,hsh,hpl];rfl)
      have HGC:=hid (show ∀ u,Calls Tryz.prog 133 #[.int .u8 (c.toNat:Nat)] u fun e w'=>e=.returned (.bool false)∧w'=u from fun u=>by have h:=HGR.out u;rw [hgc] at h;exact h)
      obtain ⟨nb,hne⟩:∃ nb:UInt8,nb=ob ||| UInt8.ofNat (v*2 ^ sh % 256):=⟨_,rfl⟩
      have HNE:=hid hne
      clear hne hgc hpl hsh
      go_upto_region 18 with (first|(go_at_call 143;(with_reducible refine (HDF.out _).mono ?_);rintro e w5 ⟨rfl,hb5⟩;have hc5:=(hb5.cell (p:=⟨w.heap.size,0,none⟩) (by have:=HZ0.out;have:=(HROW.out.lt G rfl).1;show w.heap.size<wr.heap.size;omega)).trans HCC.out;have HC5:=hid hc5;have HB5:=hid hb5;clear hb5)|(go_at_call 133;(with_reducible refine (HGC.out _).mono ?_);rintro e w6 ⟨rfl,rfl⟩))
      have HROW5:=hid (HROW.out.on HB5.out)
      have hcJ:w6.cell? ⟨G,J,none⟩=some (.int .u8 (ob.toNat:Nat)):=by
       obtain ⟨hJl,hoe⟩:=List.getElem?_eq_some_iff.1 HOB.out
       rw [← hoe]
       exact HROW5.out.cellI hJl
      have S0:Hid ((fun u:World=>u.cell? ⟨w.heap.size,0,none⟩=some (.int .u8 (c.toNat:Nat))∧u.cell? ⟨G,J,none⟩=some (.int .u8 (ob.toNat:Nat))) w6.drew):=hid ⟨HC5.out,hcJ⟩
      clear hcJ hc5
      refine U_begin (late:=fun k=>decide (14≤k)) (S:=fun u:World=>u.cell? ⟨w.heap.size,0,none⟩=some (.int .u8 (c.toNat:Nat))∧u.cell? ⟨G,J,none⟩=some (.int .u8 (ob.toNat:Nat))) (by kernel_rfl) ?_
      refine U_take2 8 (i:=0) (v:=.slice (some ⟨G,0,none⟩) M M) rfl (by kernel_rfl) (by kernel_rfl) (by kernel_rfl) (by kernel_rfl) (by kernel_rfl) (fun _ _ _ h=>h) (.inl ⟨rfl,fun u hu=>(by go_simp)⟩) S0.out ?_
      refine U_take2 8 (i:=1) (v:=.int .i64 (i:Nat)) rfl (by kernel_rfl) (by kernel_rfl) (by kernel_rfl) (by kernel_rfl) (by kernel_rfl) (fun _ _ _ h=>h) (.inl ⟨rfl,fun u hu=>(by go_simp)⟩) S0.out ?_
      refine U_take2 8 (i:=2) (v:=.int .i64 2) rfl (by kernel_rfl) (by kernel_rfl) (by kernel_rfl) (by kernel_rfl) (by kernel_rfl) (fun _ _ _ h=>h) (.inl ⟨rfl,fun u hu=>(by go_simp)⟩) S0.out ?_
      refine U_take2 8 (i:=3) (v:=.int .i64 (J:Nat)) rfl (by kernel_rfl) (by kernel_rfl) (by kernel_rfl) (by kernel_rfl) (by kernel_rfl) (fun _ _ _ h=>h) (.inl ⟨rfl,fun u hu=>(by go_simp<;>first | exact IntWalk.i64_in _ (by omega)|(rw [Int.tdiv_eq_ediv_of_nonneg (by omega)];rw [IntWalk.i64_in _ (by omega)];exact hJI)|(rw [IntWalk.i64_in _ (by omega)];omega))⟩) S0.out ?_
      refine U_take2 8 (i:=4) (v:=.pointer (some ⟨G,J,none⟩)) rfl (by kernel_rfl) (by kernel_rfl) (by kernel_rfl) (by kernel_rfl) (by kernel_rfl) (fun _ _ _ h=>h) (.inl ⟨rfl,fun u hu=>(by go_simp)⟩) S0.out ?_
      refine U_take2 8 (i:=5) (v:=.int .u8 (ob.toNat:Nat)) rfl (by kernel_rfl) (by kernel_rfl) (by kernel_rfl) (by kernel_rfl) (by kernel_rfl) (fun _ _ _ h=>h) (.inl ⟨rfl,fun u hu=>(by obtain ⟨h1,h2⟩:=hu;go_simp)⟩) S0.out ?_
      refine U_take2 8 (i:=6) (v:=.int .i64 (v:Nat)) rfl (by kernel_rfl) (by kernel_rfl) (by kernel_rfl) (by kernel_rfl) (by kernel_rfl) (fun _ _ _ h=>h) (.inl ⟨rfl,fun u hu=>(by go_simp)⟩) S0.out ?_
      refine U_take2 8 (i:=7) (v:=.int .i64 (pl:Nat)) rfl (by kernel_rfl) (by kernel_rfl) (by kernel_rfl) (by kernel_rfl) (by kernel_rfl) (fun _ _ _ h=>h) (.inl ⟨rfl,fun u hu=>(by go_simp)⟩) S0.out ?_
      refine U_take2 8 (i:=8) (v:=.int .i64 ((pl:Int)*8)) rfl (by kernel_rfl) (by kernel_rfl) (by kernel_rfl) (by kernel_rfl) (by kernel_rfl) (fun _ _ _ h=>h) (.inl ⟨rfl,fun u hu=>(by go_simp<;>exact IntWalk.i64_in _ (by omega))⟩) S0.out ?_
      refine U_take2 8 (i:=9) (v:=.int .i64 2) rfl (by kernel_rfl) (by kernel_rfl) (by kernel_rfl) (by kernel_rfl) (by kernel_rfl) (fun _ _ _ h=>h) (.inl ⟨rfl,fun u hu=>(by go_simp)⟩) S0.out ?_
      refine U_take2 8 (i:=10) (v:=.int .i64 (sh:Nat)) rfl (by kernel_rfl) (by kernel_rfl) (by kernel_rfl) (by kernel_rfl) (by kernel_rfl) (fun _ _ _ h=>h) (.inl ⟨rfl,fun u hu=>(by go_simp<;>first | exact IntWalk.i64_in _ (by omega)|(rw [Int.tdiv_eq_ediv_of_nonneg (by omega)];rw [IntWalk.i64_in _ (by omega)];exact hshI)|(rw [IntWalk.i64_in _ (by omega)];omega))⟩) S0.out ?_
      refine U_take2 8 (i:=11) (v:=.int .i64 ((v:Int)*2 ^ sh)) rfl (by kernel_rfl) (by kernel_rfl) (by kernel_rfl) (by kernel_rfl) (by kernel_rfl) (fun _ _ _ h=>h) (.inl ⟨rfl,fun u hu=>(by go_simp<;>exact HSL.out)⟩) S0.out ?_
      refine U_take2 8 (i:=12) (v:=.int .u8 (((v*2 ^ sh % 256:Nat)):Int)) rfl (by kernel_rfl) (by kernel_rfl) (by kernel_rfl) (by kernel_rfl) (by kernel_rfl) (fun _ _ _ h=>h) (.inl ⟨rfl,fun u hu=>(by go_simp<;>exact IntKind.wrap_u8 _)⟩) S0.out ?_
      refine U_take2 8 (i:=13) (v:=.int .u8 (nb.toNat:Nat)) rfl (by kernel_rfl) (by kernel_rfl) (by kernel_rfl) (by kernel_rfl) (by kernel_rfl) (fun _ _ _ h=>h) (.inl ⟨rfl,fun u hu=>(by go_simp<;>exact or_in2 HNE.out)⟩) S0.out ?_
      have fr6:w6.drew.frozen? ⟨G,J,none⟩=false:=HROW5.out.free J
      have cJ6:=S0.out.2
      refine U_step (j:=14) (by kernel_rfl) rfl (fun K hK=>?_)
      go_simp
      refine hK.out _ _ (.inl rfl) ?_
      clear hK K
      refine U_step (j:=15) (by kernel_rfl) rfl (fun K hK=>?_)
      go_simp
      refine hK.out _ _ (.inl rfl) ?_
      clear hK K
      refine U_done (by kernel_rfl) ?_ _
      have hset:o.getD J 0=ob:=by rw [List.getD_eq_getElem?_getD,HOB.out];rfl
      have HNB:=hid (show R=digE c N (i+1) t (o.set J nb) by
       rw [HNE.out,HO.out,if_pos hiN,HSHE.out,← HJE.out,hset,Nat.shiftLeft_eq])
      have HROW6:=hid (RowY.set (HROW5.out.on (w':=w6.drew) (Below.refl _ w6).drew) J nb)
      have HBD:=hid (show Below G w0 w6.drew from (HBL.out.trans (HB5.out.mono (by have:=HBL.out.size;have:=HGE.out;omega))).drew)
      have HCD:=hid (show (w6.drew.setCell ⟨G,J,none⟩ (.int .u8 (nb.toNat:Nat))).cell? ⟨w.heap.size,0,none⟩=some (.int .u8 (c.toNat:Nat)) by
       rw [World.cell?_setCell_other _ _ _ _ (by intro h;have h2:=congrArg Addr.block h;have:=HZ0.out;first|(have h3:G=w.heap.size:=h2;omega)|(have h3:w.heap.size=G:=h2;omega))]
       exact HC5.out)
      clear S0 fr6 cJ6 hset
      go_wp2
      go_roundg t.length
      case measure=>first | omega | simp
      case rel=>exact ⟨i+1,o.set J nb,t,by go_num,HA.out.tail,HROW6.out,by rw [List.length_set];exact hol,HNB.out,HCD.out,HBD.out.setCell (Nat.le_refl _) _,rfl⟩
     | true=>
      obtain ⟨pl,hpl⟩:∃ pl,pl=2-1-m:=⟨_,rfl⟩
      have hplI:(1-(m:Int))=(pl:Int):=by omega
      have hpl8:pl<2:=by omega
      obtain ⟨sh,hsh⟩:∃ sh,sh=4*pl:=⟨_,rfl⟩
      have hshI:(pl:Int)*8 / 2=(sh:Int):=by omega
      have hsh7:sh≤7:=by omega
      have HSL:=hid (show IntKind.i64.wrap ((v:Int)*2 ^ sh)=(v:Int)*2 ^ sh by
       have hs:=shl_in (v:=v) (sh:=sh) (by omega) hsh7
       rw [Nat.min_eq_left (by omega)] at hs
       exact hs)
      have HSHE:=hid (show shiftL c i 4=sh by rw [HSH.out,hgc,hsh,hpl];rfl)
      have HGC:=hid (show ∀ u,Calls Tryz.prog 133 #[.int .u8 (c.toNat:Nat)] u fun e w'=>e=.returned (.bool true)∧w'=u from fun u=>by have h:=HGR.out u;rw [hgc] at h;exact h)
      obtain ⟨nb,hne⟩:∃ nb:UInt8,nb=ob ||| UInt8.ofNat (v*2 ^ sh % 256):=⟨_,rfl⟩
      have HNE:=hid hne
      clear hne hgc hpl hsh
      go_upto_region 18 with (first|(go_at_call 143;(with_reducible refine (HDF.out _).mono ?_);rintro e w5 ⟨rfl,hb5⟩;have hc5:=(hb5.cell (p:=⟨w.heap.size,0,none⟩) (by have:=HZ0.out;have:=(HROW.out.lt G rfl).1;show w.heap.size<wr.heap.size;omega)).trans HCC.out;have HC5:=hid hc5;have HB5:=hid hb5;clear hb5)|(go_at_call 133;(with_reducible refine (HGC.out _).mono ?_);rintro e w6 ⟨rfl,rfl⟩))
      have HROW5:=hid (HROW.out.on HB5.out)
      have hcJ:w6.cell? ⟨G,J,none⟩=some (.int .u8 (ob.toNat:Nat)):=by
       obtain ⟨hJl,hoe⟩:=List.getElem?_eq_some_iff.1 HOB.out
       rw [← hoe]
       exact HROW5.out.cellI hJl
      have S0:Hid ((fun u:World=>u.cell? ⟨w.heap.size,0,none⟩=some (.int .u8 (c.toNat:Nat))∧u.cell? ⟨G,J,none⟩=some (.int .u8 (ob.toNat:Nat))) w6.drew):=hid ⟨HC5.out,hcJ⟩
      clear hcJ hc5
      refine U_begin (late:=fun k=>decide (14≤k)) (S:=fun u:World=>u.cell? ⟨w.heap.size,0,none⟩=some (.int .u8 (c.toNat:Nat))∧u.cell? ⟨G,J,none⟩=some (.int .u8 (ob.toNat:Nat))) (by kernel_rfl) ?_
      refine U_take2 8 (i:=0) (v:=.slice (some ⟨G,0,none⟩) M M) rfl (by kernel_rfl) (by kernel_rfl) (by kernel_rfl) (by kernel_rfl) (by kernel_rfl) (fun _ _ _ h=>h) (.inl ⟨rfl,fun u hu=>(by go_simp)⟩) S0.out ?_
      refine U_take2 8 (i:=1) (v:=.int .i64 (i:Nat)) rfl (by kernel_rfl) (by kernel_rfl) (by kernel_rfl) (by kernel_rfl) (by kernel_rfl) (fun _ _ _ h=>h) (.inl ⟨rfl,fun u hu=>(by go_simp)⟩) S0.out ?_
      refine U_take2 8 (i:=2) (v:=.int .i64 2) rfl (by kernel_rfl) (by kernel_rfl) (by kernel_rfl) (by kernel_rfl) (by kernel_rfl) (fun _ _ _ h=>h) (.inl ⟨rfl,fun u hu=>(by go_simp)⟩) S0.out ?_
      refine U_take2 8 (i:=3) (v:=.int .i64 (J:Nat)) rfl (by kernel_rfl) (by kernel_rfl) (by kernel_rfl) (by kernel_rfl) (by kernel_rfl) (fun _ _ _ h=>h) (.inl ⟨rfl,fun u hu=>(by go_simp<;>first | exact IntWalk.i64_in _ (by omega)|(rw [Int.tdiv_eq_ediv_of_nonneg (by omega)];rw [IntWalk.i64_in _ (by omega)];exact hJI)|(rw [IntWalk.i64_in _ (by omega)];omega))⟩) S0.out ?_
      refine U_take2 8 (i:=4) (v:=.pointer (some ⟨G,J,none⟩)) rfl (by kernel_rfl) (by kernel_rfl) (by kernel_rfl) (by kernel_rfl) (by kernel_rfl) (fun _ _ _ h=>h) (.inl ⟨rfl,fun u hu=>(by go_simp)⟩) S0.out ?_
      refine U_take2 8 (i:=5) (v:=.int .u8 (ob.toNat:Nat)) rfl (by kernel_rfl) (by kernel_rfl) (by kernel_rfl) (by kernel_rfl) (by kernel_rfl) (fun _ _ _ h=>h) (.inl ⟨rfl,fun u hu=>(by obtain ⟨h1,h2⟩:=hu;go_simp)⟩) S0.out ?_
      refine U_take2 8 (i:=6) (v:=.int .i64 (v:Nat)) rfl (by kernel_rfl) (by kernel_rfl) (by kernel_rfl) (by kernel_rfl) (by kernel_rfl) (fun _ _ _ h=>h) (.inl ⟨rfl,fun u hu=>(by go_simp)⟩) S0.out ?_
      refine U_take2 8 (i:=7) (v:=.int .i64 (pl:Nat)) rfl (by kernel_rfl) (by kernel_rfl) (by kernel_rfl) (by kernel_rfl) (by kernel_rfl) (fun _ _ _ h=>h) (.inl ⟨rfl,fun u hu=>(by go_simp)⟩) S0.out ?_
      refine U_take2 8 (i:=8) (v:=.int .i64 ((pl:Int)*8)) rfl (by kernel_rfl) (by kernel_rfl) (by kernel_rfl) (by kernel_rfl) (by kernel_rfl) (fun _ _ _ h=>h) (.inl ⟨rfl,fun u hu=>(by go_simp<;>exact IntWalk.i64_in _ (by omega))⟩) S0.out ?_
      refine U_take2 8 (i:=9) (v:=.int .i64 2) rfl (by kernel_rfl) (by kernel_rfl) (by kernel_rfl) (by kernel_rfl) (by kernel_rfl) (fun _ _ _ h=>h) (.inl ⟨rfl,fun u hu=>(by go_simp)⟩) S0.out ?_
      refine U_take2 8 (i:=10) (v:=.int .i64 (sh:Nat)) rfl (by kernel_rfl) (by kernel_rfl) (by kernel_rfl) (by kernel_rfl) (by kernel_rfl) (fun _ _ _ h=>h) (.inl ⟨rfl,fun u hu=>(by go_simp<;>first | exact IntWalk.i64_in _ (by omega)|(rw [Int.tdiv_eq_ediv_of_nonneg (by omega)];rw [IntWalk.i64_in _ (by omega)];exact hshI)|(rw [IntWalk.i64_in _ (by omega)];omega))⟩) S0.out ?_
      refine U_take2 8 (i:=11) (v:=.int .i64 ((v:Int)*2 ^ sh)) rfl (by kernel_rfl) (by kernel_rfl) (by kernel_rfl) (by kernel_rfl) (by kernel_rfl) (fun _ _ _ h=>h) (.inl ⟨rfl,fun u hu=>(by go_simp<;>exact HSL.out)⟩) S0.out ?_
      refine U_take2 8 (i:=12) (v:=.int .u8 (((v*2 ^ sh % 256:Nat)):Int)) rfl (by kernel_rfl) (by kernel_rfl) (by kernel_rfl) (by kernel_rfl) (by kernel_rfl) (fun _ _ _ h=>h) (.inl ⟨rfl,fun u hu=>(by go_simp<;>exact IntKind.wrap_u8 _)⟩) S0.out ?_
      refine U_take2 8 (i:=13) (v:=.int .u8 (nb.toNat:Nat)) rfl (by kernel_rfl) (by kernel_rfl) (by kernel_rfl) (by kernel_rfl) (by kernel_rfl) (fun _ _ _ h=>h) (.inl ⟨rfl,fun u hu=>(by go_simp<;>exact or_in2 HNE.out)⟩) S0.out ?_
      have fr6:w6.drew.frozen? ⟨G,J,none⟩=false:=HROW5.out.free J
      have cJ6:=S0.out.2
      refine U_step (j:=14) (by kernel_rfl) rfl (fun K hK=>?_)
      go_simp
      refine hK.out _ _ (.inl rfl) ?_
      clear hK K
      refine U_step (j:=15) (by kernel_rfl) rfl (fun K hK=>?_)
      go_simp
      refine hK.out _ _ (.inl rfl) ?_
      clear hK K
      refine U_done (by kernel_rfl) ?_ _
      have hset:o.getD J 0=ob:=by rw [List.getD_eq_getElem?_getD,HOB.out];rfl
      have HNB:=hid (show R=digE c N (i+1) t (o.set J nb) by
       rw [HNE.out,HO.out,if_pos hiN,HSHE.out,← HJE.out,hset,Nat.shiftLeft_eq])
      have HROW6:=hid (RowY.set (HROW5.out.on (w':=w6.drew) (Below.refl _ w6).drew) J nb)
      have HBD:=hid (show Below G w0 w6.drew from (HBL.out.trans (HB5.out.mono (by have:=HBL.out.size;have:=HGE.out;omega))).drew)
      have HCD:=hid (show (w6.drew.setCell ⟨G,J,none⟩ (.int .u8 (nb.toNat:Nat))).cell? ⟨w.heap.size,0,none⟩=some (.int .u8 (c.toNat:Nat)) by
       rw [World.cell?_setCell_other _ _ _ _ (by intro h;have h2:=congrArg Addr.block h;have:=HZ0.out;first|(have h3:G=w.heap.size:=h2;omega)|(have h3:w.heap.size=G:=h2;omega))]
       exact HC5.out)
      clear S0 fr6 cJ6 hset
      go_wp2
      go_roundg t.length
      case measure=>first | omega | simp
      case rel=>exact ⟨i+1,o.set J nb,t,by go_num,HA.out.tail,HROW6.out,by rw [List.length_set];exact hol,HNB.out,HCD.out,HBD.out.setCell (Nat.le_refl _) _,rfl⟩
    ·have hiI:(N:Int)≤(i:Int):=by omega
     go_wp2_with (go_at_call 143;(with_reducible refine (HDF.out _).mono ?_);rintro e w5 ⟨rfl,hb5⟩;have HB5:=hid hb5;clear hb5)
     go_roundg t.length
     case measure=>first | omega | simp
     case rel=>exact ⟨i+1,o,t,by go_num,HA.out.tail,HROW.out.on HB5.out,hol,by rw [HO.out,if_neg hiN],(HB5.out.cell (p:=⟨w.heap.size,0,none⟩) (by have:=HZ0.out;have:=(HROW.out.lt G rfl).1;show w.heap.size<wr.heap.size;omega)).trans HCC.out,HBL.out.trans (HB5.out.mono (by have:=HBL.out.size;have:=HGE.out;omega)),rfl⟩
set_option maxRecDepth 1000000 in
set_option maxHeartbeats 8000000 in
theorem packed8R_fn (c:UInt8) (p:Bool) (n:Int) (hbits:bitsL c=1) (hg:grt c=(c == 72 || c == 66)) (s:Str) (hs:s.length≤100000) (hn:-2≤n∧n≤800000) (w:World) :
  Calls Tryz.prog 103 #[.agg #[.int .u8 (c.toNat:Nat),.bool p,.int .i64 n],.string ⟨s.toArray⟩,.int .i64 8] w (PkdQ (digE c (cntT ⟨c,p,n⟩ s) 0 s (List.replicate ((cntT ⟨c,p,n⟩ s+7) / 8) 0)) w):=by
 have hsz:(⟨s.toArray⟩:ByteArray).size=s.length:=Lib.size_mk _
 obtain ⟨N,hN⟩:∃ N,N=cntT ⟨c,p,n⟩ s:=⟨_,rfl⟩
 obtain ⟨M,hM⟩:∃ M,M=(N+7) / 8:=⟨_,rfl⟩
 rw [← hN,← hM]
 have hN1:=hid (fun (h:n = -1)=>show N=1 by rw [hN];unfold cntT oneC;subst h;rfl)
 have hN2:=hid (fun (h:n = -2)=>show N=s.length by rw [hN];unfold cntT;subst h;rfl)
 have hN3:=hid (fun (h:0≤n)=>show (N:Int)=n by
  rw [hN];unfold cntT oneC;dsimp only
  rw [if_neg (by omega),if_neg (by omega)];omega)
 have hN9:N≤800000:=by
  rcases (show n = -1∨n = -2∨0≤n by omega) with h | h | h
  ·rw [hN1.out h];decide
  ·rw [hN2.out h];omega
  ·have:=hN3.out h;omega
 obtain ⟨R,hR⟩:∃ R,R=digE c N 0 s (List.replicate M 0):=⟨_,rfl⟩
 rw [← hR]
 have HR:=hid hR
 obtain ⟨w0,hw0⟩:∃ w0,w0=w.alloc (.cells #[.int .u8 (c.toNat:Nat),.bool p,.int .i64 n] 103):=⟨_,rfl⟩
 have c0:w0.cell? ⟨w.heap.size,0,none⟩=some (.int .u8 (c.toNat:Nat)):=by rw [hw0,Lib.cell_of_heap (heap_alloc_new _ _)];rfl
 have c2:w0.cell? ⟨w.heap.size,2,none⟩=some (.int .i64 n):=by rw [hw0,Lib.cell_of_heap (heap_alloc_new _ _)];rfl
 have HC0:=hid c0
 have HB0:=hid (show Below w.heap.size w w0 by rw [hw0];exact (Below.refl _ _).alloc (Nat.le_refl _) _)
 have HZ0:=hid (show w.heap.size<w0.heap.size by rw [hw0];simp)
 have HGR:=hid (fun u=>great_fn c u)
 have HG:=hid hg
 have HBITS:=hid hbits
 have HW0:=hid hw0
 have HMN:=hid hM
 clear hw0 hbits hR hg hN hM c0
 unfold PkdQ
 go_enter Tryz.func103,Tryz.ntmps103
 go_upto_block 0 with fail
 rw [← HW0.out]
 go_cut [8] from 13 to 83 (fun nv wx=>nv=.int .i64 (N:Nat)∧wx=w0)
 case first=>
  rcases (show n = -1∨n = -2∨0≤n by omega) with h | h | h
  ·have HQ:=hid (hN1.out h)
   subst h
   go_wp2
   go_meet
   case rel=>exact ⟨by rw [HQ.out];rfl,rfl⟩
  ·have HQ:=hid (hN2.out h)
   subst h
   go_wp2
   go_meet
   case rel=>exact ⟨by rw [HQ.out],rfl⟩
  ·have HQ:=hid (hN3.out h)
   have e1:(n == -1)=false:=by rw [beq_eq_false_iff_ne];omega
   have e2:(n == -2)=false:=by rw [beq_eq_false_iff_ne];omega
   clear h hn
   go_wp2
   go_meet
   case rel=>exact ⟨by rw [HQ.out],rfl⟩
 obtain ⟨rfl,hw⟩:=hcut
 replace hw:=hw.symm
 subst hw
 clear hN1 hN2 hN3 hn c2 HW0
 have htd:Int.tdiv ((N:Int)+8-1) 8=(M:Int):=by rw [Int.tdiv_eq_ediv_of_nonneg (by omega),HMN.out];omega
 have htd2:Int.tdiv ((N:Int)+7) 8=(M:Int):=by rw [Int.tdiv_eq_ediv_of_nonneg (by omega),HMN.out];omega
 have htd3:((N:Int)+8-1) / 8=(M:Int):=by rw [HMN.out];omega
 have htd4:((N:Int)+7) / 8=(M:Int):=by rw [HMN.out];omega
 have hM9:M≤800000:=by rw [HMN.out];omega
 have hwM:IntKind.i64.wrap (M:Int)=(M:Int):=IntWalk.i64_in _ (by omega)
 go_upto_region 8 with (at_make;refine mk_zero _ rfl _ _ rfl M _ _ rfl rfl rfl rfl (by omega) ?_;intro w4 hr4 hb4;have HRO:=hid hr4;have HB4:=hid hb4;clear hr4 hb4)
 obtain ⟨G,hG⟩:∃ G,G=w0.heap.size:=⟨_,rfl⟩
 rw [← hG] at HRO HB4 HZ0
 rw [← hG]
 have HGE:=hid hG
 clear hG
 have HC4:=hid (show w4.cell? ⟨w.heap.size,0,none⟩=some (.int .u8 (c.toNat:Nat)) from (HB4.out.cell (p:=⟨w.heap.size,0,none⟩) HZ0.out).trans HC0.out)
 clear htd htd2 htd3 htd4 hwM HC0
 go_wp2_with fail
 go_loopg [31] s.length (fun k iv wr=>∃ (i:Nat) (o l:Str),iv=.int .i64 (i:Nat)∧At s l i∧RowY G wr (.slice (some ⟨G,0,none⟩) M M) o∧o.length=M∧R=digE c N i l o∧wr.cell? ⟨w.heap.size,0,none⟩=some (.int .u8 (c.toNat:Nat))∧Below G w0 wr∧k=l.length)
 case atStart=>exact ⟨0,_,s,rfl,At.start s,HRO.out,by simp,HR.out,HC4.out,HB4.out,rfl⟩
 case round=>
  obtain ⟨i,o,l,rfl,ha,hro,hol,hR2,hc0,hbl,rfl⟩:=hrel
  have HROW:=hid hro
  have HR2:=hid hR2
  have HCC:=hid hc0
  have HBL:=hid hbl
  have hlen:=ha.len
  have HA:=hid ha
  clear hro hR2 hc0 hbl ha HRO HC4 HB4
  cases l with
  | nil=>
   have hge:¬ ((i:Int)<(s.length:Int)):=by simp at hlen;omega
   have HO:=hid (show R=some o from HR2.out)
   go_wp2
   go_ret2
   exact ⟨_,by rw [HO.out];rfl,by rw [HO.out];exact RowY.mono HROW.out (by have:=HZ0.out;omega),HB0.out.trans (HBL.out.mono (by have:=HZ0.out;omega))⟩
  | cons d t=>
   have hlt:=HA.out.lt
   have hltI:(i:Int)<(s.length:Int):=by omega
   have hx:=HA.out.byte
   have hR3:=HR2.out
   rw [digE,HBITS.out] at hR3
   have HDF:=hid (fun u=>digitR_fn d u)
   obtain ⟨dv,hdv⟩:∃ dv,dv=dgI d:=⟨_,rfl⟩
   rw [← hdv] at HDF
   by_cases hbad:2 ^ 1≤valH d
   ·have HO:=hid (show R=none by rw [hR3,if_pos hbad])
    by_cases h127:127<d.toNat
    ·have hI:(127:Int)<(d.toNat:Int):=by omega
     clear hR3 hbad hdv h127
     go_wp2_with (go_at_call 143;(with_reducible refine (HDF.out _).mono ?_);rintro e w5 ⟨rfl,hb5⟩;have HB5:=hid hb5;clear hb5)
     go_ret2
     exact ⟨_,by rw [HO.out];rfl,by rw [HO.out];exact RowY.nil _ _,HB0.out.trans ((HBL.out.trans (HB5.out.mono (by have:=HBL.out.size;have:=HGE.out;omega))).mono (by have:=HZ0.out;omega))⟩
    ·have hI:¬ ((127:Int)<(d.toNat:Int)):=by omega
     by_cases h16:16≤valH d
     ·have hneg:dv = -1:=by rw [hdv];exact dgI_big (by omega) h16
      subst hneg
      clear hR3 hbad hdv h127 h16
      go_wp2_with (go_at_call 143;(with_reducible refine (HDF.out _).mono ?_);rintro e w5 ⟨rfl,hb5⟩;have HB5:=hid hb5;clear hb5)
      go_ret2
      exact ⟨_,by rw [HO.out];rfl,by rw [HO.out];exact RowY.nil _ _,HB0.out.trans ((HBL.out.trans (HB5.out.mono (by have:=HBL.out.size;have:=HGE.out;omega))).mono (by have:=HZ0.out;omega))⟩
     ·obtain ⟨v,hv⟩:∃ v,v=valH d:=⟨_,rfl⟩
      have hdV:dv=(v:Int):=by rw [hdv,hv];exact (dgI_small (by omega)).2
      subst hdV
      have h1v:(1:Int)<(v:Int):=by rw [← hv] at hbad h16;omega
      clear hR3 hbad hdv h127 h16 hv
      go_wp2_with (go_at_call 143;(with_reducible refine (HDF.out _).mono ?_);rintro e w5 ⟨rfl,hb5⟩;have HB5:=hid hb5;clear hb5)
      go_ret2
      exact ⟨_,by rw [HO.out];rfl,by rw [HO.out];exact RowY.nil _ _,HB0.out.trans ((HBL.out.trans (HB5.out.mono (by have:=HBL.out.size;have:=HGE.out;omega))).mono (by have:=HZ0.out;omega))⟩
   ·obtain ⟨v,hv⟩:∃ v,v=valH d:=⟨_,rfl⟩
    rw [← hv] at hbad hR3
    rw [if_neg hbad] at hR3
    have hvl:v<2:=by omega
    obtain ⟨h128,hd2⟩:=dgI_small (d:=d) (by rw [← hv];omega)
    have hdV:dv=(v:Int):=by rw [hdv,hd2,hv]
    subst hdV
    have hI:¬ ((127:Int)<(d.toNat:Int)):=by omega
    have h1v:¬ ((1:Int)<(v:Int)):=by omega
    have HO:=hid hR3
    clear hR3 hbad hdv h128 hd2 hv
    by_cases hiN:i<N
    ·have hiI:¬ ((N:Int)≤(i:Int)):=by omega
     obtain ⟨J,hJe⟩:∃ J,J=i*1 / 8:=⟨_,rfl⟩
     have hJ:J<M:=by have:=HMN.out;omega
     have hJI:(i:Int) / 8=(J:Int):=by omega
     have hJM:(J:Int)<(M:Int):=by omega
     obtain ⟨m,hm⟩:∃ m,m=i % 8:=⟨_,rfl⟩
     have hml:m<8:=by rw [hm];exact Nat.mod_lt _ (by decide)
     have htm:Int.tmod (i:Int) 8=(m:Int):=by rw [Int.tmod_eq_emod_of_nonneg (by omega)];omega
     have hwm:IntKind.i64.wrap (m:Int)=(m:Int):=IntWalk.i64_in _ (by omega)
     have HSH:=hid (show shiftL c i 1=1*(if grt c then 8-1-m else m) by
      unfold shiftL
      rw [hm,← HG.out]
      cases grt c<;>rfl)
     obtain ⟨ob,hob⟩:∃ ob,o[J]? = some ob:=⟨_,List.getElem?_eq_getElem (by omega)⟩
     have HJE:=hid hJe
     have HOB:=hid hob
     clear hJe hm hob
     cases hgc:grt c with
     | false=>
      obtain ⟨pl,hpl⟩:∃ pl,pl=m:=⟨_,rfl⟩
      have hplI:(m:Int)=(pl:Int):=by omega
      have hpl8:pl<8:=by omega
      obtain ⟨sh,hsh⟩:∃ sh,sh=1*pl:=⟨_,rfl⟩
      have hshI:(pl:Int)*8 / 8=(sh:Int):=by omega
      have hsh7:sh≤7:=by omega
      have HSL:=hid (show IntKind.i64.wrap ((v:Int)*2 ^ sh)=(v:Int)*2 ^ sh by
       have hs:=shl_in (v:=v) (sh:=sh) (by omega) hsh7
       rw [Nat.min_eq_left (by omega)] at hs
       exact hs)
      have HSHE:=hid (show shiftL c i 1=sh by rw [HSH.out,hgc,hsh,hpl];rfl)
      have HGC:=hid (show ∀ u,Calls Tryz.prog 133 #[.int .u8 (c.toNat:Nat)] u fun e w'=>e=.returned (.bool false)∧w'=u from fun u=>by have h:=HGR.out u;rw [hgc] at h;exact h)
      obtain ⟨nb,hne⟩:∃ nb:UInt8,nb=ob ||| UInt8.ofNat (v*2 ^ sh % 256):=⟨_,rfl⟩
      have HNE:=hid hne
      clear hne hgc hpl hsh
      go_upto_region 18 with (first|(go_at_call 143;(with_reducible refine (HDF.out _).mono ?_);rintro e w5 ⟨rfl,hb5⟩;have hc5:=(hb5.cell (p:=⟨w.heap.size,0,none⟩) (by have:=HZ0.out;have:=(HROW.out.lt G rfl).1;show w.heap.size<wr.heap.size;omega)).trans HCC.out;have HC5:=hid hc5;have HB5:=hid hb5;clear hb5)|(go_at_call 133;(with_reducible refine (HGC.out _).mono ?_);rintro e w6 ⟨rfl,rfl⟩))
      have HROW5:=hid (HROW.out.on HB5.out)
      have hcJ:w6.cell? ⟨G,J,none⟩=some (.int .u8 (ob.toNat:Nat)):=by
       obtain ⟨hJl,hoe⟩:=List.getElem?_eq_some_iff.1 HOB.out
       rw [← hoe]
       exact HROW5.out.cellI hJl
      have S0:Hid ((fun u:World=>u.cell? ⟨w.heap.size,0,none⟩=some (.int .u8 (c.toNat:Nat))∧u.cell? ⟨G,J,none⟩=some (.int .u8 (ob.toNat:Nat))) w6.drew):=hid ⟨HC5.out,hcJ⟩
      clear hcJ hc5
      refine U_begin (late:=fun k=>decide (14≤k)) (S:=fun u:World=>u.cell? ⟨w.heap.size,0,none⟩=some (.int .u8 (c.toNat:Nat))∧u.cell? ⟨G,J,none⟩=some (.int .u8 (ob.toNat:Nat))) (by kernel_rfl) ?_
      refine U_take2 8 (i:=0) (v:=.slice (some ⟨G,0,none⟩) M M) rfl (by kernel_rfl) (by kernel_rfl) (by kernel_rfl) (by kernel_rfl) (by kernel_rfl) (fun _ _ _ h=>h) (.inl ⟨rfl,fun u hu=>(by go_simp)⟩) S0.out ?_
      refine U_take2 8 (i:=1) (v:=.int .i64 (i:Nat)) rfl (by kernel_rfl) (by kernel_rfl) (by kernel_rfl) (by kernel_rfl) (by kernel_rfl) (fun _ _ _ h=>h) (.inl ⟨rfl,fun u hu=>(by go_simp)⟩) S0.out ?_
      refine U_take2 8 (i:=2) (v:=.int .i64 8) rfl (by kernel_rfl) (by kernel_rfl) (by kernel_rfl) (by kernel_rfl) (by kernel_rfl) (fun _ _ _ h=>h) (.inl ⟨rfl,fun u hu=>(by go_simp)⟩) S0.out ?_
      refine U_take2 8 (i:=3) (v:=.int .i64 (J:Nat)) rfl (by kernel_rfl) (by kernel_rfl) (by kernel_rfl) (by kernel_rfl) (by kernel_rfl) (fun _ _ _ h=>h) (.inl ⟨rfl,fun u hu=>(by go_simp<;>first | exact IntWalk.i64_in _ (by omega)|(rw [Int.tdiv_eq_ediv_of_nonneg (by omega)];rw [IntWalk.i64_in _ (by omega)];exact hJI)|(rw [IntWalk.i64_in _ (by omega)];omega))⟩) S0.out ?_
      refine U_take2 8 (i:=4) (v:=.pointer (some ⟨G,J,none⟩)) rfl (by kernel_rfl) (by kernel_rfl) (by kernel_rfl) (by kernel_rfl) (by kernel_rfl) (fun _ _ _ h=>h) (.inl ⟨rfl,fun u hu=>(by go_simp)⟩) S0.out ?_
      refine U_take2 8 (i:=5) (v:=.int .u8 (ob.toNat:Nat)) rfl (by kernel_rfl) (by kernel_rfl) (by kernel_rfl) (by kernel_rfl) (by kernel_rfl) (fun _ _ _ h=>h) (.inl ⟨rfl,fun u hu=>(by obtain ⟨h1,h2⟩:=hu;go_simp)⟩) S0.out ?_
      refine U_take2 8 (i:=6) (v:=.int .i64 (v:Nat)) rfl (by kernel_rfl) (by kernel_rfl) (by kernel_rfl) (by kernel_rfl) (by kernel_rfl) (fun _ _ _ h=>h) (.inl ⟨rfl,fun u hu=>(by go_simp)⟩) S0.out ?_
      refine U_take2 8 (i:=7) (v:=.int .i64 (pl:Nat)) rfl (by kernel_rfl) (by kernel_rfl) (by kernel_rfl) (by kernel_rfl) (by kernel_rfl) (fun _ _ _ h=>h) (.inl ⟨rfl,fun u hu=>(by go_simp)⟩) S0.out ?_
      refine U_take2 8 (i:=8) (v:=.int .i64 ((pl:Int)*8)) rfl (by kernel_rfl) (by kernel_rfl) (by kernel_rfl) (by kernel_rfl) (by kernel_rfl) (fun _ _ _ h=>h) (.inl ⟨rfl,fun u hu=>(by go_simp<;>exact IntWalk.i64_in _ (by omega))⟩) S0.out ?_
      refine U_take2 8 (i:=9) (v:=.int .i64 8) rfl (by kernel_rfl) (by kernel_rfl) (by kernel_rfl) (by kernel_rfl) (by kernel_rfl) (fun _ _ _ h=>h) (.inl ⟨rfl,fun u hu=>(by go_simp)⟩) S0.out ?_
      refine U_take2 8 (i:=10) (v:=.int .i64 (sh:Nat)) rfl (by kernel_rfl) (by kernel_rfl) (by kernel_rfl) (by kernel_rfl) (by kernel_rfl) (fun _ _ _ h=>h) (.inl ⟨rfl,fun u hu=>(by go_simp<;>first | exact IntWalk.i64_in _ (by omega)|(rw [Int.tdiv_eq_ediv_of_nonneg (by omega)];rw [IntWalk.i64_in _ (by omega)];exact hshI)|(rw [IntWalk.i64_in _ (by omega)];omega))⟩) S0.out ?_
      refine U_take2 8 (i:=11) (v:=.int .i64 ((v:Int)*2 ^ sh)) rfl (by kernel_rfl) (by kernel_rfl) (by kernel_rfl) (by kernel_rfl) (by kernel_rfl) (fun _ _ _ h=>h) (.inl ⟨rfl,fun u hu=>(by go_simp<;>exact HSL.out)⟩) S0.out ?_
      refine U_take2 8 (i:=12) (v:=.int .u8 (((v*2 ^ sh % 256:Nat)):Int)) rfl (by kernel_rfl) (by kernel_rfl) (by kernel_rfl) (by kernel_rfl) (by kernel_rfl) (fun _ _ _ h=>h) (.inl ⟨rfl,fun u hu=>(by go_simp<;>exact IntKind.wrap_u8 _)⟩) S0.out ?_
      refine U_take2 8 (i:=13) (v:=.int .u8 (nb.toNat:Nat)) rfl (by kernel_rfl) (by kernel_rfl) (by kernel_rfl) (by kernel_rfl) (by kernel_rfl) (fun _ _ _ h=>h) (.inl ⟨rfl,fun u hu=>(by go_simp<;>exact or_in2 HNE.out)⟩) S0.out ?_
      have fr6:w6.drew.frozen? ⟨G,J,none⟩=false:=HROW5.out.free J
      have cJ6:=S0.out.2
      refine U_step (j:=14) (by kernel_rfl) rfl (fun K hK=>?_)
      go_simp
      refine hK.out _ _ (.inl rfl) ?_
      clear hK K
      refine U_step (j:=15) (by kernel_rfl) rfl (fun K hK=>?_)
      go_simp
      refine hK.out _ _ (.inl rfl) ?_
      clear hK K
      refine U_done (by kernel_rfl) ?_ _
      have hset:o.getD J 0=ob:=by rw [List.getD_eq_getElem?_getD,HOB.out];rfl
      have HNB:=hid (show R=digE c N (i+1) t (o.set J nb) by
       rw [HNE.out,HO.out,if_pos hiN,HSHE.out,← HJE.out,hset,Nat.shiftLeft_eq])
      have HROW6:=hid (RowY.set (HROW5.out.on (w':=w6.drew) (Below.refl _ w6).drew) J nb)
      have HBD:=hid (show Below G w0 w6.drew from (HBL.out.trans (HB5.out.mono (by have:=HBL.out.size;have:=HGE.out;omega))).drew)
      have HCD:=hid (show (w6.drew.setCell ⟨G,J,none⟩ (.int .u8 (nb.toNat:Nat))).cell? ⟨w.heap.size,0,none⟩=some (.int .u8 (c.toNat:Nat)) by
       rw [World.cell?_setCell_other _ _ _ _ (by intro h;have h2:=congrArg Addr.block h;have:=HZ0.out;first|(have h3:G=w.heap.size:=h2;omega)|(have h3:w.heap.size=G:=h2;omega))]
       exact HC5.out)
      clear S0 fr6 cJ6 hset
      go_wp2
      go_roundg t.length
      case measure=>first | omega | simp
      case rel=>exact ⟨i+1,o.set J nb,t,by go_num,HA.out.tail,HROW6.out,by rw [List.length_set];exact hol,HNB.out,HCD.out,HBD.out.setCell (Nat.le_refl _) _,rfl⟩
     | true=>
      obtain ⟨pl,hpl⟩:∃ pl,pl=8-1-m:=⟨_,rfl⟩
      have hplI:(7-(m:Int))=(pl:Int):=by omega
      have hpl8:pl<8:=by omega
      obtain ⟨sh,hsh⟩:∃ sh,sh=1*pl:=⟨_,rfl⟩
      have hshI:(pl:Int)*8 / 8=(sh:Int):=by omega
      have hsh7:sh≤7:=by omega
      have HSL:=hid (show IntKind.i64.wrap ((v:Int)*2 ^ sh)=(v:Int)*2 ^ sh by
       have hs:=shl_in (v:=v) (sh:=sh) (by omega) hsh7
       rw [Nat.min_eq_left (by omega)] at hs
       exact hs)
      have HSHE:=hid (show shiftL c i 1=sh by rw [HSH.out,hgc,hsh,hpl];rfl)
      have HGC:=hid (show ∀ u,Calls Tryz.prog 133 #[.int .u8 (c.toNat:Nat)] u fun e w'=>e=.returned (.bool true)∧w'=u from fun u=>by have h:=HGR.out u;rw [hgc] at h;exact h)
      obtain ⟨nb,hne⟩:∃ nb:UInt8,nb=ob ||| UInt8.ofNat (v*2 ^ sh % 256):=⟨_,rfl⟩
      have HNE:=hid hne
      clear hne hgc hpl hsh
      go_upto_region 18 with (first|(go_at_call 143;(with_reducible refine (HDF.out _).mono ?_);rintro e w5 ⟨rfl,hb5⟩;have hc5:=(hb5.cell (p:=⟨w.heap.size,0,none⟩) (by have:=HZ0.out;have:=(HROW.out.lt G rfl).1;show w.heap.size<wr.heap.size;omega)).trans HCC.out;have HC5:=hid hc5;have HB5:=hid hb5;clear hb5)|(go_at_call 133;(with_reducible refine (HGC.out _).mono ?_);rintro e w6 ⟨rfl,rfl⟩))
      have HROW5:=hid (HROW.out.on HB5.out)
      have hcJ:w6.cell? ⟨G,J,none⟩=some (.int .u8 (ob.toNat:Nat)):=by
       obtain ⟨hJl,hoe⟩:=List.getElem?_eq_some_iff.1 HOB.out
       rw [← hoe]
       exact HROW5.out.cellI hJl
      have S0:Hid ((fun u:World=>u.cell? ⟨w.heap.size,0,none⟩=some (.int .u8 (c.toNat:Nat))∧u.cell? ⟨G,J,none⟩=some (.int .u8 (ob.toNat:Nat))) w6.drew):=hid ⟨HC5.out,hcJ⟩
      clear hcJ hc5
      refine U_begin (late:=fun k=>decide (14≤k)) (S:=fun u:World=>u.cell? ⟨w.heap.size,0,none⟩=some (.int .u8 (c.toNat:Nat))∧u.cell? ⟨G,J,none⟩=some (.int .u8 (ob.toNat:Nat))) (by kernel_rfl) ?_
      refine U_take2 8 (i:=0) (v:=.slice (some ⟨G,0,none⟩) M M) rfl (by kernel_rfl) (by kernel_rfl) (by kernel_rfl) (by kernel_rfl) (by kernel_rfl) (fun _ _ _ h=>h) (.inl ⟨rfl,fun u hu=>(by go_simp)⟩) S0.out ?_
      refine U_take2 8 (i:=1) (v:=.int .i64 (i:Nat)) rfl (by kernel_rfl) (by kernel_rfl) (by kernel_rfl) (by kernel_rfl) (by kernel_rfl) (fun _ _ _ h=>h) (.inl ⟨rfl,fun u hu=>(by go_simp)⟩) S0.out ?_
      refine U_take2 8 (i:=2) (v:=.int .i64 8) rfl (by kernel_rfl) (by kernel_rfl) (by kernel_rfl) (by kernel_rfl) (by kernel_rfl) (fun _ _ _ h=>h) (.inl ⟨rfl,fun u hu=>(by go_simp)⟩) S0.out ?_
      refine U_take2 8 (i:=3) (v:=.int .i64 (J:Nat)) rfl (by kernel_rfl) (by kernel_rfl) (by kernel_rfl) (by kernel_rfl) (by kernel_rfl) (fun _ _ _ h=>h) (.inl ⟨rfl,fun u hu=>(by go_simp<;>first | exact IntWalk.i64_in _ (by omega)|(rw [Int.tdiv_eq_ediv_of_nonneg (by omega)];rw [IntWalk.i64_in _ (by omega)];exact hJI)|(rw [IntWalk.i64_in _ (by omega)];omega))⟩) S0.out ?_
      refine U_take2 8 (i:=4) (v:=.pointer (some ⟨G,J,none⟩)) rfl (by kernel_rfl) (by kernel_rfl) (by kernel_rfl) (by kernel_rfl) (by kernel_rfl) (fun _ _ _ h=>h) (.inl ⟨rfl,fun u hu=>(by go_simp)⟩) S0.out ?_
      refine U_take2 8 (i:=5) (v:=.int .u8 (ob.toNat:Nat)) rfl (by kernel_rfl) (by kernel_rfl) (by kernel_rfl) (by kernel_rfl) (by kernel_rfl) (fun _ _ _ h=>h) (.inl ⟨rfl,fun u hu=>(by obtain ⟨h1,h2⟩:=hu;go_simp)⟩) S0.out ?_
      refine U_take2 8 (i:=6) (v:=.int .i64 (v:Nat)) rfl (by kernel_rfl) (by kernel_rfl) (by kernel_rfl) (by kernel_rfl) (by kernel_rfl) (fun _ _ _ h=>h) (.inl ⟨rfl,fun u hu=>(by go_simp)⟩) S0.out ?_
      refine U_take2 8 (i:=7) (v:=.int .i64 (pl:Nat)) rfl (by kernel_rfl) (by kernel_rfl) (by kernel_rfl) (by kernel_rfl) (by kernel_rfl) (fun _ _ _ h=>h) (.inl ⟨rfl,fun u hu=>(by go_simp)⟩) S0.out ?_
      refine U_take2 8 (i:=8) (v:=.int .i64 ((pl:Int)*8)) rfl (by kernel_rfl) (by kernel_rfl) (by kernel_rfl) (by kernel_rfl) (by kernel_rfl) (fun _ _ _ h=>h) (.inl ⟨rfl,fun u hu=>(by go_simp<;>exact IntWalk.i64_in _ (by omega))⟩) S0.out ?_
      refine U_take2 8 (i:=9) (v:=.int .i64 8) rfl (by kernel_rfl) (by kernel_rfl) (by kernel_rfl) (by kernel_rfl) (by kernel_rfl) (fun _ _ _ h=>h) (.inl ⟨rfl,fun u hu=>(by go_simp)⟩) S0.out ?_
      refine U_take2 8 (i:=10) (v:=.int .i64 (sh:Nat)) rfl (by kernel_rfl) (by kernel_rfl) (by kernel_rfl) (by kernel_rfl) (by kernel_rfl) (fun _ _ _ h=>h) (.inl ⟨rfl,fun u hu=>(by go_simp<;>first | exact IntWalk.i64_in _ (by omega)|(rw [Int.tdiv_eq_ediv_of_nonneg (by omega)];rw [IntWalk.i64_in _ (by omega)];exact hshI)|(rw [IntWalk.i64_in _ (by omega)];omega))⟩) S0.out ?_
      refine U_take2 8 (i:=11) (v:=.int .i64 ((v:Int)*2 ^ sh)) rfl (by kernel_rfl) (by kernel_rfl) (by kernel_rfl) (by kernel_rfl) (by kernel_rfl) (fun _ _ _ h=>h) (.inl ⟨rfl,fun u hu=>(by go_simp<;>exact HSL.out)⟩) S0.out ?_
      refine U_take2 8 (i:=12) (v:=.int .u8 (((v*2 ^ sh % 256:Nat)):Int)) rfl (by kernel_rfl) (by kernel_rfl) (by kernel_rfl) (by kernel_rfl) (by kernel_rfl) (fun _ _ _ h=>h) (.inl ⟨rfl,fun u hu=>(by go_simp<;>exact IntKind.wrap_u8 _)⟩) S0.out ?_
      refine U_take2 8 (i:=13) (v:=.int .u8 (nb.toNat:Nat)) rfl (by kernel_rfl) (by kernel_rfl) (by kernel_rfl) (by kernel_rfl) (by kernel_rfl) (fun _ _ _ h=>h) (.inl ⟨rfl,fun u hu=>(by go_simp<;>exact or_in2 HNE.out)⟩) S0.out ?_
      have fr6:w6.drew.frozen? ⟨G,J,none⟩=false:=HROW5.out.free J
      have cJ6:=S0.out.2
      refine U_step (j:=14) (by kernel_rfl) rfl (fun K hK=>?_)
      go_simp
      refine hK.out _ _ (.inl rfl) ?_
      clear hK K
      refine U_step (j:=15) (by kernel_rfl) rfl (fun K hK=>?_)
      go_simp
      refine hK.out _ _ (.inl rfl) ?_
      clear hK K
      refine U_done (by kernel_rfl) ?_ _
      have hset:o.getD J 0=ob:=by rw [List.getD_eq_getElem?_getD,HOB.out];rfl
      have HNB:=hid (show R=digE c N (i+1) t (o.set J nb) by
       rw [HNE.out,HO.out,if_pos hiN,HSHE.out,← HJE.out,hset,Nat.shiftLeft_eq])
      have HROW6:=hid (RowY.set (HROW5.out.on (w':=w6.drew) (Below.refl _ w6).drew) J nb)
      have HBD:=hid (show Below G w0 w6.drew from (HBL.out.trans (HB5.out.mono (by have:=HBL.out.size;have:=HGE.out;omega))).drew)
      have HCD:=hid (show (w6.drew.setCell ⟨G,J,none⟩ (.int .u8 (nb.toNat:Nat))).cell? ⟨w.heap.size,0,none⟩=some (.int .u8 (c.toNat:Nat)) by
       rw [World.cell?_setCell_other _ _ _ _ (by intro h;have h2:=congrArg Addr.block h;have:=HZ0.out;first|(have h3:G=w.heap.size:=h2;omega)|(have h3:w.heap.size=G:=h2;omega))]
       exact HC5.out)
      clear S0 fr6 cJ6 hset
      go_wp2
      go_roundg t.length
      case measure=>first | omega | simp
      case rel=>exact ⟨i+1,o.set J nb,t,by go_num,HA.out.tail,HROW6.out,by rw [List.length_set];exact hol,HNB.out,HCD.out,HBD.out.setCell (Nat.le_refl _) _,rfl⟩
    ·have hiI:(N:Int)≤(i:Int):=by omega
     go_wp2_with (go_at_call 143;(with_reducible refine (HDF.out _).mono ?_);rintro e w5 ⟨rfl,hb5⟩;have HB5:=hid hb5;clear hb5)
     go_roundg t.length
     case measure=>first | omega | simp
     case rel=>exact ⟨i+1,o,t,by go_num,HA.out.tail,HROW.out.on HB5.out,hol,by rw [HO.out,if_neg hiN],(HB5.out.cell (p:=⟨w.heap.size,0,none⟩) (by have:=HZ0.out;have:=(HROW.out.lt G rfl).1;show w.heap.size<wr.heap.size;omega)).trans HCC.out,HBL.out.trans (HB5.out.mono (by have:=HBL.out.size;have:=HGE.out;omega)),rfl⟩
end Go.Proofs.YtihdndaibmgoiaaGreatDoor.Pz
