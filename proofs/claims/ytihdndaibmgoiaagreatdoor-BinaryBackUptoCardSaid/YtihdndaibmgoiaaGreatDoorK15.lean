/-
  Part K15 of the proofs of this seat, merged by a program out of 10 texts; remarks are struck.
-/
import Derived.BigQuiet
import Derived.Deep.QuietTactic
import Derived.Test.YtihdndaibmgoiaaGreatDoorK14
import Derived.Test.YtihdndaibmgoiaaGreatDoorK3
namespace Go.Proofs.YtihdndaibmgoiaaGreatDoor.Pz
open Go.RowKit
set_option maxRecDepth 100000 in
theorem within1_fn (n lo hi:Int) (w:World):Calls Tryz.prog 104 #[.int .i64 n,.int .i64 lo,.int .i64 hi] w fun e w'=>e=.returned (.bool (decide (lo≤n) && decide (n≤hi)))∧w'=w:=by
 obtain ⟨R,hR⟩:∃ R,R=(decide (lo≤n) && decide (n≤hi)):=⟨_,rfl⟩
 rw [← hR]
 have HR:=hid hR
 clear hR
 by_cases h1:n≥lo
 ·by_cases h2:n≤hi
  ·have hr:R=true:=by rw [HR.out,decide_eq_true h1,decide_eq_true h2];rfl
   subst hr
   go_enter Tryz.func104,Tryz.ntmps104
   go_wp2
   go_ret
   exact ⟨rfl,rfl⟩
  ·have hr:R=false:=by rw [HR.out,decide_eq_true h1,decide_eq_false h2];rfl
   subst hr
   go_enter Tryz.func104,Tryz.ntmps104
   go_wp2
   go_ret
   exact ⟨rfl,rfl⟩
 ·have hr:R=false:=by rw [HR.out,decide_eq_false h1];rfl
  subst hr
  go_enter Tryz.func104,Tryz.ntmps104
  go_wp2
  go_ret
  exact ⟨rfl,rfl⟩
set_option maxRecDepth 100000 in
theorem whiteR_fn (c:UInt8) (w:World):Calls Tryz.prog 209 #[.int .u8 (c.toNat:Nat)] w fun e w'=>e=.returned (.bool (white c))∧w'=w:=by
  have hc:=hid (within1_fn (c.toNat:Nat) 9 13 w)
  have hW:=hid (white_nat c)
  have hl:c.toNat<256:=c.toNat_lt
  generalize white c=W at hW ⊢
  generalize c.toNat=x at hl hW hc ⊢
  by_cases h1:9≤x∧x≤13
  · have hd:(decide ((9:Int)≤(x:Int)) && decide ((x:Int)≤13))=true:=by simp;omega
    rw [hd] at hc
    go_enter Tryz.func209,Tryz.ntmps209
    go_wp2_with fail
    (with_reducible refine hc.out.mono ?_);rintro e w1 ⟨rfl,hw⟩;subst w1
    go_wp2
    go_ret
    exact ⟨by rw [hW.out,decide_eq_true h1.1,decide_eq_true h1.2];rfl,rfl⟩
  · have hd : (decide ((9 : Int) ≤ (x : Int)) && decide ((x : Int) ≤ 13)) = false := by
      rw [Bool.eq_false_iff]
      intro e
      simp at e
      omega
    have hn:(decide (9≤x) && decide (x≤13))=false:=by
      rw [Bool.eq_false_iff]
      intro e
      simp at e
      omega
    rw [hd] at hc
    by_cases h3:x=32
    · have h4:((x:Int) == 32)=true:=by rw [h3];rfl
      have H3:=hid h3
      clear h3
      go_enter Tryz.func209,Tryz.ntmps209
      go_wp2_with fail
      (with_reducible refine hc.out.mono ?_);rintro e w1 ⟨rfl,hw⟩;subst w1
      go_wp2
      go_ret
      exact ⟨by rw [hW.out,H3.out];rfl,rfl⟩
    · have h4:((x:Int) == 32)=false:=by simp;omega
      go_enter Tryz.func209,Tryz.ntmps209
      go_wp2_with fail
      (with_reducible refine hc.out.mono ?_);rintro e w1 ⟨rfl,hw⟩;subst w1
      go_wp2
      go_ret
      refine ⟨?_,rfl⟩
      rw [hW.out,hn,decide_eq_false h3]
      rfl
end Go.Proofs.YtihdndaibmgoiaaGreatDoor.Pz
namespace Go.Proofs.YtihdndaibmgoiaaGreatDoor
open Go.RowKit
section
variable {P:Program} {ops:Array Oper} {Q:Exit→Act→World→Prop} {md:Region.Mode} {S:World→Prop} {late:Nat→Bool}
def waitsN (md:Region.Mode) (ops:Array Oper):Nat→Nat→Nat→Bool
 | 0,_,_=>false
 | f+1,j,i=>((ops[j]?).map fun o=>o.after.any fun e=>Region.binds md e && (e.on == i || waitsN md ops f e.on i)).getD false
theorem waitsN_of {i:Nat} {listed:Array Bool} (hc:Closed md ops listed):∀ (f j:Nat),waitsN md ops f j i=true→(∀ oj,ops[j]? = some oj→∀ e∈oj.after,Region.binds md e=true→listed.getD e.on false=true)→listed.getD i false=true
 | 0,_,h,_=>by cases h
 | f+1,j,h,hall=>by
  unfold waitsN at h
  cases hoj:ops[j]? with
  | none=>rw [hoj] at h;cases h
  | some oj=>
   rw [hoj] at h
   have h2:(oj.after.any fun e=>Region.binds md e && (e.on == i || waitsN md ops f e.on i))=true:=h
   obtain ⟨e,he,hb⟩:=Array.any_eq_true'.1 h2
   simp only [Bool.and_eq_true,Bool.or_eq_true,beq_iff_eq] at hb
   have hl:=hall oj hoj e he hb.1
   rcases hb.2 with h3 | h3
   ·rw [← h3];exact hl
   ·exact waitsN_of hc f e.on h3 fun o' ho e' he' hb'=>hc e.on o' ho hl e' he' hb'
theorem waitsN_listed {i j f:Nat} {listed:Array Bool} (h:waitsN md ops f j i=true) (hc:Closed md ops listed) (hj:j∈Region.ready md ops listed):listed.getD i false=true:=by
 obtain ⟨_,oj,hoj,hall⟩:=mem_ready.1 hj
 refine waitsN_of hc f j h fun o ho e he hb=>?_
 have:=Option.some.inj (hoj.symm.trans ho)
 subst this
 exact hall e he hb
theorem U_first2 {i f:Nat} {oi:Oper} {v:Value} (hi:ops[i]? = some oi) (hsel:∀ (j:Nat) (o:Oper) cs b,ops[j]? = some o→o.op≠.select cs b)
  (hQ:∀ c a w,Q (.panic c) (a.put oi.dst v) w→Q (.panic c) a w)
  (hlate:∀ j,j<ops.size→late j=true→waitsN md ops f j i=true) :
  ∀ (fuel:Nat) (listed:Array Bool) (a:Act) (w:World),Closed md ops listed→
   (∀ j oj,ops[j]? = some oj→j≠i→listed.getD j true=false→waitsN md ops f j i=false→oi.apart ops oj=true)→
   i∈Region.ready md ops listed→YieldsIf P ops S oi v a→S w→
   anyU P md ops Q late S fuel (listed.setIfInBounds i true) (a.put oi.dst v) w→anyU P md ops Q late S (fuel+1) listed a w
 | 0,listed,a,w,_,_,hr,hy,hS,H=>by
  refine ⟨fun h=>(by rw [h] at hr;cases hr),fun j hj=>?_⟩
  rcases Nat.decEq j i with hji | rfl
  ·have hm:=ready_mono hj hji
   rw [H.1] at hm;cases hm
  ·exact hy.wpOp hi hS ⟨.inr hS,H⟩
 | fuel+1,listed,a,w,hcl,hfree,hr,hy,hS,H=>by
  refine ⟨fun h=>(by rw [h] at hr;cases hr),fun j hj=>?_⟩
  rcases Nat.decEq j i with hji | rfl
  ·obtain ⟨hjun,oj,hoj,hall⟩:=mem_ready.1 hj
   have hno:waitsN md ops f j i=false:=by
    cases hw:waitsN md ops f j i with
    | false=>rfl
    | true=>
     have h1:=waitsN_listed hw hcl hj
     rw [unlisted_of_ready hr] at h1;cases h1
   have hnl:¬ late j=true:=fun hl=>by
    rw [hlate j (Array.getElem?_eq_some_iff.1 hoj).1 hl] at hno;cases hno
   have h2:=wpOp_putIf hoj (hfree j oj hoj hji hjun hno) (fun cs b=>hsel i oi cs b hi) (fun cs b=>hsel j oj cs b hoj) hQ hy (H.2 j (ready_mono hj hji))
   refine wpOp_mono (fun b u k=>?_) h2
   have hSu:=k.2.1.resolve_left hnl
   refine ⟨.inr hSu,U_first2 hi hsel hQ hlate fuel _ b u (hcl.add hj) ?_ (ready_mono hr (Ne.symm hji)) k.1 hSu ?_⟩
   ·intro l ol hol hli hun hw
    refine hfree l ol hol hli ?_ hw
    by_cases hjl:j=l
    ·exact hjl ▸ hjun
    ·rwa [getD_set_ne true hjl] at hun
   ·rw [Array.setIfInBounds_comm _ _ hji];exact k.2.2
  ·exact hy.wpOp hi hS ⟨.inr hS,H⟩
def lateN (md:Region.Mode) (ops:Array Oper) (late:Nat→Bool) (f i:Nat):Bool:=(List.range ops.size).all fun j=>!late j || waitsN md ops f j i
theorem lateN_spec {i f:Nat} (h:lateN md ops late f i=true) (j:Nat) (hj:j<ops.size) (hl:late j=true):waitsN md ops f j i=true:=by
 have h1:=List.all_eq_true.1 h j (List.mem_range.2 hj)
 rwa [hl] at h1
def freeN (md:Region.Mode) (ops:Array Oper) (listed:Array Bool) (f i:Nat):Bool:=
 match ops[i]? with
 | none=>false
 | some oi=>(List.range ops.size).all fun j=>j == i || listed.getD j true || waitsN md ops f j i || match ops[j]? with
   | some oj=>oi.apart ops oj
   | none=>true
theorem freeN_spec {i f:Nat} {oi:Oper} {listed:Array Bool} (hi:ops[i]? = some oi) (h:freeN md ops listed f i=true) (j:Nat) (oj:Oper)
  (hj:ops[j]? = some oj) (hne:j≠i) (hun:listed.getD j true=false) (hno:waitsN md ops f j i=false):oi.apart ops oj=true:=by
 simp only [freeN,hi,List.all_eq_true,List.mem_range] at h
 have h1:=h j (Array.getElem?_eq_some_iff.1 hj).1
 simp only [hj,Bool.or_eq_true,beq_iff_eq,hne,false_or,hun,hno,Bool.false_eq_true] at h1
 exact h1
theorem U_take2 (f:Nat) {i:Nat} {oi:Oper} {v:Value} {fuel:Nat} {listed:Array Bool} {a:Act} {w:World} (hi:ops[i]? = some oi)
  (hs:Region.noSelect ops=true) (hf:freeN md ops listed f i=true) (hr:(Region.ready md ops listed).contains i=true) (hl:lateN md ops late f i=true) (hc:closedB md ops listed=true)
  (hQ:∀ c a w,Q (.panic c) (a.put oi.dst v) w→Q (.panic c) a w) (hy:YieldsIf P ops S oi v a) (hS:S w)
  (h:anyU P md ops Q late S fuel (listed.setIfInBounds i true) (a.put oi.dst v) w):anyU P md ops Q late S (fuel+1) listed a w:=
 U_first2 hi (Region.noSelect_spec hs) hQ (lateN_spec hl) fuel listed a w (closedB_spec hc) (freeN_spec hi hf) (by simpa using hr) hy hS h
end
end Go.Proofs.YtihdndaibmgoiaaGreatDoor
namespace Go.Proofs.YtihdndaibmgoiaaGreatDoor
open Go.RowKit
theorem OwnDNum.keep {w w':World} {base:Nat} {v:Value} {z:Int} (h:OwnDNum w base v z) (hb:Below w.heap.size w w'):OwnDNum w' base v z:=by
 obtain ⟨s,h0,h1⟩:=h
 exact ⟨s,h0,Own.keep h1 hb (Nat.le_refl _)⟩
theorem OwnDNum.set2 {w:World} {base b:Nat} {v:Value} {z:Int} (h:OwnDNum w base v z) (hb:b<base) (x y:Value):OwnDNum ((w.setCell ⟨b,0,none⟩ x).setCell ⟨b,1,none⟩ y) base v z:=by
 obtain ⟨s,h0,h1⟩:=h
 exact ⟨s,h0,own_set2 h1 x y hb⟩
theorem OwnDNum.mono {w:World} {base base':Nat} {v:Value} {z:Int} (h:OwnDNum w base v z) (hb:base'≤base):OwnDNum w base' v z:=by
 obtain ⟨s,h0,h1⟩:=h
 exact ⟨s,h0,Own.mono h1 hb⟩
theorem OwnDNum.drew {w:World} {base:Nat} {v:Value} {z:Int} (h:OwnDNum w base v z):OwnDNum w.drew base v z:=h
theorem DNum.drew {w:World} {v:Value} {z:Int} (h:DNum w v z):DNum w.drew v z:=h
theorem fmod_eq (a b:Int):a + -(a.fdiv b*b)=a.fmod b:=by
 have:=Int.fmod_def a b
 rw [this,Int.mul_comm]
 omega
set_option maxRecDepth 100000 in
set_option maxHeartbeats 4000000 in
theorem divR_same {a1 a2:Option Addr} {n1 n2 c1 c2:Nat} {g1 g2:Bool} {a b:Int} {w:World} (hv:DNum w (.agg #[.bool g1,.slice a1 n1 c1]) a) (hu:DNum w (.agg #[.bool g2,.slice a2 n2 c2]) b) (hla:dlen 10 a.natAbs≤1000000) (hlb:dlen 10 b.natAbs≤1000000) (hb0:b≠0) (hg:(g1 == g2)=true) :
  Calls Tryz.prog 63 #[.agg #[.bool g1,.slice a1 n1 c1],.agg #[.bool g2,.slice a2 n2 c2]] w fun e w'=>∃ q r,e=.returned (.tuple #[q,r])∧OwnDNum w' w.heap.size q (a.fdiv b)∧OwnDNum w' w.heap.size r (a.fmod b)∧Below w.heap.size w w':=by
 have hsz:=fdiv_sizes a b hb0
 have hs:=hv.rep
 have ht:=hu.rep
 obtain ⟨eg1,en1⟩:=hv.parts
 obtain ⟨eg2,en2⟩:=hu.parts
 have HSZ:=hid hsz
 have HG1:=hid eg1
 have HG2:=hid eg2
 have hdq:dlen 10 (a.natAbs / b.natAbs)≤1000000:=Nat.le_trans (dlen_mono _ _ (Nat.div_le_self _ _)) hla
 have hpos:0<b.natAbs:=by omega
 clear hsz eg1 eg2 en1 en2
 have k1:=Blk.new w #[.bool g1,.slice a1 n1 c1] 59
 have k2:=Blk.new (w.alloc (.cells #[.bool g1,.slice a1 n1 c1] 59)) #[.bool g2,.slice a2 n2 c2] 59
 have k3:=Blk.new ((w.alloc (.cells #[.bool g1,.slice a1 n1 c1] 59)).alloc (.cells #[.bool g2,.slice a2 n2 c2] 59)) #[.bool false,.slice none 0 0] 59
 have k4:=Blk.new (((w.alloc (.cells #[.bool g1,.slice a1 n1 c1] 59)).alloc (.cells #[.bool g2,.slice a2 n2 c2] 59)).alloc (.cells #[.bool false,.slice none 0 0] 59)) #[.bool false,.slice none 0 0] 59
 simp only [World.size_alloc] at k2 k3 k4
 have kA:=((k1.alloc (.cells #[.bool g2,.slice a2 n2 c2] 59)).alloc (.cells #[.bool false,.slice none 0 0] 59)).alloc (.cells #[.bool false,.slice none 0 0] 59)
 have kB:=(k2.alloc (.cells #[.bool false,.slice none 0 0] 59)).alloc (.cells #[.bool false,.slice none 0 0] 59)
 have kR1:=k3.alloc (.cells #[.bool false,.slice none 0 0] 59)
 have kR2:=k4
 have hb:Below w.heap.size w ((((w.alloc (.cells #[.bool g1,.slice a1 n1 c1] 59)).alloc (.cells #[.bool g2,.slice a2 n2 c2] 59)).alloc (.cells #[.bool false,.slice none 0 0] 59)).alloc (.cells #[.bool false,.slice none 0 0] 59)):=((((Below.refl _ _).alloc (Nat.le_refl _) _).alloc (by simp) _).alloc (by simp;omega) _).alloc (by simp;omega) _
 clear k1 k2 k3 k4
 have hvW:=hv
 have huW:=hu
 have hv:=hv.below hb
 have hu:=hu.below hb
 have HD:=hid (dividedR_fn (hs.below hb) (ht.below hb) (by omega) (by omega) hpos)
 go_enter Tryz.func63,Tryz.ntmps63
 go_wp2_with fail
 generalize (((w.alloc (.cells #[.bool g1,.slice a1 n1 c1] 59)).alloc (.cells #[.bool g2,.slice a2 n2 c2] 59)).alloc (.cells #[.bool false,.slice none 0 0] 59)).alloc (.cells #[.bool false,.slice none 0 0] 59)=w0 at *
 obtain ⟨⟨p1,p2⟩,_⟩:=kA.two
 obtain ⟨⟨p3,p4⟩,_⟩:=kB.two
 go_wp2_with fail
 (with_reducible refine HD.out.mono ?_);rintro e w1 ⟨q,r,rfl,hq,hr,gg⟩
 obtain ⟨qa,qc,rfl⟩:=hq.dec.shape
 obtain ⟨ra0,rc0,rfl⟩:=hr.dec.shape
 have hlt0:=kR2.lt
 have hb:=hb.trans (gg.mono hb.size)
 have hv:=hv.below gg
 have hu:=hu.below gg
 have kA:=kA.later gg
 have kB:=kB.later gg
 have kR1:=kR1.later gg
 have kR2:=kR2.later gg
 have hw01:=gg.size
 clear gg p1 p2 p3 p4 HD hs ht
 obtain ⟨⟨p1,p2⟩,_⟩:=kA.two
 obtain ⟨⟨p3,p4⟩,_⟩:=kB.two
 have HN:=hid (num_fn hq.dec (by omega) false)
 have hqz0:OwnDNum w1 w0.heap.size (.agg #[.bool (false && decide (0<a.natAbs / b.natAbs)),.slice qa (dlen 10 (a.natAbs / b.natAbs)) qc]) (sgnInt false (a.natAbs / b.natAbs)):=⟨_,by rw [sgnInt_neg],by unfold OwnDec;rw [sgnInt_abs];exact hq⟩
 have habs:(sgnInt false (a.natAbs / b.natAbs)).natAbs=a.natAbs / b.natAbs:=sgnInt_abs _ _
 generalize (false && decide (0<a.natAbs / b.natAbs))=G at *
 generalize dlen 10 (a.natAbs / b.natAbs)=qn at *
 go_wp2_with fail
 (with_reducible refine HN.out.mono ?_);rintro e w2 ⟨rfl,gg⟩
 have hqz:=hqz0.keep gg
 have hb:=hb.trans (gg.mono hb.size)
 have hv:=hv.below gg
 have hu:=hu.below gg
 have kA:=kA.later gg
 have kB:=kB.later gg
 have kR1:=kR1.later gg
 have kR2:=kR2.later gg
 have hlt2:=kR2.lt
 have hw02:=hw01
 have hw02':w0.heap.size≤w2.heap.size:=Nat.le_trans hw01 gg.size
 clear gg p1 p2 p3 p4 hqz0 HN hw02
 have gg:Below w2.heap.size w2 (w2.alloc (.cells #[.bool G,.slice qa qn qc] 59)):=(Below.refl _ _).alloc (Nat.le_refl _) _
 have kQ:=Blk.new w2 #[.bool G,.slice qa qn qc] 59
 have hqz:=hqz.keep gg
 have hv:=hv.below gg
 have hu:=hu.below gg
 have kA:=kA.later gg
 have kB:=kB.later gg
 have kR1:=kR1.later gg
 have kR2:=kR2.later gg
 have hb:=hb.trans (gg.mono hb.size)
 obtain ⟨⟨p1,p2⟩,_⟩:=kA.two
 obtain ⟨⟨p3,p4⟩,_⟩:=kB.two
 clear gg
 have hneq:(!(decide (a<0) == decide (b<0)))=false:=by rw [← HG1.out,← HG2.out,hg];rfl
 have hfd:=HSZ.out.2 (.inr hneq)
 rw [hneq] at hfd
 have hfq:sgnInt false (a.natAbs / b.natAbs)=a.fdiv b:=hfd.1.symm
 have HFIN:=hid (show sgnInt false (a.natAbs / b.natAbs)=a.fdiv b∧a + -(sgnInt false (a.natAbs / b.natAbs)*b)=a.fmod b from ⟨hfq,by rw [hfq];exact fmod_eq a b⟩)
 clear hfq hfd hneq HSZ
 generalize sgnInt false (a.natAbs / b.natAbs)=z0 at *
 have hone:dlen 10 1=1:=by decide
 have hz1:dlen 10 (z0).natAbs≤1000001:=by
  have h1:=dlen_mono (z0).natAbs (a.natAbs+1) (by have:=Nat.div_le_self a.natAbs b.natAbs;omega)
  have h2:=dlen_add_le a.natAbs 1
  omega
 have hz2:dlen 10 ((z0)*b).natAbs≤2000001:=by rw [Int.natAbs_mul];have:=dlen_mul_le (z0).natAbs b.natAbs;omega
 clear hone
 clear habs
 have FIN1:=hid (show a.fdiv b=z0∧a.fmod b=a + -(z0*b) from ⟨HFIN.out.1.symm,HFIN.out.2.symm⟩)
 clear HFIN
 have WSZ:w2.heap.size=w2.heap.size:=rfl
 generalize hB8:w2.heap.size=B8 at *
 clear WSZ
 go_wp2_with fail
 generalize w2.alloc (.cells #[.bool G,.slice qa qn qc] 59)=w3 at *
 clear p1 p2 p3 p4
 have kA:=kA.drew
 have kB:=kB.drew
 have kR1:=kR1.drew
 have kR2:=kR2.drew
 have kQ:=kQ.drew
 have hv:=hv.drew
 have hu:=hu.drew
 have hqz:=hqz.drew
 have hb:=hb.drew
 refine U_begin (late:=fun i=>decide (7≤i)) (S:=fun u=>Blk u w.heap.size #[.bool g1,.slice a1 n1 c1] 59∧Blk u (w.heap.size+1) #[.bool g2,.slice a2 n2 c2] 59∧Blk u B8 #[.bool G,.slice qa qn qc] 59) (by kernel_rfl) ?_
 generalize w3.drew=wd at *
 refine U_take2 5 (i:=0) (v:=.agg #[.bool G,.slice qa qn qc]) rfl (by kernel_rfl) (by kernel_rfl) (by kernel_rfl) (by kernel_rfl) (by kernel_rfl) (fun _ _ _ h=>h) (.inl ⟨rfl,fun u hu=>(by obtain ⟨⟨h1,h2⟩,_⟩:=hu.2.2.two;go_simp)⟩) ⟨kA,kB,kQ⟩ ?_
 refine U_take2 5 (i:=1) (v:=.agg #[.bool g1,.slice a1 n1 c1]) rfl (by kernel_rfl) (by kernel_rfl) (by kernel_rfl) (by kernel_rfl) (by kernel_rfl) (fun _ _ _ h=>h) (.inl ⟨rfl,fun u hu=>(by obtain ⟨⟨h1,h2⟩,_⟩:=hu.1.two;go_simp)⟩) ⟨kA,kB,kQ⟩ ?_
 refine U_take2 5 (i:=2) (v:=.agg #[.bool G,.slice qa qn qc]) rfl (by kernel_rfl) (by kernel_rfl) (by kernel_rfl) (by kernel_rfl) (by kernel_rfl) (fun _ _ _ h=>h) (.inl ⟨rfl,fun u hu=>(by obtain ⟨⟨h1,h2⟩,_⟩:=hu.2.2.two;go_simp)⟩) ⟨kA,kB,kQ⟩ ?_
 refine U_take2 5 (i:=3) (v:=.agg #[.bool g2,.slice a2 n2 c2]) rfl (by kernel_rfl) (by kernel_rfl) (by kernel_rfl) (by kernel_rfl) (by kernel_rfl) (fun _ _ _ h=>h) (.inl ⟨rfl,fun u hu=>(by obtain ⟨⟨h1,h2⟩,_⟩:=hu.2.1.two;go_simp)⟩) ⟨kA,kB,kQ⟩ ?_
 refine U_step (j:=4) (by kernel_rfl) rfl (fun K hK=>?_)
 go_simp
 have hc:=hid (timesR_fn hqz.num hu (by omega) (by omega))
 (with_reducible refine hc.out.mono ?_);rintro e x4 ⟨r,rfl,hr,gg⟩
 clear hc
 have hr:=hr.num
 have hb:=hb.trans (gg.mono hb.size)
 have kA:=kA.later gg
 have kB:=kB.later gg
 have kR1:=kR1.later gg
 have kR2:=kR2.later gg
 have kQ:=kQ.later gg
 have hv:=hv.below gg
 have hu:=hu.below gg
 have hqz:=hqz.keep gg
 obtain ⟨rg,ra,rn,rc,rfl⟩:=hr.shape4
 refine hK.out _ _ (.inr ⟨kA,kB,kQ⟩) ?_
 clear hK K gg
 refine U_step (j:=5) (by kernel_rfl) rfl (fun K hK=>?_)
 go_simp
 have hc:=hid (oppR_fn hr (by omega))
 (with_reducible refine hc.out.mono ?_);rintro e x5 ⟨p,rfl,hp,gg⟩
 clear hc
 have hb:=hb.trans (gg.mono hb.size)
 have kA:=kA.later gg
 have kB:=kB.later gg
 have kR1:=kR1.later gg
 have kR2:=kR2.later gg
 have kQ:=kQ.later gg
 have hv:=hv.below gg
 have hu:=hu.below gg
 have hqz:=hqz.keep gg
 obtain ⟨pg,pa,pn,pc,rfl⟩:=hp.shape4
 refine hK.out _ _ (.inr ⟨kA,kB,kQ⟩) ?_
 clear hK K gg
 refine U_step (j:=6) (by kernel_rfl) rfl (fun K hK=>?_)
 go_simp
 have hc:=hid (plusR_fn hv hp (by omega) (by rw [Int.natAbs_neg];omega))
 (with_reducible refine hc.out.mono ?_);rintro e x6 ⟨t,rfl,ht,gg⟩
 clear hc
 have htb:=hb.size
 have htb2:=kR2.lt
 have hb:=hb.trans (gg.mono hb.size)
 have kA:=kA.later gg
 have kB:=kB.later gg
 have kR1:=kR1.later gg
 have kR2:=kR2.later gg
 have kQ:=kQ.later gg
 have hv:=hv.below gg
 have hu:=hu.below gg
 have hqz:=hqz.keep gg
 obtain ⟨tg,ta,tn,tc,rfl⟩:=ht.num.shape4
 refine hK.out _ _ (.inr ⟨kA,kB,kQ⟩) ?_
 clear hK K gg
 obtain ⟨⟨r1,r2⟩,r3,r4⟩:=kR1.two
 obtain ⟨⟨r5,r6⟩,r7,r8⟩:=kR2.two
 refine U_step (j:=7) (by kernel_rfl) rfl (fun K hK=>?_)
 go_simp
 refine hK.out _ _ (.inl rfl) ?_
 clear hK K
 have kR2:=kR2.set2_ne (b:=w.heap.size+1+1) (by omega) (.bool G) (.slice qa qn qc)
 have kR1:=kR1.set2 (.bool G) (.slice qa qn qc)
 have hqz:=hqz.set2 (b:=w.heap.size+1+1) (by omega) (.bool G) (.slice qa qn qc)
 have ht:=ht.set2 (b:=w.heap.size+1+1) (by omega) (.bool G) (.slice qa qn qc)
 have hb:=(hb.setCell (p:=⟨w.heap.size+1+1,0,none⟩) (by simp;omega) (.bool G)).setCell (p:=⟨w.heap.size+1+1,1,none⟩) (by simp;omega) (.slice qa qn qc)
 obtain ⟨⟨q1,q2⟩,q3,q4⟩:=kR1.two
 obtain ⟨⟨q5,q6⟩,q7,q8⟩:=kR2.two
 refine U_step (j:=8) (by kernel_rfl) rfl (fun K hK=>?_)
 go_simp
 refine hK.out _ _ (.inl rfl) ?_
 clear hK K
 refine U_done (by kernel_rfl) ?_ _
 have kR1:=kR1.set2_ne (b:=w.heap.size+1+1+1) (by omega) (.bool tg) (.slice ta tn tc)
 have kR2:=kR2.set2 (.bool tg) (.slice ta tn tc)
 have hqz:=hqz.set2 (b:=w.heap.size+1+1+1) (by omega) (.bool tg) (.slice ta tn tc)
 have ht:=ht.set2 (b:=w.heap.size+1+1+1) (by omega) (.bool tg) (.slice ta tn tc)
 have hb:=(hb.setCell (p:=⟨w.heap.size+1+1+1,0,none⟩) (by simp;omega) (.bool tg)).setCell (p:=⟨w.heap.size+1+1+1,1,none⟩) (by simp;omega) (.slice ta tn tc)
 obtain ⟨⟨y1,y2⟩,_⟩:=kR1.two
 obtain ⟨⟨y3,y4⟩,_⟩:=kR2.two
 go_wp2
 refine bodyPost_ret (v:=.tuple #[.agg #[.bool G,.slice qa qn qc],.agg #[.bool tg,.slice ta tn tc]]) (by simp [results,Tryz.results63,go_sem,y1,y2,y3,y4]) rfl ⟨_,_,rfl,?_,?_,hb⟩
 ·rw [FIN1.out.1]
  exact hqz.mono (by omega)
 ·rw [FIN1.out.2]
  exact ht.mono (by omega)
set_option maxRecDepth 100000 in
set_option maxHeartbeats 4000000 in
theorem divR_diff0 {a1 a2:Option Addr} {n1 n2 c1 c2:Nat} {g1 g2:Bool} {a b:Int} {w:World} (hv:DNum w (.agg #[.bool g1,.slice a1 n1 c1]) a) (hu:DNum w (.agg #[.bool g2,.slice a2 n2 c2]) b) (hla:dlen 10 a.natAbs≤1000000) (hlb:dlen 10 b.natAbs≤1000000) (hb0:b≠0) (hg:(g1 == g2)=false) (hr0:Hid (a.natAbs % b.natAbs=0)) :
  Calls Tryz.prog 63 #[.agg #[.bool g1,.slice a1 n1 c1],.agg #[.bool g2,.slice a2 n2 c2]] w fun e w'=>∃ q r,e=.returned (.tuple #[q,r])∧OwnDNum w' w.heap.size q (a.fdiv b)∧OwnDNum w' w.heap.size r (a.fmod b)∧Below w.heap.size w w':=by
 have hsz:=fdiv_sizes a b hb0
 have hs:=hv.rep
 have ht:=hu.rep
 obtain ⟨eg1,en1⟩:=hv.parts
 obtain ⟨eg2,en2⟩:=hu.parts
 have HSZ:=hid hsz
 have HG1:=hid eg1
 have HG2:=hid eg2
 have hdq:dlen 10 (a.natAbs / b.natAbs)≤1000000:=Nat.le_trans (dlen_mono _ _ (Nat.div_le_self _ _)) hla
 have hpos:0<b.natAbs:=by omega
 clear hsz eg1 eg2 en1 en2
 have k1:=Blk.new w #[.bool g1,.slice a1 n1 c1] 59
 have k2:=Blk.new (w.alloc (.cells #[.bool g1,.slice a1 n1 c1] 59)) #[.bool g2,.slice a2 n2 c2] 59
 have k3:=Blk.new ((w.alloc (.cells #[.bool g1,.slice a1 n1 c1] 59)).alloc (.cells #[.bool g2,.slice a2 n2 c2] 59)) #[.bool false,.slice none 0 0] 59
 have k4:=Blk.new (((w.alloc (.cells #[.bool g1,.slice a1 n1 c1] 59)).alloc (.cells #[.bool g2,.slice a2 n2 c2] 59)).alloc (.cells #[.bool false,.slice none 0 0] 59)) #[.bool false,.slice none 0 0] 59
 simp only [World.size_alloc] at k2 k3 k4
 have kA:=((k1.alloc (.cells #[.bool g2,.slice a2 n2 c2] 59)).alloc (.cells #[.bool false,.slice none 0 0] 59)).alloc (.cells #[.bool false,.slice none 0 0] 59)
 have kB:=(k2.alloc (.cells #[.bool false,.slice none 0 0] 59)).alloc (.cells #[.bool false,.slice none 0 0] 59)
 have kR1:=k3.alloc (.cells #[.bool false,.slice none 0 0] 59)
 have kR2:=k4
 have hb:Below w.heap.size w ((((w.alloc (.cells #[.bool g1,.slice a1 n1 c1] 59)).alloc (.cells #[.bool g2,.slice a2 n2 c2] 59)).alloc (.cells #[.bool false,.slice none 0 0] 59)).alloc (.cells #[.bool false,.slice none 0 0] 59)):=((((Below.refl _ _).alloc (Nat.le_refl _) _).alloc (by simp) _).alloc (by simp;omega) _).alloc (by simp;omega) _
 clear k1 k2 k3 k4
 have hvW:=hv
 have huW:=hu
 have hv:=hv.below hb
 have hu:=hu.below hb
 have HD:=hid (dividedR_fn (hs.below hb) (ht.below hb) (by omega) (by omega) hpos)
 go_enter Tryz.func63,Tryz.ntmps63
 go_wp2_with fail
 generalize (((w.alloc (.cells #[.bool g1,.slice a1 n1 c1] 59)).alloc (.cells #[.bool g2,.slice a2 n2 c2] 59)).alloc (.cells #[.bool false,.slice none 0 0] 59)).alloc (.cells #[.bool false,.slice none 0 0] 59)=w0 at *
 obtain ⟨⟨p1,p2⟩,_⟩:=kA.two
 obtain ⟨⟨p3,p4⟩,_⟩:=kB.two
 go_wp2_with fail
 (with_reducible refine HD.out.mono ?_);rintro e w1 ⟨q,r,rfl,hq,hr,gg⟩
 obtain ⟨qa,qc,rfl⟩:=hq.dec.shape
 obtain ⟨ra0,rc0,rfl⟩:=hr.dec.shape
 have hlt0:=kR2.lt
 have hb:=hb.trans (gg.mono hb.size)
 have hv:=hv.below gg
 have hu:=hu.below gg
 have kA:=kA.later gg
 have kB:=kB.later gg
 have kR1:=kR1.later gg
 have kR2:=kR2.later gg
 have hw01:=gg.size
 clear gg p1 p2 p3 p4 HD hs ht
 obtain ⟨⟨p1,p2⟩,_⟩:=kA.two
 obtain ⟨⟨p3,p4⟩,_⟩:=kB.two
 have HN:=hid (num_fn hq.dec (by omega) true)
 have hqz0:OwnDNum w1 w0.heap.size (.agg #[.bool (true && decide (0<a.natAbs / b.natAbs)),.slice qa (dlen 10 (a.natAbs / b.natAbs)) qc]) (sgnInt true (a.natAbs / b.natAbs)):=⟨_,by rw [sgnInt_neg],by unfold OwnDec;rw [sgnInt_abs];exact hq⟩
 have habs:(sgnInt true (a.natAbs / b.natAbs)).natAbs=a.natAbs / b.natAbs:=sgnInt_abs _ _
 generalize (true && decide (0<a.natAbs / b.natAbs))=G at *
 generalize dlen 10 (a.natAbs / b.natAbs)=qn at *
 go_wp2_with fail
 (with_reducible refine HN.out.mono ?_);rintro e w2 ⟨rfl,gg⟩
 have hqz:=hqz0.keep gg
 have hb:=hb.trans (gg.mono hb.size)
 have hv:=hv.below gg
 have hu:=hu.below gg
 have kA:=kA.later gg
 have kB:=kB.later gg
 have kR1:=kR1.later gg
 have kR2:=kR2.later gg
 have hlt2:=kR2.lt
 have hw02:=hw01
 have hw02':w0.heap.size≤w2.heap.size:=Nat.le_trans hw01 gg.size
 clear gg p1 p2 p3 p4 hqz0 HN hw02
 have gg:Below w2.heap.size w2 (w2.alloc (.cells #[.bool G,.slice qa qn qc] 59)):=(Below.refl _ _).alloc (Nat.le_refl _) _
 have kQ:=Blk.new w2 #[.bool G,.slice qa qn qc] 59
 have hqz:=hqz.keep gg
 have hv:=hv.below gg
 have hu:=hu.below gg
 have kA:=kA.later gg
 have kB:=kB.later gg
 have kR1:=kR1.later gg
 have kR2:=kR2.later gg
 have hb:=hb.trans (gg.mono hb.size)
 obtain ⟨⟨p1,p2⟩,_⟩:=kA.two
 obtain ⟨⟨p3,p4⟩,_⟩:=kB.two
 clear gg
 have hneq:(!(decide (a<0) == decide (b<0)))=true:=by rw [← HG1.out,← HG2.out,hg];rfl
 have hfd:=HSZ.out.2 (.inl hr0.out)
 rw [hneq] at hfd
 have hfq:sgnInt true (a.natAbs / b.natAbs)=a.fdiv b:=hfd.1.symm
 have HFIN:=hid (show sgnInt true (a.natAbs / b.natAbs)=a.fdiv b∧a + -(sgnInt true (a.natAbs / b.natAbs)*b)=a.fmod b from ⟨hfq,by rw [hfq];exact fmod_eq a b⟩)
 have hlen:dlen 10 (a.natAbs % b.natAbs)=0:=(dlen_zero_iff 10 _ (by decide)).2 hr0.out
 rw [hlen]
 clear hfq hfd hneq HSZ hr0 hlen
 generalize sgnInt true (a.natAbs / b.natAbs)=z0 at *
 have hone:dlen 10 1=1:=by decide
 have hz1:dlen 10 (z0).natAbs≤1000001:=by
  have h1:=dlen_mono (z0).natAbs (a.natAbs+1) (by have:=Nat.div_le_self a.natAbs b.natAbs;omega)
  have h2:=dlen_add_le a.natAbs 1
  omega
 have hz2:dlen 10 ((z0)*b).natAbs≤2000001:=by rw [Int.natAbs_mul];have:=dlen_mul_le (z0).natAbs b.natAbs;omega
 clear hone
 clear habs
 have FIN1:=hid (show a.fdiv b=z0∧a.fmod b=a + -(z0*b) from ⟨HFIN.out.1.symm,HFIN.out.2.symm⟩)
 clear HFIN
 generalize hB8:w2.heap.size=B8 at *
 go_wp2_with fail
 generalize w2.alloc (.cells #[.bool G,.slice qa qn qc] 59)=w3 at *
 clear p1 p2 p3 p4
 have kA:=kA.drew
 have kB:=kB.drew
 have kR1:=kR1.drew
 have kR2:=kR2.drew
 have kQ:=kQ.drew
 have hv:=hv.drew
 have hu:=hu.drew
 have hqz:=hqz.drew
 have hb:=hb.drew
 refine U_begin (late:=fun i=>decide (7≤i)) (S:=fun u=>Blk u w.heap.size #[.bool g1,.slice a1 n1 c1] 59∧Blk u (w.heap.size+1) #[.bool g2,.slice a2 n2 c2] 59∧Blk u B8 #[.bool G,.slice qa qn qc] 59) (by kernel_rfl) ?_
 generalize w3.drew=wd at *
 refine U_take2 5 (i:=0) (v:=.agg #[.bool G,.slice qa qn qc]) rfl (by kernel_rfl) (by kernel_rfl) (by kernel_rfl) (by kernel_rfl) (by kernel_rfl) (fun _ _ _ h=>h) (.inl ⟨rfl,fun u hu=>(by obtain ⟨⟨h1,h2⟩,_⟩:=hu.2.2.two;go_simp)⟩) ⟨kA,kB,kQ⟩ ?_
 refine U_take2 5 (i:=1) (v:=.agg #[.bool g1,.slice a1 n1 c1]) rfl (by kernel_rfl) (by kernel_rfl) (by kernel_rfl) (by kernel_rfl) (by kernel_rfl) (fun _ _ _ h=>h) (.inl ⟨rfl,fun u hu=>(by obtain ⟨⟨h1,h2⟩,_⟩:=hu.1.two;go_simp)⟩) ⟨kA,kB,kQ⟩ ?_
 refine U_take2 5 (i:=2) (v:=.agg #[.bool G,.slice qa qn qc]) rfl (by kernel_rfl) (by kernel_rfl) (by kernel_rfl) (by kernel_rfl) (by kernel_rfl) (fun _ _ _ h=>h) (.inl ⟨rfl,fun u hu=>(by obtain ⟨⟨h1,h2⟩,_⟩:=hu.2.2.two;go_simp)⟩) ⟨kA,kB,kQ⟩ ?_
 refine U_take2 5 (i:=3) (v:=.agg #[.bool g2,.slice a2 n2 c2]) rfl (by kernel_rfl) (by kernel_rfl) (by kernel_rfl) (by kernel_rfl) (by kernel_rfl) (fun _ _ _ h=>h) (.inl ⟨rfl,fun u hu=>(by obtain ⟨⟨h1,h2⟩,_⟩:=hu.2.1.two;go_simp)⟩) ⟨kA,kB,kQ⟩ ?_
 refine U_step (j:=4) (by kernel_rfl) rfl (fun K hK=>?_)
 go_simp
 have hc:=hid (timesR_fn hqz.num hu (by omega) (by omega))
 (with_reducible refine hc.out.mono ?_);rintro e x4 ⟨r,rfl,hr,gg⟩
 clear hc
 have hr:=hr.num
 have hb:=hb.trans (gg.mono hb.size)
 have kA:=kA.later gg
 have kB:=kB.later gg
 have kR1:=kR1.later gg
 have kR2:=kR2.later gg
 have kQ:=kQ.later gg
 have hv:=hv.below gg
 have hu:=hu.below gg
 have hqz:=hqz.keep gg
 obtain ⟨rg,ra,rn,rc,rfl⟩:=hr.shape4
 refine hK.out _ _ (.inr ⟨kA,kB,kQ⟩) ?_
 clear hK K gg
 refine U_step (j:=5) (by kernel_rfl) rfl (fun K hK=>?_)
 go_simp
 have hc:=hid (oppR_fn hr (by omega))
 (with_reducible refine hc.out.mono ?_);rintro e x5 ⟨p,rfl,hp,gg⟩
 clear hc
 have hb:=hb.trans (gg.mono hb.size)
 have kA:=kA.later gg
 have kB:=kB.later gg
 have kR1:=kR1.later gg
 have kR2:=kR2.later gg
 have kQ:=kQ.later gg
 have hv:=hv.below gg
 have hu:=hu.below gg
 have hqz:=hqz.keep gg
 obtain ⟨pg,pa,pn,pc,rfl⟩:=hp.shape4
 refine hK.out _ _ (.inr ⟨kA,kB,kQ⟩) ?_
 clear hK K gg
 refine U_step (j:=6) (by kernel_rfl) rfl (fun K hK=>?_)
 go_simp
 have hc:=hid (plusR_fn hv hp (by omega) (by rw [Int.natAbs_neg];omega))
 (with_reducible refine hc.out.mono ?_);rintro e x6 ⟨t,rfl,ht,gg⟩
 clear hc
 have htb:=hb.size
 have htb2:=kR2.lt
 have hb:=hb.trans (gg.mono hb.size)
 have kA:=kA.later gg
 have kB:=kB.later gg
 have kR1:=kR1.later gg
 have kR2:=kR2.later gg
 have kQ:=kQ.later gg
 have hv:=hv.below gg
 have hu:=hu.below gg
 have hqz:=hqz.keep gg
 obtain ⟨tg,ta,tn,tc,rfl⟩:=ht.num.shape4
 refine hK.out _ _ (.inr ⟨kA,kB,kQ⟩) ?_
 clear hK K gg
 obtain ⟨⟨r1,r2⟩,r3,r4⟩:=kR1.two
 obtain ⟨⟨r5,r6⟩,r7,r8⟩:=kR2.two
 refine U_step (j:=7) (by kernel_rfl) rfl (fun K hK=>?_)
 go_simp
 refine hK.out _ _ (.inl rfl) ?_
 clear hK K
 have kR2:=kR2.set2_ne (b:=w.heap.size+1+1) (by omega) (.bool G) (.slice qa qn qc)
 have kR1:=kR1.set2 (.bool G) (.slice qa qn qc)
 have hqz:=hqz.set2 (b:=w.heap.size+1+1) (by omega) (.bool G) (.slice qa qn qc)
 have ht:=ht.set2 (b:=w.heap.size+1+1) (by omega) (.bool G) (.slice qa qn qc)
 have hb:=(hb.setCell (p:=⟨w.heap.size+1+1,0,none⟩) (by simp;omega) (.bool G)).setCell (p:=⟨w.heap.size+1+1,1,none⟩) (by simp;omega) (.slice qa qn qc)
 obtain ⟨⟨q1,q2⟩,q3,q4⟩:=kR1.two
 obtain ⟨⟨q5,q6⟩,q7,q8⟩:=kR2.two
 refine U_step (j:=8) (by kernel_rfl) rfl (fun K hK=>?_)
 go_simp
 refine hK.out _ _ (.inl rfl) ?_
 clear hK K
 refine U_done (by kernel_rfl) ?_ _
 have kR1:=kR1.set2_ne (b:=w.heap.size+1+1+1) (by omega) (.bool tg) (.slice ta tn tc)
 have kR2:=kR2.set2 (.bool tg) (.slice ta tn tc)
 have hqz:=hqz.set2 (b:=w.heap.size+1+1+1) (by omega) (.bool tg) (.slice ta tn tc)
 have ht:=ht.set2 (b:=w.heap.size+1+1+1) (by omega) (.bool tg) (.slice ta tn tc)
 have hb:=(hb.setCell (p:=⟨w.heap.size+1+1+1,0,none⟩) (by simp;omega) (.bool tg)).setCell (p:=⟨w.heap.size+1+1+1,1,none⟩) (by simp;omega) (.slice ta tn tc)
 obtain ⟨⟨y1,y2⟩,_⟩:=kR1.two
 obtain ⟨⟨y3,y4⟩,_⟩:=kR2.two
 go_wp2
 refine bodyPost_ret (v:=.tuple #[.agg #[.bool G,.slice qa qn qc],.agg #[.bool tg,.slice ta tn tc]]) (by simp [results,Tryz.results63,go_sem,y1,y2,y3,y4]) rfl ⟨_,_,rfl,?_,?_,hb⟩
 ·rw [FIN1.out.1]
  exact hqz.mono (by omega)
 ·rw [FIN1.out.2]
  exact ht.mono (by omega)
set_option maxRecDepth 100000 in
set_option maxHeartbeats 4000000 in
theorem divR_diff1 {a1 a2:Option Addr} {n1 n2 c1 c2:Nat} {g1 g2:Bool} {a b:Int} {w:World} (hv:DNum w (.agg #[.bool g1,.slice a1 n1 c1]) a) (hu:DNum w (.agg #[.bool g2,.slice a2 n2 c2]) b) (hla:dlen 10 a.natAbs≤1000000) (hlb:dlen 10 b.natAbs≤1000000) (hb0:b≠0) (hg:(g1 == g2)=false) (hr0:0<a.natAbs % b.natAbs) :
  Calls Tryz.prog 63 #[.agg #[.bool g1,.slice a1 n1 c1],.agg #[.bool g2,.slice a2 n2 c2]] w fun e w'=>∃ q r,e=.returned (.tuple #[q,r])∧OwnDNum w' w.heap.size q (a.fdiv b)∧OwnDNum w' w.heap.size r (a.fmod b)∧Below w.heap.size w w':=by
 have hsz:=fdiv_sizes a b hb0
 have hs:=hv.rep
 have ht:=hu.rep
 obtain ⟨eg1,en1⟩:=hv.parts
 obtain ⟨eg2,en2⟩:=hu.parts
 have HSZ:=hid hsz
 have HG1:=hid eg1
 have HG2:=hid eg2
 have hdq:dlen 10 (a.natAbs / b.natAbs)≤1000000:=Nat.le_trans (dlen_mono _ _ (Nat.div_le_self _ _)) hla
 have hpos:0<b.natAbs:=by omega
 clear hsz eg1 eg2 en1 en2
 have k1:=Blk.new w #[.bool g1,.slice a1 n1 c1] 59
 have k2:=Blk.new (w.alloc (.cells #[.bool g1,.slice a1 n1 c1] 59)) #[.bool g2,.slice a2 n2 c2] 59
 have k3:=Blk.new ((w.alloc (.cells #[.bool g1,.slice a1 n1 c1] 59)).alloc (.cells #[.bool g2,.slice a2 n2 c2] 59)) #[.bool false,.slice none 0 0] 59
 have k4:=Blk.new (((w.alloc (.cells #[.bool g1,.slice a1 n1 c1] 59)).alloc (.cells #[.bool g2,.slice a2 n2 c2] 59)).alloc (.cells #[.bool false,.slice none 0 0] 59)) #[.bool false,.slice none 0 0] 59
 simp only [World.size_alloc] at k2 k3 k4
 have kA:=((k1.alloc (.cells #[.bool g2,.slice a2 n2 c2] 59)).alloc (.cells #[.bool false,.slice none 0 0] 59)).alloc (.cells #[.bool false,.slice none 0 0] 59)
 have kB:=(k2.alloc (.cells #[.bool false,.slice none 0 0] 59)).alloc (.cells #[.bool false,.slice none 0 0] 59)
 have kR1:=k3.alloc (.cells #[.bool false,.slice none 0 0] 59)
 have kR2:=k4
 have hb:Below w.heap.size w ((((w.alloc (.cells #[.bool g1,.slice a1 n1 c1] 59)).alloc (.cells #[.bool g2,.slice a2 n2 c2] 59)).alloc (.cells #[.bool false,.slice none 0 0] 59)).alloc (.cells #[.bool false,.slice none 0 0] 59)):=((((Below.refl _ _).alloc (Nat.le_refl _) _).alloc (by simp) _).alloc (by simp;omega) _).alloc (by simp;omega) _
 clear k1 k2 k3 k4
 have hvW:=hv
 have huW:=hu
 have hv:=hv.below hb
 have hu:=hu.below hb
 have HD:=hid (dividedR_fn (hs.below hb) (ht.below hb) (by omega) (by omega) hpos)
 go_enter Tryz.func63,Tryz.ntmps63
 go_wp2_with fail
 generalize (((w.alloc (.cells #[.bool g1,.slice a1 n1 c1] 59)).alloc (.cells #[.bool g2,.slice a2 n2 c2] 59)).alloc (.cells #[.bool false,.slice none 0 0] 59)).alloc (.cells #[.bool false,.slice none 0 0] 59)=w0 at *
 obtain ⟨⟨p1,p2⟩,_⟩:=kA.two
 obtain ⟨⟨p3,p4⟩,_⟩:=kB.two
 go_wp2_with fail
 (with_reducible refine HD.out.mono ?_);rintro e w1 ⟨q,r,rfl,hq,hr,gg⟩
 obtain ⟨qa,qc,rfl⟩:=hq.dec.shape
 obtain ⟨ra0,rc0,rfl⟩:=hr.dec.shape
 have hlt0:=kR2.lt
 have hb:=hb.trans (gg.mono hb.size)
 have hv:=hv.below gg
 have hu:=hu.below gg
 have kA:=kA.later gg
 have kB:=kB.later gg
 have kR1:=kR1.later gg
 have kR2:=kR2.later gg
 have hw01:=gg.size
 clear gg p1 p2 p3 p4 HD hs ht
 obtain ⟨⟨p1,p2⟩,_⟩:=kA.two
 obtain ⟨⟨p3,p4⟩,_⟩:=kB.two
 have HN:=hid (num_fn hq.dec (by omega) true)
 have hqz0:OwnDNum w1 w0.heap.size (.agg #[.bool (true && decide (0<a.natAbs / b.natAbs)),.slice qa (dlen 10 (a.natAbs / b.natAbs)) qc]) (sgnInt true (a.natAbs / b.natAbs)):=⟨_,by rw [sgnInt_neg],by unfold OwnDec;rw [sgnInt_abs];exact hq⟩
 have habs:(sgnInt true (a.natAbs / b.natAbs)).natAbs=a.natAbs / b.natAbs:=sgnInt_abs _ _
 generalize (true && decide (0<a.natAbs / b.natAbs))=G at *
 generalize dlen 10 (a.natAbs / b.natAbs)=qn at *
 go_wp2_with fail
 (with_reducible refine HN.out.mono ?_);rintro e w2 ⟨rfl,gg⟩
 have hqz:=hqz0.keep gg
 have hb:=hb.trans (gg.mono hb.size)
 have hv:=hv.below gg
 have hu:=hu.below gg
 have kA:=kA.later gg
 have kB:=kB.later gg
 have kR1:=kR1.later gg
 have kR2:=kR2.later gg
 have hlt2:=kR2.lt
 have hw02:=hw01
 have hw02':w0.heap.size≤w2.heap.size:=Nat.le_trans hw01 gg.size
 clear gg p1 p2 p3 p4 hqz0 HN hw02
 have gg:Below w2.heap.size w2 (w2.alloc (.cells #[.bool G,.slice qa qn qc] 59)):=(Below.refl _ _).alloc (Nat.le_refl _) _
 have kQ:=Blk.new w2 #[.bool G,.slice qa qn qc] 59
 have hqz:=hqz.keep gg
 have hv:=hv.below gg
 have hu:=hu.below gg
 have kA:=kA.later gg
 have kB:=kB.later gg
 have kR1:=kR1.later gg
 have kR2:=kR2.later gg
 have hb:=hb.trans (gg.mono hb.size)
 obtain ⟨⟨p1,p2⟩,_⟩:=kA.two
 obtain ⟨⟨p3,p4⟩,_⟩:=kB.two
 clear gg
 have hneq:(!(decide (a<0) == decide (b<0)))=true:=by rw [← HG1.out,← HG2.out,hg];rfl
 have hfd:=HSZ.out.1 hr0 hneq
 rw [hneq] at hfd
 have hfq:sgnInt true (a.natAbs / b.natAbs) + -1=a.fdiv b:=hfd.1.symm
 have HFIN:=hid (show sgnInt true (a.natAbs / b.natAbs) + -1=a.fdiv b∧a + -((sgnInt true (a.natAbs / b.natAbs) + -1)*b)=a.fmod b from ⟨hfq,by rw [hfq];exact fmod_eq a b⟩)
 have hlen:0<dlen 10 (a.natAbs % b.natAbs):=(dlen_pos_iff _).2 hr0
 clear hfq hfd hneq HSZ hr0
 generalize sgnInt true (a.natAbs / b.natAbs)=z0 at *
 have hone:dlen 10 1=1:=by decide
 have hz1:dlen 10 (z0 + -1).natAbs≤1000001:=by
  have h1:=dlen_mono (z0 + -1).natAbs (a.natAbs+1) (by have:=Nat.div_le_self a.natAbs b.natAbs;omega)
  have h2:=dlen_add_le a.natAbs 1
  omega
 have hz2:dlen 10 ((z0 + -1)*b).natAbs≤2000001:=by rw [Int.natAbs_mul];have:=dlen_mul_le (z0 + -1).natAbs b.natAbs;omega
 clear hone
 have hz0:dlen 10 z0.natAbs≤1000000:=by rw [habs];exact Nat.le_trans (dlen_mono _ _ (Nat.div_le_self _ _)) hla
 clear habs
 have FIN1:=hid (show a.fdiv b=z0 + -1∧a.fmod b=a + -((z0 + -1)*b) from ⟨HFIN.out.1.symm,HFIN.out.2.symm⟩)
 clear HFIN
 have hltQ:=kR2.lt
 have hB3:w.heap.size+1+1+1<w2.heap.size:=hlt2
 generalize hB8:w2.heap.size=B8 at *
 go_wp2_with fail
 generalize w2.alloc (.cells #[.bool G,.slice qa qn qc] 59)=w3 at *
 clear p1 p2 p3 p4 hlen
 have kA:=kA.drew
 have kB:=kB.drew
 have kR1:=kR1.drew
 have kR2:=kR2.drew
 have kQ:=kQ.drew
 have hqz:=hqz.drew
 have hb:=hb.drew
 refine U_begin (late:=fun i=>decide (3≤i)) (S:=fun u=>Blk u B8 #[.bool G,.slice qa qn qc] 59) (by kernel_rfl) ?_
 generalize w3.drew=wd at *
 refine U_take2 5 (i:=0) (v:=.agg #[.bool G,.slice qa qn qc]) rfl (by kernel_rfl) (by kernel_rfl) (by kernel_rfl) (by kernel_rfl) (by kernel_rfl) (fun _ _ _ h=>h) (.inl ⟨rfl,fun u hu=>(by obtain ⟨⟨h1,h2⟩,_⟩:=hu.two;go_simp)⟩) kQ ?_
 refine U_step (j:=1) (by kernel_rfl) rfl (fun K hK=>?_)
 go_simp
 have hc:=fun w=>hid (whole_fn (-1) (by decide) (by decide) w)
 (with_reducible refine (hc _).out.mono ?_);rintro e x1 ⟨s,rfl,hs,gg⟩
 clear hc
 have hb:=hb.trans (gg.mono hb.size)
 have kA:=kA.later gg
 have kB:=kB.later gg
 have kR1:=kR1.later gg
 have kR2:=kR2.later gg
 have kQ:=kQ.later gg
 have hqz:=hqz.keep gg
 obtain ⟨sg,sa,sn,sc,rfl⟩:=hs.num.shape4
 refine hK.out _ _ (.inr kQ) ?_
 clear hK K gg
 refine U_step (j:=2) (by kernel_rfl) rfl (fun K hK=>?_)
 go_simp
 have hc:=hid (plusR_fn hqz.num hs.num (by omega) (by decide))
 (with_reducible refine hc.out.mono ?_);rintro e x2 ⟨t,rfl,ht,gg⟩
 clear hc
 have hltx:=kQ.lt
 have hsbx:=hb.size
 have hb:=hb.trans (gg.mono hb.size)
 have kA:=kA.later gg
 have kB:=kB.later gg
 have kR1:=kR1.later gg
 have kR2:=kR2.later gg
 have kQ:=kQ.later gg
 obtain ⟨Gq,ua,un,uc,rfl⟩:=ht.num.shape4
 refine hK.out _ _ (.inr kQ) ?_
 clear hK K gg
 obtain ⟨⟨r1,r2⟩,r3,r4⟩:=kQ.two
 refine U_step (j:=3) (by kernel_rfl) rfl (fun K hK=>?_)
 go_simp
 refine hK.out _ _ (.inl rfl) ?_
 clear hK K
 refine U_done (by kernel_rfl) ?_ _
 have kA:=kA.set2_ne (b:=B8) (by omega) (.bool Gq) (.slice ua un uc)
 have kB:=kB.set2_ne (b:=B8) (by omega) (.bool Gq) (.slice ua un uc)
 have kR1:=kR1.set2_ne (b:=B8) (by omega) (.bool Gq) (.slice ua un uc)
 have kR2:=kR2.set2_ne (b:=B8) (by omega) (.bool Gq) (.slice ua un uc)
 have kQ:=kQ.set2 (.bool Gq) (.slice ua un uc)
 have hb:=(hb.setCell (p:=⟨B8,0,none⟩) (by simp;omega) (.bool Gq)).setCell (p:=⟨B8,1,none⟩) (by simp;omega) (.slice ua un uc)
 have hqz:=(ht.set2 (b:=B8) (by omega) (.bool Gq) (.slice ua un uc)).mono (base':=w0.heap.size) (by omega)
 have hv:=hvW.below hb
 have hu:=huW.below hb
 clear ht
 go_wp2_with fail
 generalize (x2.setCell ⟨B8,0,none⟩ (.bool Gq)).setCell ⟨B8,1,none⟩ (.slice ua un uc)=w4 at *
 clear r1 r2 r3 r4
 have kA:=kA.drew
 have kB:=kB.drew
 have kR1:=kR1.drew
 have kR2:=kR2.drew
 have kQ:=kQ.drew
 have hv:=hv.drew
 have hu:=hu.drew
 have hqz:=hqz.drew
 have hb:=hb.drew
 refine U_begin (late:=fun i=>decide (7≤i)) (S:=fun u=>Blk u w.heap.size #[.bool g1,.slice a1 n1 c1] 59∧Blk u (w.heap.size+1) #[.bool g2,.slice a2 n2 c2] 59∧Blk u B8 #[.bool Gq,.slice ua un uc] 59) (by kernel_rfl) ?_
 generalize w4.drew=wd at *
 refine U_take2 5 (i:=0) (v:=.agg #[.bool Gq,.slice ua un uc]) rfl (by kernel_rfl) (by kernel_rfl) (by kernel_rfl) (by kernel_rfl) (by kernel_rfl) (fun _ _ _ h=>h) (.inl ⟨rfl,fun u hu=>(by obtain ⟨⟨h1,h2⟩,_⟩:=hu.2.2.two;go_simp)⟩) ⟨kA,kB,kQ⟩ ?_
 refine U_take2 5 (i:=1) (v:=.agg #[.bool g1,.slice a1 n1 c1]) rfl (by kernel_rfl) (by kernel_rfl) (by kernel_rfl) (by kernel_rfl) (by kernel_rfl) (fun _ _ _ h=>h) (.inl ⟨rfl,fun u hu=>(by obtain ⟨⟨h1,h2⟩,_⟩:=hu.1.two;go_simp)⟩) ⟨kA,kB,kQ⟩ ?_
 refine U_take2 5 (i:=2) (v:=.agg #[.bool Gq,.slice ua un uc]) rfl (by kernel_rfl) (by kernel_rfl) (by kernel_rfl) (by kernel_rfl) (by kernel_rfl) (fun _ _ _ h=>h) (.inl ⟨rfl,fun u hu=>(by obtain ⟨⟨h1,h2⟩,_⟩:=hu.2.2.two;go_simp)⟩) ⟨kA,kB,kQ⟩ ?_
 refine U_take2 5 (i:=3) (v:=.agg #[.bool g2,.slice a2 n2 c2]) rfl (by kernel_rfl) (by kernel_rfl) (by kernel_rfl) (by kernel_rfl) (by kernel_rfl) (fun _ _ _ h=>h) (.inl ⟨rfl,fun u hu=>(by obtain ⟨⟨h1,h2⟩,_⟩:=hu.2.1.two;go_simp)⟩) ⟨kA,kB,kQ⟩ ?_
 refine U_step (j:=4) (by kernel_rfl) rfl (fun K hK=>?_)
 go_simp
 have hc:=hid (timesR_fn hqz.num hu (by omega) (by omega))
 (with_reducible refine hc.out.mono ?_);rintro e x4 ⟨r,rfl,hr,gg⟩
 clear hc
 have hr:=hr.num
 have hb:=hb.trans (gg.mono hb.size)
 have kA:=kA.later gg
 have kB:=kB.later gg
 have kR1:=kR1.later gg
 have kR2:=kR2.later gg
 have kQ:=kQ.later gg
 have hv:=hv.below gg
 have hu:=hu.below gg
 have hqz:=hqz.keep gg
 obtain ⟨rg,ra,rn,rc,rfl⟩:=hr.shape4
 refine hK.out _ _ (.inr ⟨kA,kB,kQ⟩) ?_
 clear hK K gg
 refine U_step (j:=5) (by kernel_rfl) rfl (fun K hK=>?_)
 go_simp
 have hc:=hid (oppR_fn hr (by omega))
 (with_reducible refine hc.out.mono ?_);rintro e x5 ⟨p,rfl,hp,gg⟩
 clear hc
 have hb:=hb.trans (gg.mono hb.size)
 have kA:=kA.later gg
 have kB:=kB.later gg
 have kR1:=kR1.later gg
 have kR2:=kR2.later gg
 have kQ:=kQ.later gg
 have hv:=hv.below gg
 have hu:=hu.below gg
 have hqz:=hqz.keep gg
 obtain ⟨pg,pa,pn,pc,rfl⟩:=hp.shape4
 refine hK.out _ _ (.inr ⟨kA,kB,kQ⟩) ?_
 clear hK K gg
 refine U_step (j:=6) (by kernel_rfl) rfl (fun K hK=>?_)
 go_simp
 have hc:=hid (plusR_fn hv hp (by omega) (by rw [Int.natAbs_neg];omega))
 (with_reducible refine hc.out.mono ?_);rintro e x6 ⟨t,rfl,ht,gg⟩
 clear hc
 have htb:=hb.size
 have htb2:=kR2.lt
 have hb:=hb.trans (gg.mono hb.size)
 have kA:=kA.later gg
 have kB:=kB.later gg
 have kR1:=kR1.later gg
 have kR2:=kR2.later gg
 have kQ:=kQ.later gg
 have hv:=hv.below gg
 have hu:=hu.below gg
 have hqz:=hqz.keep gg
 obtain ⟨tg,ta,tn,tc,rfl⟩:=ht.num.shape4
 refine hK.out _ _ (.inr ⟨kA,kB,kQ⟩) ?_
 clear hK K gg
 obtain ⟨⟨r1,r2⟩,r3,r4⟩:=kR1.two
 obtain ⟨⟨r5,r6⟩,r7,r8⟩:=kR2.two
 refine U_step (j:=7) (by kernel_rfl) rfl (fun K hK=>?_)
 go_simp
 refine hK.out _ _ (.inl rfl) ?_
 clear hK K
 have kR2:=kR2.set2_ne (b:=w.heap.size+1+1) (by omega) (.bool Gq) (.slice ua un uc)
 have kR1:=kR1.set2 (.bool Gq) (.slice ua un uc)
 have hqz:=hqz.set2 (b:=w.heap.size+1+1) (by omega) (.bool Gq) (.slice ua un uc)
 have ht:=ht.set2 (b:=w.heap.size+1+1) (by omega) (.bool Gq) (.slice ua un uc)
 have hb:=(hb.setCell (p:=⟨w.heap.size+1+1,0,none⟩) (by simp;omega) (.bool Gq)).setCell (p:=⟨w.heap.size+1+1,1,none⟩) (by simp;omega) (.slice ua un uc)
 obtain ⟨⟨q1,q2⟩,q3,q4⟩:=kR1.two
 obtain ⟨⟨q5,q6⟩,q7,q8⟩:=kR2.two
 refine U_step (j:=8) (by kernel_rfl) rfl (fun K hK=>?_)
 go_simp
 refine hK.out _ _ (.inl rfl) ?_
 clear hK K
 refine U_done (by kernel_rfl) ?_ _
 have kR1:=kR1.set2_ne (b:=w.heap.size+1+1+1) (by omega) (.bool tg) (.slice ta tn tc)
 have kR2:=kR2.set2 (.bool tg) (.slice ta tn tc)
 have hqz:=hqz.set2 (b:=w.heap.size+1+1+1) (by omega) (.bool tg) (.slice ta tn tc)
 have ht:=ht.set2 (b:=w.heap.size+1+1+1) (by omega) (.bool tg) (.slice ta tn tc)
 have hb:=(hb.setCell (p:=⟨w.heap.size+1+1+1,0,none⟩) (by simp;omega) (.bool tg)).setCell (p:=⟨w.heap.size+1+1+1,1,none⟩) (by simp;omega) (.slice ta tn tc)
 obtain ⟨⟨y1,y2⟩,_⟩:=kR1.two
 obtain ⟨⟨y3,y4⟩,_⟩:=kR2.two
 go_wp2
 refine bodyPost_ret (v:=.tuple #[.agg #[.bool Gq,.slice ua un uc],.agg #[.bool tg,.slice ta tn tc]]) (by simp [results,Tryz.results63,go_sem,y1,y2,y3,y4]) rfl ⟨_,_,rfl,?_,?_,hb⟩
 ·rw [FIN1.out.1]
  exact hqz.mono (by omega)
 ·rw [FIN1.out.2]
  exact ht.mono (by omega)
theorem divR_fn {v u:Value} {a b:Int} {w:World} (hv:DNum w v a) (hu:DNum w u b) (hla:dlen 10 a.natAbs≤1000000) (hlb:dlen 10 b.natAbs≤1000000) (hb0:b≠0) :
  Calls Tryz.prog 63 #[v,u] w fun e w'=>∃ q r,e=.returned (.tuple #[q,r])∧OwnDNum w' w.heap.size q (a.fdiv b)∧OwnDNum w' w.heap.size r (a.fmod b)∧Below w.heap.size w w':=by
 obtain ⟨g1,a1,n1,c1,rfl⟩:=hv.shape4
 obtain ⟨g2,a2,n2,c2,rfl⟩:=hu.shape4
 cases hg:(g1 == g2) with
 | true=>exact divR_same hv hu hla hlb hb0 hg
 | false=>
  rcases Nat.eq_zero_or_pos (a.natAbs % b.natAbs) with h | h
  ·exact divR_diff0 hv hu hla hlb hb0 hg (hid h)
  ·exact divR_diff1 hv hu hla hlb hb0 hg h
end Go.Proofs.YtihdndaibmgoiaaGreatDoor
namespace Go.Proofs.YtihdndaibmgoiaaGreatDoor
open Go.RowKit
def divOK (x y:Int):Value:=if (resOf (x.fdiv y)).2=0 then .tuple #[.string ⟨(resOf (x.fdiv y)).1.toArray⟩,.string ⟨(resOf (x.fmod y)).1.toArray⟩,.int .i64 (resOf (x.fmod y)).2] else .tuple #[.string ⟨#[]⟩,.string ⟨#[]⟩,.int .i64 (resOf (x.fdiv y)).2]
theorem divVal_neg {a b:List UInt8} (h:¬ (pOK a=true∧pOK b=true)):divVal a b=.tuple #[.string ⟨#[]⟩,.string ⟨#[]⟩,.int .i64 2]:=by
 have h1:quoRes a b=([],2):=neg_two h
 unfold divVal
 rw [h1]
 rfl
theorem divVal_zero {a b:List UInt8} (h:pOK a=true∧pOK b=true) (hz:pVal b=0):divVal a b=.tuple #[.string ⟨#[]⟩,.string ⟨#[]⟩,.int .i64 10]:=by
 have h1:quoRes a b=([],10):=by
  unfold quoRes twoRes divPe
  rw [if_pos h,if_pos hz,if_pos (by decide)]
 unfold divVal
 rw [h1]
 rfl
theorem divVal_pos {a b:List UInt8} (h:pOK a=true∧pOK b=true) (hz:pVal b≠0):divVal a b=if big600≤(pVal a).natAbs∨big600≤(pVal b).natAbs then .tuple #[.string ⟨#[]⟩,.string ⟨#[]⟩,.int .i64 4] else divOK (pVal a) (pVal b):=by
 have hp:divPe b=0:=by unfold divPe;rw [if_neg hz]
 have h1:quoRes a b=if big600≤(pVal a).natAbs∨big600≤(pVal b).natAbs then ([],4) else resOf ((pVal a).fdiv (pVal b)):=by
  unfold quoRes twoRes
  rw [hp,if_pos h,if_neg (by simp)]
 have h2:remRes a b=if big600≤(pVal a).natAbs∨big600≤(pVal b).natAbs then ([],4) else resOf ((pVal a).fmod (pVal b)):=by
  unfold remRes twoRes
  rw [hp,if_pos h,if_neg (by simp)]
 unfold divVal divOK
 rw [h1,h2]
 by_cases hb:big600≤(pVal a).natAbs∨big600≤(pVal b).natAbs
 ·simp only [if_pos hb]
  rfl
 ·simp only [if_neg hb]
theorem divOK_small {x y:Int} (h:(x.fdiv y).natAbs<big600) (h2:(x.fmod y).natAbs<big600):divOK x y=.tuple #[.string ⟨(numText 10 (x.fdiv y).natAbs (decide (x.fdiv y<0))).toArray⟩,.string ⟨(numText 10 (x.fmod y).natAbs (decide (x.fmod y<0))).toArray⟩,.int .i64 0]:=by
 have e1:resOf (x.fdiv y)=(numText 10 (x.fdiv y).natAbs (decide (x.fdiv y<0)),0):=by unfold resOf;rw [if_pos h]
 have e2:resOf (x.fmod y)=(numText 10 (x.fmod y).natAbs (decide (x.fmod y<0)),0):=by unfold resOf;rw [if_pos h2]
 unfold divOK
 rw [e1,e2]
 rfl
theorem divOK_big {x y:Int} (h:¬ (x.fdiv y).natAbs<big600):divOK x y=.tuple #[.string ⟨#[]⟩,.string ⟨#[]⟩,.int .i64 4]:=by
 have e1:resOf (x.fdiv y)=([],4):=by unfold resOf;rw [if_neg h]
 unfold divOK
 rw [e1]
 rfl
theorem fdiv_le (a b:Int) (hb:b≠0):(a.fdiv b).natAbs≤a.natAbs+1:=by
  have h1:=Nat.div_le_self a.natAbs b.natAbs
  have hsz:=fdiv_sizes a b hb
  by_cases hr:0<a.natAbs % b.natAbs∧(!(decide (a<0) == decide (b<0)))=true
  · have:=(hsz.1 hr.1 hr.2).1
    rw [this]
    have h2:=sgnInt_abs (!(decide (a<0) == decide (b<0))) (a.natAbs / b.natAbs)
    omega
  · have hr2 : a.natAbs % b.natAbs = 0 ∨ (!(decide (a < 0) == decide (b < 0))) = false := by
      cases h3:(!(decide (a<0) == decide (b<0)))
      · exact .inr rfl
      · left
        rw [h3] at hr
        exact Nat.eq_zero_of_not_pos fun h=>hr ⟨h,rfl⟩
    have:=(hsz.2 hr2).1
    rw [this]
    have h2:=sgnInt_abs (!(decide (a<0) == decide (b<0))) (a.natAbs / b.natAbs)
    omega
set_option maxRecDepth 100000 in
set_option maxHeartbeats 4000000 in
theorem divRf_fn (a b:List UInt8) (ha:a.length≤2000000) (hb:b.length≤2000000) (w:World) :
    Calls Tryz.prog 14 #[.string ⟨a.toArray⟩,.string ⟨b.toArray⟩] w fun e w'=>e=.returned (divVal a b)∧Below w.heap.size w w':=by
  have hB:=hid (both_fn a b ha hb w)
  unfold BothQ at hB
  clear ha hb
  by_cases hok:pOK a=true∧pOK b=true
  case neg=>
    have hf:(pOK a && pOK b)=false:=by
      cases h1:pOK a<;>cases h2:pOK b<;>simp_all
    have HR:=hid (show divVal a b=.tuple #[.string ⟨#[]⟩,.string ⟨#[]⟩,.int .i64 2] by exact divVal_neg hok)
    rw [hf] at hB
    have hB:=hid hB.out
    clear hok hf
    go_enter Tryz.func14,Tryz.ntmps14
    go_wp2_with fail
    (with_reducible refine hB.out.mono ?_);rintro e w1 ⟨g1,s1,n1,c1,g2,s2,n2,c2,rfl,hb1,-⟩
    have hsz:=hb1.size
    go_wp2
    go_ret3
    exact ⟨by rw [HR.out];rfl,(hb1.alloc hsz _).alloc (by simp;omega) _⟩
  case pos=>
    rcases Decidable.em (pVal b=0) with hz | hz
    · have HR:=hid (divVal_zero hok hz)
      have HZ:=hid hz
      obtain ⟨oa,ob⟩:=hok
      rw [oa,ob] at hB
      have hB:=hid hB.out
      clear hz oa ob
      go_enter Tryz.func14,Tryz.ntmps14
      go_wp2_with fail
      (with_reducible refine hB.out.mono ?_);rintro e w1 ⟨g1,s1,n1,c1,g2,s2,n2,c2,rfl,hb,hn⟩
      obtain ⟨-,⟨y',hy,hly,hcy⟩⟩:=hn (by first | rfl | trivial)
      have hy0:y'=0:=by
        rcases hcy with h | ⟨_,h,_⟩
        · rw [h];exact HZ.out
        · have h1:=big600_pos
          have h2:=HZ.out
          omega
      have hn2:n2=0:=by rw [hy.parts.2,hy0];rfl
      subst hn2
      clear hn hcy hy hy0 hly
      have kX:=Blk.new w1 #[.bool g1,.slice s1 n1 c1] 59
      have kY:=Blk.new (w1.alloc (.cells #[.bool g1,.slice s1 n1 c1] 59)) #[.bool g2,.slice s2 0 c2] 59
      simp only [World.size_alloc] at kY
      obtain ⟨⟨p3,p4⟩,q3,q4⟩:=kY.two
      have hb:=(hb.alloc hb.size (.cells #[.bool g1,.slice s1 n1 c1] 59)).alloc (by have:=hb.size;simp;omega) (.cells #[.bool g2,.slice s2 0 c2] 59)
      go_wp2
      go_ret3
      exact ⟨by rw [HR.out];rfl,hb⟩
    have HR:=hid (divVal_pos hok hz)
    have HZ:=hid hz
    clear hz
    obtain ⟨oa,ob⟩:=hok
    rw [oa,ob] at hB
    have hB:=hid hB.out
    go_enter Tryz.func14,Tryz.ntmps14
    go_wp2_with fail
    (with_reducible refine hB.out.mono ?_);rintro e w1 ⟨g1,s1,n1,c1,g2,s2,n2,c2,rfl,hb,hn⟩
    obtain ⟨⟨x',hx,hlx,hcx⟩,⟨y',hy,hly,hcy⟩⟩:=hn (by first | rfl | trivial)
    have HAB:=hid (anyBig_two hcx hcy)
    have HCX:=hid hcx.small
    have HCY:=hid hcy.small
    have HCYB:=hid hcy
    clear hn hB oa ob hcx hcy
    have kX:=Blk.new w1 #[.bool g1,.slice s1 n1 c1] 59
    have kY:=Blk.new (w1.alloc (.cells #[.bool g1,.slice s1 n1 c1] 59)) #[.bool g2,.slice s2 n2 c2] 59
    simp only [World.size_alloc] at kY
    have kX:=kX.alloc (.cells #[.bool g2,.slice s2 n2 c2] 59)
    have gg:Below w1.heap.size w1 ((w1.alloc (.cells #[.bool g1,.slice s1 n1 c1] 59)).alloc (.cells #[.bool g2,.slice s2 n2 c2] 59)):=((Below.refl _ _).alloc (Nat.le_refl _) _).alloc (by simp) _
    have hx:=hx.below gg
    have hy:=hy.below gg
    have hb:=hb.trans (gg.mono hb.size)
    clear gg
    have hy0:y'≠0:=by
      rcases HCYB.out with h | ⟨h,_,_⟩
      · rw [h];exact HZ.out
      · have h1:=big600_pos
        omega
    have HY0:=hid hy0
    have hlen2:0<n2:=by rw [hy.parts.2];exact (dlen_pos_iff _).2 (by omega)
    have hne2:((n2:Int) == 0)=false:=by rw [beq_eq_false_iff_ne];omega
    clear hy0
    have kN:=Blk.new ((w1.alloc (.cells #[.bool g1,.slice s1 n1 c1] 59)).alloc (.cells #[.bool g2,.slice s2 n2 c2] 59)) #[.bool g1,.slice s1 n1 c1,.bool g2,.slice s2 n2 c2] 59
    have gg:Below ((w1.alloc (.cells #[.bool g1,.slice s1 n1 c1] 59)).alloc (.cells #[.bool g2,.slice s2 n2 c2] 59)).heap.size ((w1.alloc (.cells #[.bool g1,.slice s1 n1 c1] 59)).alloc (.cells #[.bool g2,.slice s2 n2 c2] 59)) (((w1.alloc (.cells #[.bool g1,.slice s1 n1 c1] 59)).alloc (.cells #[.bool g2,.slice s2 n2 c2] 59)).alloc (.cells #[.bool g1,.slice s1 n1 c1,.bool g2,.slice s2 n2 c2] 59)):=(Below.refl _ _).alloc (Nat.le_refl _) _
    obtain ⟨⟨p1,p2⟩,q1,q2⟩:=kX.two
    obtain ⟨⟨p3,p4⟩,q3,q4⟩:=kY.two
    have hx:=hx.below gg
    have hy:=hy.below gg
    have hb:=hb.trans (gg.mono hb.size)
    have hN:=Nums.mk2 kN hx hy
    have kX:=kX.later gg
    have kY:=kY.later gg
    simp only [World.size_alloc] at hN
    have hsc:=hid (short_fn hN (fun x hm=>by simp at hm;rcases hm with rfl | rfl<;>omega) (by simp))
    rw [HAB.out] at hsc
    clear gg kN hN
    go_wp2_with fail
    (with_reducible refine hsc.out.mono ?_);rintro e w2 ⟨rfl,gg⟩
    have hx:=hx.below gg
    have hy:=hy.below gg
    have hb:=hb.trans (gg.mono hb.size)
    have kX:=kX.later gg
    have kY:=kY.later gg
    clear p1 p2 p3 p4 q1 q2 q3 q4 hsc gg
    generalize w1.heap.size=B1 at *
    by_cases hbig:big600≤(pVal a).natAbs∨big600≤(pVal b).natAbs
    · have hT : (!(decide (big600 ≤ (pVal a).natAbs) || decide (big600 ≤ (pVal b).natAbs))) = false := by
        rcases hbig with h | h<;>rw [decide_eq_true h]<;>simp
      have HR2:=hid (show divVal a b=.tuple #[.string ⟨#[]⟩,.string ⟨#[]⟩,.int .i64 4] by rw [HR.out,if_pos hbig])
      rw [hT]
      clear hbig hT
      go_wp2
      go_ret3
      exact ⟨by rw [HR2.out];rfl,hb⟩
    · have hT : (!(decide (big600 ≤ (pVal a).natAbs) || decide (big600 ≤ (pVal b).natAbs))) = true := by
        rw [decide_eq_false (show ¬ big600≤(pVal a).natAbs by omega),decide_eq_false (show ¬ big600≤(pVal b).natAbs by omega)];rfl
      have ex:x'=pVal a:=HCX.out (by omega)
      have ey:y'=pVal b:=HCY.out (by omega)
      have hdx:dlen 10 x'.natAbs≤600:=(digits_600 _).2 (by rw [ex];omega)
      have hdy:dlen 10 y'.natAbs≤600:=(digits_600 _).2 (by rw [ey];omega)
      have EX:=hid ex
      have EY:=hid ey
      have HBIG:=hid hbig
      obtain ⟨⟨p1,p2⟩,q1,q2⟩:=kX.two
      obtain ⟨⟨p3,p4⟩,q3,q4⟩:=kY.two
      rw [hT]
      clear hbig hT ex ey
      have HD:=hid (divR_fn hx hy (by omega) (by omega) HY0.out)
      have hfm:=fmod_abs x' y' HY0.out
      have hfd:=fdiv_le x' y' HY0.out
      have hsm:(x'.fmod y').natAbs<big600:=by have:=(digits_600 _).1 hdy;omega
      have hd1:dlen 10 (x'.fdiv y').natAbs≤700:=by
        have h1:=dlen_mono _ _ hfd
        have h2:=dlen_add_le x'.natAbs 1
        have h3:dlen 10 1=1:=by decide
        omega
      have hd2:dlen 10 (x'.fmod y').natAbs≤600:=(digits_600 _).2 hsm
      have HR2:=hid (show divVal a b=divOK x' y' by rw [HR.out,if_neg HBIG.out,EX.out,EY.out])
      have HSM:=hid hsm
      have HOKS:=hid (fun h=>divOK_small (x:=x') (y:=y') h hsm)
      have HOKB:=hid (divOK_big (x:=x') (y:=y'))
      clear hfm hfd hsm HR HBIG EX EY
      generalize x'.fdiv y'=q at *
      generalize x'.fmod y'=r at *
      go_wp2_with fail
      (with_reducible refine HD.out.mono ?_);rintro e w3 ⟨u,v,rfl,hu,hv,gg⟩
      obtain ⟨ug,ua,un,uc,rfl⟩:=hu.num.shape4
      obtain ⟨vg,va,vn,vc,rfl⟩:=hv.num.shape4
      have hu:=hu.num
      have hv:=hv.num
      have hb:=hb.trans (gg.mono hb.size)
      clear gg p1 p2 p3 p4 q1 q2 q3 q4 kX kY hx hy
      have kU:=Blk.new w3 #[.bool ug,.slice ua un uc] 59
      have kV:=Blk.new (w3.alloc (.cells #[.bool ug,.slice ua un uc] 59)) #[.bool vg,.slice va vn vc] 59
      have kN:=Blk.new ((w3.alloc (.cells #[.bool ug,.slice ua un uc] 59)).alloc (.cells #[.bool vg,.slice va vn vc] 59)) #[.bool vg,.slice va vn vc] 59
      simp only [World.size_alloc] at kV kN
      have kU:=(kU.alloc (.cells #[.bool vg,.slice va vn vc] 59))
      obtain ⟨⟨p1,p2⟩,q1,q2⟩:=kU.two
      obtain ⟨⟨p3,p4⟩,q3,q4⟩:=kV.two
      have kV:=kV.alloc (.cells #[.bool vg,.slice va vn vc] 59)
      have gg:Below w3.heap.size w3 (((w3.alloc (.cells #[.bool ug,.slice ua un uc] 59)).alloc (.cells #[.bool vg,.slice va vn vc] 59)).alloc (.cells #[.bool vg,.slice va vn vc] 59)):=(((Below.refl _ _).alloc (Nat.le_refl _) _).alloc (by simp) _).alloc (by simp;omega) _
      have hu:=hu.below gg
      have hv:=hv.below gg
      have hb:=hb.trans (gg.mono hb.size)
      have HT:=hid (told_fn hu (by omega) (Nums.mk1 kN hv) (fun x hm=>by simp at hm;subst hm;omega) (by simp))
      have hany:toldRes q [r]=resOf q:=by
        unfold toldRes anyBig
        rw [List.any_cons,List.any_nil,decide_eq_false (show ¬ big600≤r.natAbs by have:=HSM.out;omega)]
        rfl
      rw [hany] at HT
      clear gg kN hany
      go_wp2_with fail
      (with_reducible refine HT.out.mono ?_);rintro e w4 ⟨rfl,gg⟩
      have hv:=hv.below gg
      have kV:=kV.later gg
      have hb:=hb.trans (gg.mono hb.size)
      clear gg p1 p2 p3 p4 q1 q2 q3 q4 HT
      obtain ⟨⟨p3,p4⟩,q3,q4⟩:=kV.two
      by_cases hq:q.natAbs<big600
      · have HF:=hid (HOKS.out hq)
        have e1:resOf q=(numText 10 q.natAbs (decide (q<0)),0):=by unfold resOf;rw [if_pos hq]
        rw [e1]
        have HTX:=hid (textR_fn hv (by omega))
        clear e1 hq
        go_wp2_with fail
        (with_reducible refine HTX.out.mono ?_);rintro e w5 ⟨rfl,gg⟩
        have hb:=hb.trans (gg.mono hb.size)
        go_wp2
        go_ret3
        exact ⟨by rw [HR2.out,HF.out];rfl,hb⟩
      · have HF:=hid (HOKB.out hq)
        have e1:resOf q=([],4):=by unfold resOf;rw [if_neg hq]
        rw [e1]
        clear e1 hq
        go_wp2
        go_ret3
        exact ⟨by rw [HR2.out,HF.out];rfl,hb⟩
end Go.Proofs.YtihdndaibmgoiaaGreatDoor
namespace Go.Proofs.YtihdndaibmgoiaaGreatDoor
open Go.RowKit
def CNum1 (w:World) (v:Value) (z:Int):Prop:=∃ z',DNum w v z'∧dlen 10 z'.natAbs≤2002000∧Cut z' z
theorem CNum1.below {w w':World} {v:Value} {z:Int} (h:CNum1 w v z) (hb:Below w.heap.size w w'):CNum1 w' v z:=by
 obtain ⟨z',h1,h2,h3⟩:=h
 exact ⟨z',h1.below hb,h2,h3⟩
theorem PRef.cnum1 {w:World} {base:Nat} {v:Value} {z:Int} (h:PRef w base v z):CNum1 w v z:=by
 obtain ⟨z',h1,h2,h3⟩:=h
 exact ⟨z',h1.num,h2,h3⟩
theorem PRef.keep1 {w w':World} {base:Nat} {v:Value} {z:Int} (h:PRef w base v z) (hb:Below w.heap.size w w'):PRef w' base v z:=by
 obtain ⟨z',⟨s,h0,h1⟩,h2,h3⟩:=h
 exact ⟨z',⟨s,h0,Own.keep h1 hb (Nat.le_refl _)⟩,h2,h3⟩
theorem PRef.set2' {w:World} {base b:Nat} {v:Value} {z:Int} (h:PRef w base v z) (hb:b<base) (x y:Value):PRef ((w.setCell ⟨b,0,none⟩ x).setCell ⟨b,1,none⟩ y) base v z:=by
 obtain ⟨z',⟨s,h0,h1⟩,h2,h3⟩:=h
 exact ⟨z',⟨s,h0,own_set2 h1 x y hb⟩,h2,h3⟩
theorem Blk.set2' {w:World} {b:Nat} {x y:Value} {t:TypeId} (h:Blk w b #[x,y] t) (x' y':Value):Blk ((w.setCell ⟨b,0,none⟩ x').setCell ⟨b,1,none⟩ y') b #[x',y'] t:=by
 have h0:w.heap[b]? = _:=h
 have h1:=heap_setCell_same w b 0 _ t x' h0
 have h2:=heap_setCell_same _ b 1 _ t y' h1
 exact h2
def OneQ (o:Bool) (z:Int) (w:World) (e:Ending) (w':World):Prop:=
 ∃ g s n c,e=.returned (.tuple #[.agg #[.bool g,.slice s n c],.int .i64 (if o=true then 0 else 2)])∧Below w.heap.size w w'∧(o=true→CNum1 w' (.agg #[.bool g,.slice s n c]) z)
set_option maxRecDepth 100000 in
set_option maxHeartbeats 4000000 in
theorem oneR_fn (a:List UInt8) (ha:a.length≤2000000) (w:World) :
  Calls Tryz.prog 210 #[.string ⟨a.toArray⟩] w (OneQ (pOK a) (pVal a) w):=by
 have k1:=Blk.new w #[.bool false,.slice none 0 0] 59
 have hb0:Below w.heap.size w (w.alloc (.cells #[.bool false,.slice none 0 0] 59)):=(Below.refl _ _).alloc (Nat.le_refl _) _
 have hw0:w.heap.size+1≤(w.alloc (.cells #[.bool false,.slice none 0 0] 59)).heap.size:=by simp
 have hA:=fun w=>hid (number_fn a ha w)
 unfold NumP at hA
 generalize pOK a=o1 at *
 clear ha
 go_enter Tryz.func210,Tryz.ntmps210
 go_wp2_with fail
 generalize w.alloc (.cells #[.bool false,.slice none 0 0] 59)=w0 at *
 (with_reducible refine (hA _).out.mono ?_);rintro e w1 ⟨v,rfl,gg,hv,g1,s1,n1,c1,rfl⟩
 have HV:=hid hv
 clear hv
 have k1:=k1.later gg
 have hb:=hb0.trans (gg.mono hb0.size)
 have hg1:=gg.size
 clear hb0 gg
 have gg:Below w1.heap.size w1 (w1.alloc (.cells #[.bool g1,.slice s1 n1 c1] 59)):=(Below.refl _ _).alloc (Nat.le_refl _) _
 have k3:=Blk.new w1 #[.bool g1,.slice s1 n1 c1] 59
 have HV:=hid (fun h=>(HV.out h).keep1 gg)
 have k1:=k1.later gg
 have hb:=hb.trans (gg.mono hb.size)
 have hlt1:=k3.lt
 clear gg
 obtain ⟨⟨p1,p2⟩,q1,q2⟩:=k1.two
 obtain ⟨⟨p5,p6⟩,q5,q6⟩:=k3.two
 cases o1
 ·go_wp2
  have k1F:=k1.set2' (.bool false) (.slice none 0 0)
  obtain ⟨⟨r1,r2⟩,_⟩:=k1F.two
  have hbF:=(hb.setCell (p:=⟨w.heap.size,0,none⟩) (Nat.le_refl _) (.bool false)).setCell (p:=⟨w.heap.size,1,none⟩) (Nat.le_refl _) (.slice none 0 0)
  exact bodyPost_ret (v:=.tuple #[.agg #[.bool false,.slice none 0 0],.int .i64 2]) (by simp [results,Tryz.results210,go_sem,r1,r2]) rfl ⟨_,_,_,_,rfl,hbF,fun h=>by simp at h⟩
 ·have k1F:=k1.set2' (.bool g1) (.slice s1 n1 c1)
  obtain ⟨⟨r1,r2⟩,_⟩:=k1F.two
  have hbF:=(hb.setCell (p:=⟨w.heap.size,0,none⟩) (Nat.le_refl _) (.bool g1)).setCell (p:=⟨w.heap.size,1,none⟩) (Nat.le_refl _) (.slice s1 n1 c1)
  have n1':=((HV.out (by first | rfl | trivial)).set2' (b:=w.heap.size) (by omega) (.bool g1) (.slice s1 n1 c1)).cnum1
  go_wp2
  exact bodyPost_ret (v:=.tuple #[.agg #[.bool g1,.slice s1 n1 c1],.int .i64 0]) (by simp [results,Tryz.results210,go_sem,r1,r2]) rfl ⟨_,_,_,_,rfl,hbF,fun _=>n1'⟩
end Go.Proofs.YtihdndaibmgoiaaGreatDoor
namespace Go.Proofs.YtihdndaibmgoiaaGreatDoor
open Go.RowKit
theorem dlen_two (k:Nat):dlen 10 (2 ^ k)≤k+1:=
 (dlen_le_iff 10 _ _ (by decide)).2 (Nat.lt_of_lt_of_le (Nat.pow_lt_pow_right (by decide) (Nat.lt_succ_self k)) (Nat.pow_le_pow_left (by decide) _))
set_option maxRecDepth 100000 in
set_option maxHeartbeats 4000000 in
theorem two_fn' (n:Nat) (hn:n≤10000) (w:World):Calls Tryz.prog 211 #[.int .i64 n] w (FreshD ((2 ^ n:Nat):Int) w):=by
 have kR:=Blk.new w #[.bool false,.slice none 0 0] 59
 have hb0:Below w.heap.size w (w.alloc (.cells #[.bool false,.slice none 0 0] 59)):=(Below.refl _ _).alloc (Nat.le_refl _) _
 have hsz0:(w.alloc (.cells #[.bool false,.slice none 0 0] 59)).heap.size=w.heap.size+1:=by simp
 have HW:=fun w=>hid (whole_fn 1 (by decide) (by decide) w)
 go_enter Tryz.func211,Tryz.ntmps211
 go_wp2_with fail
 generalize w.alloc (.cells #[.bool false,.slice none 0 0] 59)=w0 at *
 (with_reducible refine (HW _).out.mono ?_);rintro e w1 ⟨v,rfl,hv,gg⟩
 obtain ⟨g1,s1,n1,c1,rfl⟩:=hv.num.shape4
 have hb:=hb0.trans (gg.mono hb0.size)
 have kR:=kR.later gg
 have hs1:=gg.size
 have hlt1:=kR.lt
 clear gg
 have gg:Below w1.heap.size w1 (w1.alloc (.cells #[.bool g1,.slice s1 n1 c1] 59)):=(Below.refl _ _).alloc (Nat.le_refl _) _
 have kO:=Blk.new w1 #[.bool g1,.slice s1 n1 c1] 59
 have kR:=kR.later gg
 have hb:=hb.trans (gg.mono hb.size)
 have hv:=(hv.keep gg).mono (show w.heap.size+1≤w0.heap.size by omega)
 have hlt2:=kO.lt
 clear gg
 go_wp2_with fail
 generalize w1.alloc (.cells #[.bool g1,.slice s1 n1 c1] 59)=w2 at *
 generalize hB:w1.heap.size=B at *
 clear hb0 hsz0
 go_loopw [6] (fun iv wr=>∃ k:Nat,iv=.int .i64 k∧k≤n∧∃ g s m c,Blk wr B #[.bool g,.slice s m c] 59∧OwnDNum wr (w.heap.size+1) (.agg #[.bool g,.slice s m c]) ((2 ^ k:Nat):Int)∧Blk wr w.heap.size #[.bool false,.slice none 0 0] 59∧Below w.heap.size w wr) (fun iv _=>n-(intOf iv).toNat)
 case atStart=>exact ⟨0,rfl,Nat.zero_le _,_,_,_,_,kO,hv,kR,hb⟩
 case round=>
  obtain ⟨k,rfl,hk,g,s,m,c,kO,hO,kR,hb⟩:=hrel
  obtain ⟨⟨p1,p2⟩,q1,q2⟩:=kO.two
  have hdk:=dlen_two k
  by_cases hlt:k<n
  ·have HP:=hid (plusR_fn hO.num hO.num (by rw [Int.natAbs_natCast];omega) (by rw [Int.natAbs_natCast];omega))
   have HE:=hid (show ((2 ^ k:Nat):Int)+((2 ^ k:Nat):Int)=((2 ^ (k+1):Nat):Int) by rw [Nat.pow_succ];omega)
   rw [HE.out] at HP
   go_wp2_with fail
   (with_reducible refine HP.out.mono ?_);rintro e w3 ⟨q,rfl,hq,gg⟩
   obtain ⟨g',s',m',c',rfl⟩:=hq.num.shape4
   have hltO:=kO.lt
   have hszr:=hb.size
   have kO:=kO.later gg
   have kR:=kR.later gg
   have hb:=hb.trans (gg.mono hb.size)
   clear p1 p2 q1 q2
   obtain ⟨⟨p1,p2⟩,q1,q2⟩:=kO.two
   go_wp2
   have kO:=kO.set2 (.bool g') (.slice s' m' c')
   have kR:=kR.set2_ne (b:=B) (by omega) (.bool g') (.slice s' m' c')
   have hq:=(hq.set2 hltO (.bool g') (.slice s' m' c')).mono (show w.heap.size+1≤wr.heap.size by omega)
   have hb:=(hb.setCell (p:=⟨B,0,none⟩) (by show w.heap.size≤B;omega) (.bool g')).setCell (p:=⟨B,1,none⟩) (by show w.heap.size≤B;omega) (.slice s' m' c')
   go_roundw
   case rel=>exact ⟨k+1,by go_num,by omega,_,_,_,_,kO,hq,kR,hb⟩
   case measure=>simp [intOf]<;>omega
  ·obtain rfl:k=n:=by omega
   obtain ⟨⟨r1,r2⟩,t1,t2⟩:=kR.two
   go_wp2
   have kR:=kR.set2 (.bool g) (.slice s m c)
   obtain ⟨⟨z1,z2⟩,_⟩:=kR.two
   have hO:=(hO.set2 (b:=w.heap.size) (by omega) (.bool g) (.slice s m c)).mono (show w.heap.size≤w.heap.size+1 by omega)
   have hb:=(hb.setCell (p:=⟨w.heap.size,0,none⟩) (Nat.le_refl _) (.bool g)).setCell (p:=⟨w.heap.size,1,none⟩) (Nat.le_refl _) (.slice s m c)
   exact bodyPost_ret (v:=.agg #[.bool g,.slice s m c]) (by simp [results,Tryz.results211,go_sem,z1,z2]) rfl ⟨_,rfl,hO,hb⟩
end Go.Proofs.YtihdndaibmgoiaaGreatDoor
namespace Go.Proofs.YtihdndaibmgoiaaGreatDoor
open Go.RowKit
def RNumO (w:World) (base:Nat) (v:Value) (z:Int):Prop:=
 (∃ a c,v=.agg #[.slice a 0 c,.bool false,.bool false]∧z=0)∨(∃ g,v=.agg #[.slice none 0 0,.bool g,.bool true]∧big600≤z.natAbs)∨(OwnInt w base v z∧nlen z.natAbs≤1000000)
theorem rnum_zero {w:World} (a:Option Addr) (c:Nat):IntV w (.agg #[.slice a 0 c,.bool false,.bool false]) 0:=IntV.mk (n:=0) ⟨a,c,rfl,Nat.zero_le _,fun h=>absurd h (by decide)⟩ rfl rfl
theorem RNumO.r {w:World} {base:Nat} {v:Value} {z:Int} (h:RNumO w base v z):RNum w v z:=by
 rcases h with ⟨a,c,rfl,rfl⟩ | ⟨g,rfl,h⟩ | ⟨h,h2⟩
 ·exact RNum.of_int (rnum_zero a c) (by decide)
 ·exact ⟨0,g,true,⟨_,rfl,nat_zero _⟩,(fun h=>by cases h),(fun _=>h),by decide⟩
 ·exact RNum.of_int h.int h2
theorem RNumO.shape {w:World} {base:Nat} {v:Value} {z:Int} (h:RNumO w base v z):∃ a n c g b,v=.agg #[.slice a n c,.bool g,.bool b]:=by
 rcases h with ⟨a,c,rfl,rfl⟩ | ⟨g,rfl,h⟩ | ⟨h,h2⟩
 ·exact ⟨_,_,_,_,_,rfl⟩
 ·exact ⟨_,_,_,_,_,rfl⟩
 ·obtain ⟨a,n,c,b,rfl⟩:=h.shape4
  exact ⟨_,_,_,_,_,rfl⟩
theorem RNumO.set3 {w:World} {base b:Nat} {v:Value} {z:Int} (h:RNumO w base v z) (hb:b<base) (x y t:Value):RNumO (((w.setCell ⟨b,0,none⟩ x).setCell ⟨b,1,none⟩ y).setCell ⟨b,2,none⟩ t) base v z:=by
 rcases h with h | h | ⟨h,h2⟩
 ·exact .inl h
 ·exact .inr (.inl h)
 ·exact .inr (.inr ⟨h.set3 hb x y t,h2⟩)
end Go.Proofs.YtihdndaibmgoiaaGreatDoor
namespace Go.Proofs.YtihdndaibmgoiaaGreatDoor
open Go.RowKit
theorem PNum.shape {w:World} {v:Value} {z:Int} (h:PNum w v z):∃ a n c l,v=.agg #[.slice a n c,.bool (decide (z<0)),.bool l]:=by
 obtain ⟨n,lg,⟨s,rfl,h1⟩,_⟩:=h
 obtain ⟨a,c,rfl⟩:=h1.shape
 exact ⟨_,_,_,_,rfl⟩
end Go.Proofs.YtihdndaibmgoiaaGreatDoor
namespace Go.Proofs.YtihdndaibmgoiaaGreatDoor
open Go.RowKit
def intRes (a:List UInt8):Int×Int:=
 if pOK a=true then if -9223372036854775808≤pVal a∧pVal a≤9223372036854775807 then (pVal a,0) else (0,7) else (0,2)
theorem big600_huge:18446744073709551616<big600:=by
 have h1:(2:Nat) ^ 64<2 ^ 500:=by decide +kernel
 have h2:=big600_ge
 omega
end Go.Proofs.YtihdndaibmgoiaaGreatDoor
namespace Go.Proofs.YtihdndaibmgoiaaGreatDoor
open Go.RowKit
theorem two63:((2 ^ 63:Nat):Int)=9223372036854775808:=by decide
theorem intRes_out {a:List UInt8} {x':Int} (ok:pOK a=true) (hc:Cut x' (pVal a)) (h:x' < -9223372036854775808∨9223372036854775808≤x'):intRes a=(0,7):=by
 unfold intRes
 rw [if_pos ok,if_neg]
 have h2:=big600_huge
 rcases hc with rfl | ⟨h1,h3,_⟩<;>omega
theorem intRes_in {a:List UInt8} {x':Int} (ok:pOK a=true) (hc:Cut x' (pVal a)) (h1:-9223372036854775808≤x') (h2:x'<9223372036854775808):intRes a=(x',0):=by
 have h3:=big600_huge
 unfold intRes
 rcases hc with rfl | ⟨h4,h5,_⟩
 ·rw [if_pos ok,if_pos (by omega)]
 ·omega
theorem cmpI_ge (x y:Int):(0≤cmpI x y)↔y≤x:=by
 unfold cmpI
 by_cases h1:x<y
 ·rw [if_pos h1];omega
 ·rw [if_neg h1];split<;>omega
theorem cmpI_neg (x y:Int):(cmpI x y<0)↔x<y:=by
 unfold cmpI
 by_cases h1:x<y
 ·rw [if_pos h1];omega
 ·rw [if_neg h1];split<;>omega
set_option maxRecDepth 100000 in
set_option maxHeartbeats 8000000 in
theorem intR_fn (a:List UInt8) (ha:a.length≤2000000) (w:World) :
  Calls Tryz.prog 188 #[.string ⟨a.toArray⟩] w fun e w'=>e=.returned (.tuple #[.int .i64 (intRes a).1,.int .i64 (intRes a).2])∧Below w.heap.size w w':=by
 have hB:=hid (oneR_fn a ha w)
 unfold OneQ at hB
 clear ha
 cases hok:pOK a with
 | false=>
  have HR:=hid (show intRes a=(0,2) by unfold intRes;rw [if_neg (by rw [hok];decide)])
  rw [hok] at hB
  have hB:=hid hB.out
  clear hok
  go_enter Tryz.func188,Tryz.ntmps188
  go_wp2_with fail
  (with_reducible refine hB.out.mono ?_);rintro e w1 ⟨g1,s1,n1,c1,rfl,hb1,-⟩
  have hsz:=hb1.size
  go_wp2
  go_ret2
  exact ⟨by rw [HR.out];rfl,hb1.alloc hsz _⟩
 | true=>
  have HOUT:=hid (fun x' h1 h2=>intRes_out (x':=x') hok h1 h2)
  have HIN:=hid (fun x' h1 h2 h3=>intRes_in (x':=x') hok h1 h2 h3)
  rw [hok] at hB
  have hB:=hid hB.out
  clear hok
  go_enter Tryz.func188,Tryz.ntmps188
  go_wp2_with fail
  (with_reducible refine hB.out.mono ?_);rintro e w1 ⟨g1,s1,n1,c1,rfl,hb,hn⟩
  obtain ⟨x',hx,hlx,hcx⟩:=hn (by first | rfl | trivial)
  have HCX:=hid hcx
  clear hn hB hcx
  have kX:=Blk.new w1 #[.bool g1,.slice s1 n1 c1] 59
  have gg:Below w1.heap.size w1 (w1.alloc (.cells #[.bool g1,.slice s1 n1 c1] 59)):=(Below.refl _ _).alloc (Nat.le_refl _) _
  replace hx:=hx.below gg
  replace hb:=hb.trans (gg.mono hb.size)
  clear gg
  obtain ⟨⟨p1,p2⟩,q1,q2⟩:=kX.two
  have HT2:=fun w=>hid (two_fn' 63 (by decide) w)
  rw [two63] at HT2
  have HT2:∀ w,Hid (Calls Tryz.prog 211 #[.int .i64 63] w (FreshD 9223372036854775808 w)):=HT2
  clear p1 p2 q1 q2
  go_wp2_with fail
  generalize w1.alloc (.cells #[.bool g1,.slice s1 n1 c1] 59)=w2 at *
  (with_reducible refine (HT2 _).out.mono ?_);rintro e w3 ⟨z,rfl,hz,gg⟩
  obtain ⟨zg,za,zn,zc,rfl⟩:=hz.num.shape4
  replace kX:=kX.later gg
  replace hx:=hx.below gg
  replace hb:=hb.trans (gg.mono hb.size)
  clear gg
  have HO:=hid (oppR_fn hz.num (by decide))
  go_wp2_with fail
  (with_reducible refine HO.out.mono ?_);rintro e w4 ⟨m,rfl,hm,gg⟩
  obtain ⟨mg,ma,mn,mc,rfl⟩:=hm.shape4
  replace kX:=kX.later gg
  replace hx:=hx.below gg
  replace hb:=hb.trans (gg.mono hb.size)
  clear gg hz HO
  have gg:Below w4.heap.size w4 (w4.alloc (.cells #[.bool mg,.slice ma mn mc] 59)):=(Below.refl _ _).alloc (Nat.le_refl _) _
  have kM:=Blk.new w4 #[.bool mg,.slice ma mn mc] 59
  replace kX:=kX.later gg
  replace hx:=hx.below gg
  replace hm:=hm.below gg
  replace hb:=hb.trans (gg.mono hb.size)
  clear gg
  obtain ⟨⟨p1,p2⟩,q1,q2⟩:=kX.two
  obtain ⟨⟨p3,p4⟩,q3,q4⟩:=kM.two
  go_wp2_with fail
  clear p1 p2 q1 q2 p3 p4 q3 q4
  generalize w4.alloc (.cells #[.bool mg,.slice ma mn mc] 59)=w5 at *
  generalize w4.heap.size=BM at *
  generalize w1.heap.size=B1 at *
  replace kX:=kX.drew
  replace kM:=kM.drew
  replace hx:=hx.below ((Below.refl w5.heap.size w5).drew)
  replace hm:=hm.below ((Below.refl w5.heap.size w5).drew)
  replace hb:=hb.drew
  have HLX:=hid hlx
  refine U_begin (late:=fun i=>decide (9≤i)) (S:=fun u=>Blk u B1 #[.bool g1,.slice s1 n1 c1] 59∧Blk u BM #[.bool mg,.slice ma mn mc] 59) (by kernel_rfl) ?_
  generalize w5.drew=wd at *
  refine U_take2 8 (i:=0) (v:=.agg #[.bool g1,.slice s1 n1 c1]) rfl (by kernel_rfl) (by kernel_rfl) (by kernel_rfl) (by kernel_rfl) (by kernel_rfl) (fun _ _ _ h=>h) (.inl ⟨rfl,fun u hu=>(by obtain ⟨⟨h1,h2⟩,_⟩:=hu.1.two;go_simp)⟩) ⟨kX,kM⟩ ?_
  refine U_take2 8 (i:=1) (v:=.agg #[.bool mg,.slice ma mn mc]) rfl (by kernel_rfl) (by kernel_rfl) (by kernel_rfl) (by kernel_rfl) (by kernel_rfl) (fun _ _ _ h=>h) (.inl ⟨rfl,fun u hu=>(by obtain ⟨⟨h1,h2⟩,_⟩:=hu.2.two;go_simp)⟩) ⟨kX,kM⟩ ?_
  refine U_step (j:=2) (by kernel_rfl) rfl (fun K hK=>?_)
  go_simp
  have hc:=hid (orderR_fn hx hm (by omega) (by decide))
  (with_reducible refine hc.out.mono ?_);rintro e w6 ⟨rfl,gg⟩
  clear hc hm
  replace kX:=kX.later gg
  replace kM:=kM.later gg
  replace hx:=hx.below gg
  replace hb:=hb.trans (gg.mono hb.size)
  refine hK.out _ _ (.inr ⟨kX,kM⟩) ?_
  clear hK K gg
  by_cases hlow:x' < -9223372036854775808
  ·have HR:=hid (HOUT.out x' HCX.out (.inl hlow))
   have hcm:=(cmpI_neg x' (-9223372036854775808)).2 hlow
   generalize cmpI x' (-9223372036854775808)=C at *
   refine U_take2 8 (i:=3) (v:=.bool true) rfl (by kernel_rfl) (by kernel_rfl) (by kernel_rfl) (by kernel_rfl) (by kernel_rfl) (fun _ _ _ h=>h) (.inl ⟨rfl,fun u hu=>(by go_simp)⟩) ⟨kX,kM⟩ ?_
   refine U_take2 8 (i:=4) (v:=.bool true) rfl (by kernel_rfl) (by kernel_rfl) (by kernel_rfl) (by kernel_rfl) (by kernel_rfl) (fun _ _ _ h=>h) (.inl ⟨rfl,fun u hu=>(by go_simp)⟩) ⟨kX,kM⟩ ?_
   refine U_take2 8 (i:=5) (v:=undef) rfl (by kernel_rfl) (by kernel_rfl) (by kernel_rfl) (by kernel_rfl) (by kernel_rfl) (fun _ _ _ h=>h) (.inr ⟨by go_simp,rfl⟩) ⟨kX,kM⟩ ?_
   refine U_step (j:=6) (by kernel_rfl) rfl (fun K hK=>?_)
   go_simp
   refine hK.out _ _ (.inr ⟨kX,kM⟩) ?_
   clear hK K
   refine U_step (j:=7) (by kernel_rfl) rfl (fun K hK=>?_)
   go_simp
   refine hK.out _ _ (.inr ⟨kX,kM⟩) ?_
   clear hK K
   refine U_take2 8 (i:=8) (v:=undef) rfl (by kernel_rfl) (by kernel_rfl) (by kernel_rfl) (by kernel_rfl) (by kernel_rfl) (fun _ _ _ h=>h) (.inr ⟨by go_simp,rfl⟩) ⟨kX,kM⟩ ?_
   refine U_step (j:=9) (by kernel_rfl) rfl (fun K hK=>?_)
   go_simp
   refine hK.out _ _ (.inl rfl) ?_
   clear hK K
   refine U_done (by kernel_rfl) ?_ _
   go_wp2
   go_ret2
   exact ⟨by rw [HR.out];rfl,hb⟩
  ·have hcm:¬ cmpI x' (-9223372036854775808)<0:=fun h=>hlow ((cmpI_neg _ _).1 h)
   have HLOW:=hid hlow
   generalize cmpI x' (-9223372036854775808)=C at *
   refine U_take2 8 (i:=3) (v:=.bool false) rfl (by kernel_rfl) (by kernel_rfl) (by kernel_rfl) (by kernel_rfl) (by kernel_rfl) (fun _ _ _ h=>h) (.inl ⟨rfl,fun u hu=>(by go_simp)⟩) ⟨kX,kM⟩ ?_
   refine U_take2 8 (i:=4) (v:=.bool false) rfl (by kernel_rfl) (by kernel_rfl) (by kernel_rfl) (by kernel_rfl) (by kernel_rfl) (fun _ _ _ h=>h) (.inl ⟨rfl,fun u hu=>(by go_simp)⟩) ⟨kX,kM⟩ ?_
   refine U_take2 8 (i:=5) (v:=.agg #[.bool g1,.slice s1 n1 c1]) rfl (by kernel_rfl) (by kernel_rfl) (by kernel_rfl) (by kernel_rfl) (by kernel_rfl) (fun _ _ _ h=>h) (.inl ⟨rfl,fun u hu=>(by obtain ⟨⟨h1,h2⟩,_⟩:=hu.1.two;go_simp)⟩) ⟨kX,kM⟩ ?_
   refine U_step (j:=6) (by kernel_rfl) rfl (fun K hK=>?_)
   go_simp
   (with_reducible refine (HT2 _).out.mono ?_);rintro e w7 ⟨t,rfl,ht,gg⟩
   obtain ⟨tg,ta,tn,tc,rfl⟩:=ht.num.shape4
   replace kX:=kX.later gg
   replace kM:=kM.later gg
   replace hx:=hx.below gg
   replace hb:=hb.trans (gg.mono hb.size)
   refine hK.out _ _ (.inr ⟨kX,kM⟩) ?_
   clear hK K gg
   refine U_step (j:=7) (by kernel_rfl) rfl (fun K hK=>?_)
   go_simp
   have hc:=hid (orderR_fn hx ht.num (by omega) (by decide))
   (with_reducible refine hc.out.mono ?_);rintro e w8 ⟨rfl,gg⟩
   clear hc ht
   replace kX:=kX.later gg
   replace kM:=kM.later gg
   replace hx:=hx.below gg
   replace hb:=hb.trans (gg.mono hb.size)
   refine hK.out _ _ (.inr ⟨kX,kM⟩) ?_
   clear hK K gg
   clear hcm
   by_cases hhi:9223372036854775808≤x'
   ·have HR:=hid (HOUT.out x' HCX.out (.inr hhi))
    have hcm:=(cmpI_ge x' 9223372036854775808).2 hhi
    generalize cmpI x' 9223372036854775808=C2 at *
    refine U_take2 8 (i:=8) (v:=.bool true) rfl (by kernel_rfl) (by kernel_rfl) (by kernel_rfl) (by kernel_rfl) (by kernel_rfl) (fun _ _ _ h=>h) (.inl ⟨rfl,fun u hu=>(by go_simp)⟩) ⟨kX,kM⟩ ?_
    refine U_step (j:=9) (by kernel_rfl) rfl (fun K hK=>?_)
    go_simp
    refine hK.out _ _ (.inl rfl) ?_
    clear hK K
    refine U_done (by kernel_rfl) ?_ _
    go_wp2
    go_ret2
    exact ⟨by rw [HR.out];rfl,hb⟩
   ·have HR:=hid (HIN.out x' HCX.out (by have:=HLOW.out;omega) (by omega))
    have hcm:¬ 0≤cmpI x' 9223372036854775808:=fun h=>hhi ((cmpI_ge _ _).1 h)
    have HHI:=hid hhi
    generalize cmpI x' 9223372036854775808=C2 at *
    refine U_take2 8 (i:=8) (v:=.bool false) rfl (by kernel_rfl) (by kernel_rfl) (by kernel_rfl) (by kernel_rfl) (by kernel_rfl) (fun _ _ _ h=>h) (.inl ⟨rfl,fun u hu=>(by go_simp)⟩) ⟨kX,kM⟩ ?_
    refine U_step (j:=9) (by kernel_rfl) rfl (fun K hK=>?_)
    go_simp
    refine hK.out _ _ (.inl rfl) ?_
    clear hK K
    refine U_done (by kernel_rfl) ?_ _
    obtain ⟨s1',c1',hxe,hxrep⟩:=hx.shape
    simp only [Value.agg.injEq,Array.mk.injEq,List.cons.injEq,Value.bool.injEq,Value.slice.injEq,and_true] at hxe
    obtain ⟨hg,rfl,hn,rfl⟩:=hxe
    have HG:=hid hg
    have HN:=hid hn
    have HNB:=hid (show x'.natAbs≤9223372036854775808 by have:=HLOW.out;omega)
    have HDL:=hid (dlen_lt 10 x'.natAbs (by decide))
    obtain ⟨xa,xc,hxe2,hxc,hcell⟩:=hxrep
    simp only [Value.slice.injEq] at hxe2
    obtain ⟨rfl,-,rfl⟩:=hxe2
    have HCELL:=hid hcell
    rw [← hn] at HCELL HDL
    clear hcell hg hn hxc hx hhi hcm hlow
    generalize hNN:x'.natAbs=N at *
    have HNN:=hid hNN
    clear hNN
    have hn1b:n1≤2002000:=by rw [HN.out];have:=HLX.out;omega
    obtain ⟨⟨p1,p2⟩,q1,q2⟩:=kX.two
    have HXV:=hid (show x'=if g1=true then -(N:Int) else (N:Int) by rw [HG.out,← HNN.out];by_cases h:x'<0;(rw [decide_eq_true h];simp;omega);(rw [decide_eq_false h];simp;omega))
    have HTOP:=hid (show N / 10 ^ n1=0 from Nat.div_eq_of_lt HDL.out)
    cases g1 with
    | true=>
     have HXV2:=hid (show x' = -(N:Int) by rw [HXV.out];simp)
     clear HXV
     go_wp2_with fail
     go_loopw [7,8] (fun nv iv wr=>∃ j:Nat,iv=.int .i64 ((j:Int)-1)∧j≤n1∧nv=.int .i64 (-((N / 10 ^ j:Nat):Int))∧wr=w8) (fun _ iv _=>(intOf iv+1).toNat)
     case atStart=>exact ⟨n1,by go_num,Nat.le_refl _,by rw [HTOP.out];rfl,by first | rfl | trivial⟩
     case round=>
      obtain ⟨j,rfl,hj,rfl,rfl⟩:=hrel
      by_cases hj0:j=0
      ·subst hj0
       have hN1:-((N / 10 ^ 0:Nat):Int)=x':=by rw [HXV2.out,Nat.pow_zero,Nat.div_one]
       rw [hN1]
       clear hN1
       go_wp2
       go_ret2
       exact ⟨by rw [HR.out];rfl,hb⟩
      ·obtain ⟨i,rfl⟩:∃ i,j=i+1:=⟨j-1,by omega⟩
       have he:((i+1:Nat):Int)-1=i:=by omega
       rw [he]
       clear he hj0
       obtain ⟨xb,xo,hxa,hxl,hcl⟩:=HCELL.out (by omega)
       subst hxa
       have hci:=hcl i (by omega)
       have hdt:=dgt_lt 10 N i (by decide)
       have hsp:=div10_split N i
       have hle:N / 10 ^ i≤N:=Nat.div_le_self _ _
       have hNB:=HNB.out
       have HSP:=hid hsp
       have hiN:(i:Int)<(n1:Int):=by omega
       clear hcl hsp
       generalize dgt 10 N i=d at *
       generalize hQ:N / 10 ^ (i+1)=Q at *
       generalize hP:N / 10 ^ i=PP at *
       have HP:=hid hP
       clear hQ hP
       have hrel2:=HSP.out
       have hw1:IntKind.i64.wrap (10*(-(Q:Int)))=10*(-(Q:Int)):=by simp [IntKind.wrap,IntKind.bits,IntKind.signed];omega
       have hw2:IntKind.i64.wrap (10*(-(Q:Int))-(d:Int)) = -(PP:Int):=by simp [IntKind.wrap,IntKind.bits,IntKind.signed];omega
       clear hrel2 hle hNB
       go_wp2
       go_roundw
       case rel=>exact ⟨i,by go_num,by omega,by rw [HP.out],by first | rfl | trivial⟩
       case measure=>simp [intOf]<;>omega
    | false=>
     have HXV2:=hid (show x'=(N:Int) by rw [HXV.out];simp)
     clear HXV
     go_wp2_with fail
     go_loopw [7,8] (fun nv iv wr=>∃ j:Nat,iv=.int .i64 ((j:Int)-1)∧j≤n1∧nv=.int .i64 (((N / 10 ^ j:Nat):Int))∧wr=w8) (fun _ iv _=>(intOf iv+1).toNat)
     case atStart=>exact ⟨n1,by go_num,Nat.le_refl _,by rw [HTOP.out];rfl,by first | rfl | trivial⟩
     case round=>
      obtain ⟨j,rfl,hj,rfl,rfl⟩:=hrel
      by_cases hj0:j=0
      ·subst hj0
       have hN1:((N / 10 ^ 0:Nat):Int)=x':=by rw [HXV2.out,Nat.pow_zero,Nat.div_one]
       rw [hN1]
       clear hN1
       go_wp2
       go_ret2
       exact ⟨by rw [HR.out];rfl,hb⟩
      ·obtain ⟨i,rfl⟩:∃ i,j=i+1:=⟨j-1,by omega⟩
       have he:((i+1:Nat):Int)-1=i:=by omega
       rw [he]
       clear he hj0
       obtain ⟨xb,xo,hxa,hxl,hcl⟩:=HCELL.out (by omega)
       subst hxa
       have hci:=hcl i (by omega)
       have hdt:=dgt_lt 10 N i (by decide)
       have hsp:=div10_split N i
       have hle:N / 10 ^ i≤N:=Nat.div_le_self _ _
       have hNB:=HNB.out
       have hNB2:N≤9223372036854775807:=by have h1:=HHI.out;have h2:=HXV2.out;omega
       have HSP:=hid hsp
       have hiN:(i:Int)<(n1:Int):=by omega
       clear hcl hsp
       generalize dgt 10 N i=d at *
       generalize hQ:N / 10 ^ (i+1)=Q at *
       generalize hP:N / 10 ^ i=PP at *
       have HP:=hid hP
       clear hQ hP
       have hrel2:=HSP.out
       have hw1:IntKind.i64.wrap (10*((Q:Int)))=10*((Q:Int)):=by simp [IntKind.wrap,IntKind.bits,IntKind.signed];omega
       have hw2:IntKind.i64.wrap (10*((Q:Int))+(d:Int))=(PP:Int):=by simp [IntKind.wrap,IntKind.bits,IntKind.signed];omega
       clear hrel2 hle hNB
       go_wp2
       go_roundw
       case rel=>exact ⟨i,by go_num,by omega,by rw [HP.out],by first | rfl | trivial⟩
       case measure=>simp [intOf]<;>omega
end Go.Proofs.YtihdndaibmgoiaaGreatDoor
