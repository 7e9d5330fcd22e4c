/-
  KBackX: a part of the proofs of this seat, merged by a program; remarks are struck.
-/
import Derived.BigQuiet
import Derived.Deep.QuietTactic
import Derived.Deep.LoopGhost
import Derived.Test.YtihdndaibmgoiaaGreatDoorK0
import Derived.Test.YtihdndaibmgoiaaGreatDoorK1
import Derived.Test.YtihdndaibmgoiaaGreatDoorK2
import Derived.Test.YtihdndaibmgoiaaGreatDoorK3
import Derived.Test.YtihdndaibmgoiaaGreatDoorK4
import Derived.Test.YtihdndaibmgoiaaGreatDoorK5
import Derived.Test.YtihdndaibmgoiaaGreatDoorK6
import Derived.Test.YtihdndaibmgoiaaGreatDoorK7
import Derived.Test.YtihdndaibmgoiaaGreatDoorK8
import Derived.Test.YtihdndaibmgoiaaGreatDoorK9
import Derived.Test.YtihdndaibmgoiaaGreatDoorK10
import Derived.Test.YtihdndaibmgoiaaGreatDoorK11
import Derived.Test.YtihdndaibmgoiaaGreatDoorK12
import Derived.Test.YtihdndaibmgoiaaGreatDoorK13
import Derived.Test.YtihdndaibmgoiaaGreatDoorK14
import Derived.Test.YtihdndaibmgoiaaGreatDoorK15
import Derived.Test.YtihdndaibmgoiaaGreatDoorK16
namespace Go.Proofs.YtihdndaibmgoiaaGreatDoor.Pz
def hexE:Str→Str
 | []=>[]
 | c::t=>hexD (c.toNat / 16)::hexD (c.toNat % 16)::hexE t
def unhexE:Str→Option Str
 | []=>some []
 | [_]=>none
 | a::b::t=>if 15<valH a∨15<valH b then none else (unhexE t).map (UInt8.ofNat (valH a*16+valH b) :: ·)
theorem hexE_len:∀ (s:Str),(hexE s).length=2*s.length
 | []=>rfl
 | c::t=>by rw [hexE,List.length_cons,List.length_cons,hexE_len t,List.length_cons];omega
end Go.Proofs.YtihdndaibmgoiaaGreatDoor.Pz
namespace Go.Proofs.YtihdndaibmgoiaaGreatDoor
open Go.RowKit
def addRes (a b:List UInt8):List UInt8×Int:=twoRes a b 0 (pVal a+pVal b)
def subRes (a b:List UInt8):List UInt8×Int:=twoRes a b 0 (pVal a-pVal b)
def mulRes (a b:List UInt8):List UInt8×Int:=twoRes a b 0 (pVal a*pVal b)
end Go.Proofs.YtihdndaibmgoiaaGreatDoor
namespace Go.Proofs.YtihdndaibmgoiaaGreatDoor.Pz
open Go.RowKit
theorem two_txt (a b z:Int) (ha:a.natAbs<big600) (hb:b.natAbs<big600) (hz:z.natAbs<big600):twoRes (txt a) (txt b) 0 z=(txt z,0):=by
 have h1:=txt_read a
 have h2:=txt_read b
 unfold twoRes
 rw [if_pos ⟨h1.1,h2.1⟩,if_neg (by simp),h1.2,h2.2,if_neg (by omega),resOf_small z hz]
theorem mul_txt (a b:Int) (ha:a.natAbs<big600) (hb:b.natAbs<big600) (hz:(a*b).natAbs<big600):mulRes (txt a) (txt b)=(txt (a*b),0):=by
 unfold mulRes
 rw [(txt_read a).2,(txt_read b).2]
 exact two_txt a b _ ha hb hz
theorem add_txt (a b:Int) (ha:a.natAbs<big600) (hb:b.natAbs<big600) (hz:(a+b).natAbs<big600):addRes (txt a) (txt b)=(txt (a+b),0):=by
 unfold addRes
 rw [(txt_read a).2,(txt_read b).2]
 exact two_txt a b _ ha hb hz
theorem sub_txt (a b:Int) (ha:a.natAbs<big600) (hb:b.natAbs<big600) (hz:(a-b).natAbs<big600):subRes (txt a) (txt b)=(txt (a-b),0):=by
 unfold subRes
 rw [(txt_read a).2,(txt_read b).2]
 exact two_txt a b _ ha hb hz
theorem ofLE_snoc:∀ (p:Str) (x:UInt8),ofLE (p++[x])=ofLE p+256 ^ p.length*x.toNat
 | [],x=>by show x.toNat+256*0=0+1*x.toNat;omega
 | c::t,x=>by
  have ih:=ofLE_snoc t x
  have e:ofLE ((c::t)++[x])=c.toNat+256*ofLE (t++[x]):=rfl
  have e1:ofLE (c::t)=c.toNat+256*ofLE t:=rfl
  have e2:(256:Nat) ^ (c::t).length=256 ^ t.length*256:=Nat.pow_succ ..
  rw [e,e1,e2,ih,Nat.mul_add,Nat.add_assoc,← Nat.mul_assoc,Nat.mul_comm 256 (256 ^ t.length)]
theorem ofLE_top (p:Str) (x:UInt8):(2 ^ (8*(p++[x]).length-1)≤ofLE (p++[x]))=(128≤x.toNat):=by
 have h1:=ofLE_lt p
 rw [ofLE_snoc]
 have e:(2:Nat) ^ (8*(p++[x]).length-1)=256 ^ p.length*128:=by
  rw [List.length_append,show 8*(p.length + [x].length)-1=8*p.length+7 by simp only [List.length_cons,List.length_nil];omega,Nat.pow_add,Nat.pow_mul]
 rw [e]
 generalize hQ:(256:Nat) ^ p.length=Q at h1 ⊢
 refine propext ⟨fun h=>?_,fun h=>?_⟩
 ·rcases Nat.lt_or_ge x.toNat 128 with h2 | h2
  ·have h3:Q*(x.toNat+1)≤Q*128:=Nat.mul_le_mul_left Q (by omega)
   rw [Nat.mul_succ] at h3
   omega
  ·exact h2
 ·have h3:Q*128≤Q*x.toNat:=Nat.mul_le_mul_left Q h
  omega
def toldZ (pl:Bool) (l:Str):Int:=if pl then (ofLE l:Int) else signedE l.length (ofLE l)
end Go.Proofs.YtihdndaibmgoiaaGreatDoor.Pz
namespace Go.Proofs.YtihdndaibmgoiaaGreatDoor
open Go.RowKit
theorem dlen_abs_add (x y:Int):dlen 10 (x+y).natAbs≤max (dlen 10 x.natAbs) (dlen 10 y.natAbs)+1:=
 Nat.le_trans (dlen_mono _ _ (Int.natAbs_add_le x y)) (dlen_add_le _ _)
theorem told_two {a b:List UInt8} {x' y' z' z:Int} (oa:pOK a=true) (ob:pOK b=true) (hx:Cut x' (pVal a)) (hy:Cut y' (pVal b)) (hz:x'=pVal a→y'=pVal b→z'=z):toldRes z' [x',y']=twoRes a b 0 z:=by
 have e2:twoRes a b 0 z=if big600≤(pVal a).natAbs∨big600≤(pVal b).natAbs then ([],4) else resOf z:=by
  unfold twoRes
  rw [if_pos ⟨oa,ob⟩,if_neg (by simp)]
 unfold toldRes
 rw [e2,anyBig_two hx hy]
 by_cases h1:big600≤(pVal a).natAbs
 ·rw [decide_eq_true h1,if_pos (show big600≤(pVal a).natAbs∨big600≤(pVal b).natAbs from .inl h1)];rfl
 ·by_cases h2:big600≤(pVal b).natAbs
  ·rw [decide_eq_true h2,Bool.or_true,if_pos (show big600≤(pVal a).natAbs∨big600≤(pVal b).natAbs from .inr h2)];rfl
  ·rw [hz (hx.small (by omega)) (hy.small (by omega)),decide_eq_false h1,decide_eq_false h2,if_neg (show ¬ (big600≤(pVal a).natAbs∨big600≤(pVal b).natAbs) by omega)];rfl
set_option maxRecDepth 100000 in
set_option maxHeartbeats 4000000 in
theorem addR_fn (a b:List UInt8) (ha:a.length≤2000000) (hb:b.length≤2000000) (w:World) :
  Calls Tryz.prog 160 #[.string ⟨a.toArray⟩,.string ⟨b.toArray⟩] w fun e w'=>e=.returned (.tuple #[.string ⟨(addRes a b).1.toArray⟩,.int .i64 (addRes a b).2])∧Below w.heap.size w w':=by
 have hB:=hid (both_fn a b ha hb w)
 unfold BothQ at hB
 clear ha hb
 by_cases hok:pOK a=true∧pOK b=true
 case neg=>
  have hf:(pOK a && pOK b)=false:=by
   cases h1:pOK a<;>cases h2:pOK b<;>simp_all
  have HR:=hid (show addRes a b=([],2) by unfold addRes twoRes;rw [if_neg hok])
  rw [hf] at hB
  have hB:=hid hB.out
  clear hok hf
  go_enter Tryz.func160,Tryz.ntmps160
  go_wp2_with fail
  (with_reducible refine hB.out.mono ?_);rintro e w1 ⟨g1,s1,n1,c1,g2,s2,n2,c2,rfl,hb1,-⟩
  have hsz:=hb1.size
  go_wp2
  go_ret2
  exact ⟨by rw [HR.out];rfl,(hb1.alloc hsz _).alloc (by simp;omega) _⟩
 case pos=>
  obtain ⟨oa,ob⟩:=hok
  rw [oa,ob] at hB
  have hB:=hid hB.out
  go_enter Tryz.func160,Tryz.ntmps160
  go_wp2_with fail
  (with_reducible refine hB.out.mono ?_);rintro e w1 ⟨g1,s1,n1,c1,g2,s2,n2,c2,rfl,hb,hn⟩
  obtain ⟨⟨x',hx,hlx,hcx⟩,⟨y',hy,hly,hcy⟩⟩:=hn (by first | rfl | trivial)
  have HTWO:=hid (fun z' z=>told_two (z':=z') (z:=z) oa ob hcx hcy)
  clear hn hB oa ob
  have kX:=Blk.new w1 #[.bool g1,.slice s1 n1 c1] 59
  have kY:=Blk.new (w1.alloc (.cells #[.bool g1,.slice s1 n1 c1] 59)) #[.bool g2,.slice s2 n2 c2] 59
  simp only [World.size_alloc] at kY
  have kX:=kX.alloc (.cells #[.bool g2,.slice s2 n2 c2] 59)
  have gg:Below w1.heap.size w1 ((w1.alloc (.cells #[.bool g1,.slice s1 n1 c1] 59)).alloc (.cells #[.bool g2,.slice s2 n2 c2] 59)):=((Below.refl _ _).alloc (Nat.le_refl _) _).alloc (by simp) _
  have hx:=hx.below gg
  have hy:=hy.below gg
  have hb:=hb.trans (gg.mono hb.size)
  clear gg
  obtain ⟨⟨p1,p2⟩,q1,q2⟩:=kX.two
  obtain ⟨⟨p3,p4⟩,q3,q4⟩:=kY.two
  go_wp2_with fail
  clear p1 p2 p3 p4 q1 q2 q3 q4
  generalize (w1.alloc (.cells #[.bool g1,.slice s1 n1 c1] 59)).alloc (.cells #[.bool g2,.slice s2 n2 c2] 59)=w0 at *
  generalize w1.heap.size=B1 at *
  have kX:=kX.drew
  have kY:=kY.drew
  have hx:=hx.below ((Below.refl w0.heap.size w0).drew)
  have hy:=hy.below ((Below.refl w0.heap.size w0).drew)
  have hb:=hb.drew
  refine U_begin (late:=fun i=>decide (9≤i)) (S:=fun u=>Blk u B1 #[.bool g1,.slice s1 n1 c1] 59∧Blk u (B1+1) #[.bool g2,.slice s2 n2 c2] 59) (by kernel_rfl) ?_
  generalize w0.drew=wd at *
  refine U_take (i:=0) (v:=.agg #[.bool g1,.slice s1 n1 c1]) rfl (by kernel_rfl) (by kernel_rfl) (by kernel_rfl) (by kernel_rfl) (by kernel_rfl) (fun _ _ _ h=>h) (.inl ⟨rfl,fun u hu=>(by obtain ⟨⟨h1,h2⟩,_⟩:=hu.1.two;go_simp)⟩) ⟨kX,kY⟩ ?_
  refine U_take (i:=1) (v:=.agg #[.bool g2,.slice s2 n2 c2]) rfl (by kernel_rfl) (by kernel_rfl) (by kernel_rfl) (by kernel_rfl) (by kernel_rfl) (fun _ _ _ h=>h) (.inl ⟨rfl,fun u hu=>(by obtain ⟨⟨h1,h2⟩,_⟩:=hu.2.two;go_simp)⟩) ⟨kX,kY⟩ ?_
  refine U_take (i:=3) (v:=.agg #[.bool g1,.slice s1 n1 c1]) rfl (by kernel_rfl) (by kernel_rfl) (by kernel_rfl) (by kernel_rfl) (by kernel_rfl) (fun _ _ _ h=>h) (.inl ⟨rfl,fun u hu=>(by obtain ⟨⟨h1,h2⟩,_⟩:=hu.1.two;go_simp)⟩) ⟨kX,kY⟩ ?_
  refine U_take (i:=4) (v:=.agg #[.bool g2,.slice s2 n2 c2]) rfl (by kernel_rfl) (by kernel_rfl) (by kernel_rfl) (by kernel_rfl) (by kernel_rfl) (fun _ _ _ h=>h) (.inl ⟨rfl,fun u hu=>(by obtain ⟨⟨h1,h2⟩,_⟩:=hu.2.two;go_simp)⟩) ⟨kX,kY⟩ ?_
  refine U_two (j1:=2) (j2:=5) (by kernel_rfl) rfl rfl (fun K hK=>?_) (fun K hK=>?_)
  ·go_simp
   have hc:=hid (plusR_fn hx hy (by omega) (by omega))
   (with_reducible refine hc.out.mono ?_);rintro e v1 ⟨q,rfl,hq,gg⟩
   clear hc
   have hq:=hq.num
   have hb:=hb.trans (gg.mono hb.size)
   have kX:=kX.later gg
   have kY:=kY.later gg
   have hx:=hx.below gg
   have hy:=hy.below gg
   obtain ⟨qg,qa,qn,qc,rfl⟩:=hq.shape4
   clear gg
   refine hK.out _ _ (.inr ⟨kX,kY⟩) ?_
   clear hK K
   refine U_step (j:=5) (by kernel_rfl) rfl (fun K hK=>?_)
   go_simp
   have gg:Below v1.heap.size v1 (v1.alloc (.cells #[.bool g1,.slice s1 n1 c1,.bool g2,.slice s2 n2 c2] 59)):=(Below.refl _ _).alloc (Nat.le_refl _) _
   have kN:=Blk.new v1 #[.bool g1,.slice s1 n1 c1,.bool g2,.slice s2 n2 c2] 59
   have hb:=hb.trans (gg.mono hb.size)
   have kX:=kX.later gg
   have kY:=kY.later gg
   have hx:=hx.below gg
   have hy:=hy.below gg
   have hq:=hq.below gg
   have hN:=Nums.mk2 kN hx hy
   clear gg
   refine hK.out _ _ (.inr ⟨kX,kY⟩) ?_
   clear hK K
   generalize v1.heap.size=B5 at *
   generalize v1.alloc (.cells #[.bool g1,.slice s1 n1 c1,.bool g2,.slice s2 n2 c2] 59)=v2 at *
   clear kN
   refine U_step (j:=6) (by kernel_rfl) rfl (fun K hK=>?_)
   go_simp
   have hc:=hid (told_fn hq (by have:=dlen_abs_add x' y';omega) hN (fun x hm=>by simp at hm;rcases hm with rfl | rfl<;>omega) (by simp))
   (with_reducible refine hc.out.mono ?_);rintro e v3 ⟨rfl,gg⟩
   clear hc
   have hb:=hb.trans (gg.mono hb.size)
   have kX:=kX.later gg
   have kY:=kY.later gg
   have hx:=hx.below gg
   have hy:=hy.below gg
   have hq:=hq.below gg
   have hN:=hN.below gg
   clear gg
   refine hK.out _ _ (.inr ⟨kX,kY⟩) ?_
   clear hK K
   refine U_take (i:=7) (v:=.string ⟨(toldRes (x'+y') [x',y']).1.toArray⟩) rfl (by kernel_rfl) (by kernel_rfl) (by kernel_rfl) (by kernel_rfl) (by kernel_rfl) (fun _ _ _ h=>h) (.inl ⟨rfl,fun u hu=>(by go_simp)⟩) ⟨kX,kY⟩ ?_
   refine U_take (i:=8) (v:=.int .i64 (toldRes (x'+y') [x',y']).2) rfl (by kernel_rfl) (by kernel_rfl) (by kernel_rfl) (by kernel_rfl) (by kernel_rfl) (fun _ _ _ h=>h) (.inl ⟨rfl,fun u hu=>(by go_simp)⟩) ⟨kX,kY⟩ ?_
   refine U_step (j:=9) (by kernel_rfl) rfl (fun K hK=>?_)
   go_simp
   refine hK.out _ _ (.inl rfl) ?_
   clear hK K
   refine U_step (j:=10) (by kernel_rfl) rfl (fun K hK=>?_)
   go_simp
   refine hK.out _ _ (.inl rfl) ?_
   clear hK K
   refine U_done (by kernel_rfl) ?_ _
   have HR:=hid (show addRes a b=toldRes (x'+y') [x',y'] from (HTWO.out (x'+y') (pVal a+pVal b) (fun e1 e2=>by rw [e1,e2])).symm)
   clear HTWO
   go_wp2
   go_ret2
   exact ⟨by rw [HR.out];rfl,hb⟩
  ·go_simp
   have gg:Below wd.heap.size wd (wd.alloc (.cells #[.bool g1,.slice s1 n1 c1,.bool g2,.slice s2 n2 c2] 59)):=(Below.refl _ _).alloc (Nat.le_refl _) _
   have kN:=Blk.new wd #[.bool g1,.slice s1 n1 c1,.bool g2,.slice s2 n2 c2] 59
   have hb:=hb.trans (gg.mono hb.size)
   have kX:=kX.later gg
   have kY:=kY.later gg
   have hx:=hx.below gg
   have hy:=hy.below gg
   have hN:=Nums.mk2 kN hx hy
   clear gg
   refine hK.out _ _ (.inr ⟨kX,kY⟩) ?_
   clear hK K
   generalize wd.heap.size=B5 at *
   generalize wd.alloc (.cells #[.bool g1,.slice s1 n1 c1,.bool g2,.slice s2 n2 c2] 59)=v1 at *
   clear kN
   refine U_step (j:=2) (by kernel_rfl) rfl (fun K hK=>?_)
   go_simp
   have hc:=hid (plusR_fn hx hy (by omega) (by omega))
   (with_reducible refine hc.out.mono ?_);rintro e v2 ⟨q,rfl,hq,gg⟩
   clear hc
   have hq:=hq.num
   have hb:=hb.trans (gg.mono hb.size)
   have kX:=kX.later gg
   have kY:=kY.later gg
   have hx:=hx.below gg
   have hy:=hy.below gg
   have hN:=hN.below gg
   obtain ⟨qg,qa,qn,qc,rfl⟩:=hq.shape4
   clear gg
   refine hK.out _ _ (.inr ⟨kX,kY⟩) ?_
   clear hK K
   refine U_step (j:=6) (by kernel_rfl) rfl (fun K hK=>?_)
   go_simp
   have hc:=hid (told_fn hq (by have:=dlen_abs_add x' y';omega) hN (fun x hm=>by simp at hm;rcases hm with rfl | rfl<;>omega) (by simp))
   (with_reducible refine hc.out.mono ?_);rintro e v3 ⟨rfl,gg⟩
   clear hc
   have hb:=hb.trans (gg.mono hb.size)
   have kX:=kX.later gg
   have kY:=kY.later gg
   have hx:=hx.below gg
   have hy:=hy.below gg
   have hN:=hN.below gg
   have hq:=hq.below gg
   clear gg
   refine hK.out _ _ (.inr ⟨kX,kY⟩) ?_
   clear hK K
   refine U_take (i:=7) (v:=.string ⟨(toldRes (x'+y') [x',y']).1.toArray⟩) rfl (by kernel_rfl) (by kernel_rfl) (by kernel_rfl) (by kernel_rfl) (by kernel_rfl) (fun _ _ _ h=>h) (.inl ⟨rfl,fun u hu=>(by go_simp)⟩) ⟨kX,kY⟩ ?_
   refine U_take (i:=8) (v:=.int .i64 (toldRes (x'+y') [x',y']).2) rfl (by kernel_rfl) (by kernel_rfl) (by kernel_rfl) (by kernel_rfl) (by kernel_rfl) (fun _ _ _ h=>h) (.inl ⟨rfl,fun u hu=>(by go_simp)⟩) ⟨kX,kY⟩ ?_
   refine U_step (j:=9) (by kernel_rfl) rfl (fun K hK=>?_)
   go_simp
   refine hK.out _ _ (.inl rfl) ?_
   clear hK K
   refine U_step (j:=10) (by kernel_rfl) rfl (fun K hK=>?_)
   go_simp
   refine hK.out _ _ (.inl rfl) ?_
   clear hK K
   refine U_done (by kernel_rfl) ?_ _
   have HR:=hid (show addRes a b=toldRes (x'+y') [x',y'] from (HTWO.out (x'+y') (pVal a+pVal b) (fun e1 e2=>by rw [e1,e2])).symm)
   clear HTWO
   go_wp2
   go_ret2
   exact ⟨by rw [HR.out];rfl,hb⟩
set_option maxRecDepth 100000 in
set_option maxHeartbeats 4000000 in
theorem subR_fn (a b:List UInt8) (ha:a.length≤2000000) (hb:b.length≤2000000) (w:World) :
  Calls Tryz.prog 17 #[.string ⟨a.toArray⟩,.string ⟨b.toArray⟩] w fun e w'=>e=.returned (.tuple #[.string ⟨(subRes a b).1.toArray⟩,.int .i64 (subRes a b).2])∧Below w.heap.size w w':=by
 have hB:=hid (both_fn a b ha hb w)
 unfold BothQ at hB
 clear ha hb
 by_cases hok:pOK a=true∧pOK b=true
 case neg=>
  have hf:(pOK a && pOK b)=false:=by
   cases h1:pOK a<;>cases h2:pOK b<;>simp_all
  have HR:=hid (show subRes a b=([],2) by unfold subRes twoRes;rw [if_neg hok])
  rw [hf] at hB
  have hB:=hid hB.out
  clear hok hf
  go_enter Tryz.func17,Tryz.ntmps17
  go_wp2_with fail
  (with_reducible refine hB.out.mono ?_);rintro e w1 ⟨g1,s1,n1,c1,g2,s2,n2,c2,rfl,hb1,-⟩
  have hsz:=hb1.size
  go_wp2
  go_ret2
  exact ⟨by rw [HR.out];rfl,(hb1.alloc hsz _).alloc (by simp;omega) _⟩
 case pos=>
  obtain ⟨oa,ob⟩:=hok
  rw [oa,ob] at hB
  have hB:=hid hB.out
  go_enter Tryz.func17,Tryz.ntmps17
  go_wp2_with fail
  (with_reducible refine hB.out.mono ?_);rintro e w1 ⟨g1,s1,n1,c1,g2,s2,n2,c2,rfl,hb,hn⟩
  obtain ⟨⟨x',hx,hlx,hcx⟩,⟨y',hy,hly,hcy⟩⟩:=hn (by first | rfl | trivial)
  have HTWO:=hid (fun z' z=>told_two (z':=z') (z:=z) oa ob hcx hcy)
  clear hn hB oa ob
  have kX:=Blk.new w1 #[.bool g1,.slice s1 n1 c1] 59
  have kY:=Blk.new (w1.alloc (.cells #[.bool g1,.slice s1 n1 c1] 59)) #[.bool g2,.slice s2 n2 c2] 59
  simp only [World.size_alloc] at kY
  have kX:=kX.alloc (.cells #[.bool g2,.slice s2 n2 c2] 59)
  have gg:Below w1.heap.size w1 ((w1.alloc (.cells #[.bool g1,.slice s1 n1 c1] 59)).alloc (.cells #[.bool g2,.slice s2 n2 c2] 59)):=((Below.refl _ _).alloc (Nat.le_refl _) _).alloc (by simp) _
  have hx:=hx.below gg
  have hy:=hy.below gg
  have hb:=hb.trans (gg.mono hb.size)
  clear gg
  obtain ⟨⟨p1,p2⟩,q1,q2⟩:=kX.two
  obtain ⟨⟨p3,p4⟩,q3,q4⟩:=kY.two
  go_wp2_with fail
  clear p1 p2 p3 p4 q1 q2 q3 q4
  generalize (w1.alloc (.cells #[.bool g1,.slice s1 n1 c1] 59)).alloc (.cells #[.bool g2,.slice s2 n2 c2] 59)=w0 at *
  generalize w1.heap.size=B1 at *
  have kX:=kX.drew
  have kY:=kY.drew
  have hx:=hx.below ((Below.refl w0.heap.size w0).drew)
  have hy:=hy.below ((Below.refl w0.heap.size w0).drew)
  have hb:=hb.drew
  refine U_begin (late:=fun i=>decide (10≤i)) (S:=fun u=>Blk u B1 #[.bool g1,.slice s1 n1 c1] 59∧Blk u (B1+1) #[.bool g2,.slice s2 n2 c2] 59) (by kernel_rfl) ?_
  generalize w0.drew=wd at *
  refine U_take (i:=0) (v:=.agg #[.bool g1,.slice s1 n1 c1]) rfl (by kernel_rfl) (by kernel_rfl) (by kernel_rfl) (by kernel_rfl) (by kernel_rfl) (fun _ _ _ h=>h) (.inl ⟨rfl,fun u hu=>(by obtain ⟨⟨h1,h2⟩,_⟩:=hu.1.two;go_simp)⟩) ⟨kX,kY⟩ ?_
  refine U_take (i:=1) (v:=.agg #[.bool g2,.slice s2 n2 c2]) rfl (by kernel_rfl) (by kernel_rfl) (by kernel_rfl) (by kernel_rfl) (by kernel_rfl) (fun _ _ _ h=>h) (.inl ⟨rfl,fun u hu=>(by obtain ⟨⟨h1,h2⟩,_⟩:=hu.2.two;go_simp)⟩) ⟨kX,kY⟩ ?_
  refine U_take (i:=4) (v:=.agg #[.bool g1,.slice s1 n1 c1]) rfl (by kernel_rfl) (by kernel_rfl) (by kernel_rfl) (by kernel_rfl) (by kernel_rfl) (fun _ _ _ h=>h) (.inl ⟨rfl,fun u hu=>(by obtain ⟨⟨h1,h2⟩,_⟩:=hu.1.two;go_simp)⟩) ⟨kX,kY⟩ ?_
  refine U_take (i:=5) (v:=.agg #[.bool g2,.slice s2 n2 c2]) rfl (by kernel_rfl) (by kernel_rfl) (by kernel_rfl) (by kernel_rfl) (by kernel_rfl) (fun _ _ _ h=>h) (.inl ⟨rfl,fun u hu=>(by obtain ⟨⟨h1,h2⟩,_⟩:=hu.2.two;go_simp)⟩) ⟨kX,kY⟩ ?_
  refine U_two (j1:=2) (j2:=6) (by kernel_rfl) rfl rfl (fun K hK=>?_) (fun K hK=>?_)
  ·go_simp
   have hc:=hid (oppR_fn hy (by omega))
   (with_reducible refine hc.out.mono ?_);rintro e v1 ⟨r,rfl,hr,gg⟩
   clear hc
   have hb:=hb.trans (gg.mono hb.size)
   have kX:=kX.later gg
   have kY:=kY.later gg
   have hx:=hx.below gg
   have hy:=hy.below gg
   obtain ⟨rg,ra,rn,rc,rfl⟩:=hr.shape4
   clear gg
   refine hK.out _ _ (.inr ⟨kX,kY⟩) ?_
   clear hK K
   refine U_two (j1:=3) (j2:=6) (by kernel_rfl) rfl rfl (fun K hK=>?_) (fun K hK=>?_)
   ·go_simp
    have hc:=hid (plusR_fn hx hr (by omega) (by rw [Int.natAbs_neg];omega))
    (with_reducible refine hc.out.mono ?_);rintro e v2 ⟨q,rfl,hq,gg⟩
    clear hc
    have hq:=hq.num
    have hb:=hb.trans (gg.mono hb.size)
    have kX:=kX.later gg
    have kY:=kY.later gg
    have hx:=hx.below gg
    have hy:=hy.below gg
    have hr:=hr.below gg
    obtain ⟨qg,qa,qn,qc,rfl⟩:=hq.shape4
    clear gg
    refine hK.out _ _ (.inr ⟨kX,kY⟩) ?_
    clear hK K
    refine U_step (j:=6) (by kernel_rfl) rfl (fun K hK=>?_)
    go_simp
    have gg:Below v2.heap.size v2 (v2.alloc (.cells #[.bool g1,.slice s1 n1 c1,.bool g2,.slice s2 n2 c2] 59)):=(Below.refl _ _).alloc (Nat.le_refl _) _
    have kN:=Blk.new v2 #[.bool g1,.slice s1 n1 c1,.bool g2,.slice s2 n2 c2] 59
    have hb:=hb.trans (gg.mono hb.size)
    have kX:=kX.later gg
    have kY:=kY.later gg
    have hx:=hx.below gg
    have hy:=hy.below gg
    have hr:=hr.below gg
    have hq:=hq.below gg
    have hN:=Nums.mk2 kN hx hy
    clear gg
    refine hK.out _ _ (.inr ⟨kX,kY⟩) ?_
    clear hK K
    generalize v2.heap.size=B5 at *
    generalize v2.alloc (.cells #[.bool g1,.slice s1 n1 c1,.bool g2,.slice s2 n2 c2] 59)=v3 at *
    clear kN
    refine U_step (j:=7) (by kernel_rfl) rfl (fun K hK=>?_)
    go_simp
    have hc:=hid (told_fn hq (by have:=dlen_abs_add x' (-y');rw [Int.natAbs_neg] at this;omega) hN (fun x hm=>by simp at hm;rcases hm with rfl | rfl<;>omega) (by simp))
    (with_reducible refine hc.out.mono ?_);rintro e v4 ⟨rfl,gg⟩
    clear hc
    have hb:=hb.trans (gg.mono hb.size)
    have kX:=kX.later gg
    have kY:=kY.later gg
    have hx:=hx.below gg
    have hy:=hy.below gg
    have hr:=hr.below gg
    have hq:=hq.below gg
    have hN:=hN.below gg
    clear gg
    refine hK.out _ _ (.inr ⟨kX,kY⟩) ?_
    clear hK K
    refine U_take (i:=8) (v:=.string ⟨(toldRes (x' + -y') [x',y']).1.toArray⟩) rfl (by kernel_rfl) (by kernel_rfl) (by kernel_rfl) (by kernel_rfl) (by kernel_rfl) (fun _ _ _ h=>h) (.inl ⟨rfl,fun u hu=>(by go_simp)⟩) ⟨kX,kY⟩ ?_
    refine U_take (i:=9) (v:=.int .i64 (toldRes (x' + -y') [x',y']).2) rfl (by kernel_rfl) (by kernel_rfl) (by kernel_rfl) (by kernel_rfl) (by kernel_rfl) (fun _ _ _ h=>h) (.inl ⟨rfl,fun u hu=>(by go_simp)⟩) ⟨kX,kY⟩ ?_
    refine U_step (j:=10) (by kernel_rfl) rfl (fun K hK=>?_)
    go_simp
    refine hK.out _ _ (.inl rfl) ?_
    clear hK K
    refine U_step (j:=11) (by kernel_rfl) rfl (fun K hK=>?_)
    go_simp
    refine hK.out _ _ (.inl rfl) ?_
    clear hK K
    refine U_done (by kernel_rfl) ?_ _
    have HR:=hid (show subRes a b=toldRes (x' + -y') [x',y'] from (HTWO.out (x' + -y') (pVal a-pVal b) (fun e1 e2=>by rw [e1,e2];omega)).symm)
    clear HTWO
    go_wp2
    go_ret2
    exact ⟨by rw [HR.out];rfl,hb⟩
   ·go_simp
    have gg:Below v1.heap.size v1 (v1.alloc (.cells #[.bool g1,.slice s1 n1 c1,.bool g2,.slice s2 n2 c2] 59)):=(Below.refl _ _).alloc (Nat.le_refl _) _
    have kN:=Blk.new v1 #[.bool g1,.slice s1 n1 c1,.bool g2,.slice s2 n2 c2] 59
    have hb:=hb.trans (gg.mono hb.size)
    have kX:=kX.later gg
    have kY:=kY.later gg
    have hx:=hx.below gg
    have hy:=hy.below gg
    have hr:=hr.below gg
    have hN:=Nums.mk2 kN hx hy
    clear gg
    refine hK.out _ _ (.inr ⟨kX,kY⟩) ?_
    clear hK K
    generalize v1.heap.size=B5 at *
    generalize v1.alloc (.cells #[.bool g1,.slice s1 n1 c1,.bool g2,.slice s2 n2 c2] 59)=v2 at *
    clear kN
    refine U_step (j:=3) (by kernel_rfl) rfl (fun K hK=>?_)
    go_simp
    have hc:=hid (plusR_fn hx hr (by omega) (by rw [Int.natAbs_neg];omega))
    (with_reducible refine hc.out.mono ?_);rintro e v3 ⟨q,rfl,hq,gg⟩
    clear hc
    have hq:=hq.num
    have hb:=hb.trans (gg.mono hb.size)
    have kX:=kX.later gg
    have kY:=kY.later gg
    have hx:=hx.below gg
    have hy:=hy.below gg
    have hr:=hr.below gg
    have hN:=hN.below gg
    obtain ⟨qg,qa,qn,qc,rfl⟩:=hq.shape4
    clear gg
    refine hK.out _ _ (.inr ⟨kX,kY⟩) ?_
    clear hK K
    refine U_step (j:=7) (by kernel_rfl) rfl (fun K hK=>?_)
    go_simp
    have hc:=hid (told_fn hq (by have:=dlen_abs_add x' (-y');rw [Int.natAbs_neg] at this;omega) hN (fun x hm=>by simp at hm;rcases hm with rfl | rfl<;>omega) (by simp))
    (with_reducible refine hc.out.mono ?_);rintro e v4 ⟨rfl,gg⟩
    clear hc
    have hb:=hb.trans (gg.mono hb.size)
    have kX:=kX.later gg
    have kY:=kY.later gg
    have hx:=hx.below gg
    have hy:=hy.below gg
    have hr:=hr.below gg
    have hN:=hN.below gg
    have hq:=hq.below gg
    clear gg
    refine hK.out _ _ (.inr ⟨kX,kY⟩) ?_
    clear hK K
    refine U_take (i:=8) (v:=.string ⟨(toldRes (x' + -y') [x',y']).1.toArray⟩) rfl (by kernel_rfl) (by kernel_rfl) (by kernel_rfl) (by kernel_rfl) (by kernel_rfl) (fun _ _ _ h=>h) (.inl ⟨rfl,fun u hu=>(by go_simp)⟩) ⟨kX,kY⟩ ?_
    refine U_take (i:=9) (v:=.int .i64 (toldRes (x' + -y') [x',y']).2) rfl (by kernel_rfl) (by kernel_rfl) (by kernel_rfl) (by kernel_rfl) (by kernel_rfl) (fun _ _ _ h=>h) (.inl ⟨rfl,fun u hu=>(by go_simp)⟩) ⟨kX,kY⟩ ?_
    refine U_step (j:=10) (by kernel_rfl) rfl (fun K hK=>?_)
    go_simp
    refine hK.out _ _ (.inl rfl) ?_
    clear hK K
    refine U_step (j:=11) (by kernel_rfl) rfl (fun K hK=>?_)
    go_simp
    refine hK.out _ _ (.inl rfl) ?_
    clear hK K
    refine U_done (by kernel_rfl) ?_ _
    have HR:=hid (show subRes a b=toldRes (x' + -y') [x',y'] from (HTWO.out (x' + -y') (pVal a-pVal b) (fun e1 e2=>by rw [e1,e2];omega)).symm)
    clear HTWO
    go_wp2
    go_ret2
    exact ⟨by rw [HR.out];rfl,hb⟩
  ·go_simp
   have gg:Below wd.heap.size wd (wd.alloc (.cells #[.bool g1,.slice s1 n1 c1,.bool g2,.slice s2 n2 c2] 59)):=(Below.refl _ _).alloc (Nat.le_refl _) _
   have kN:=Blk.new wd #[.bool g1,.slice s1 n1 c1,.bool g2,.slice s2 n2 c2] 59
   have hb:=hb.trans (gg.mono hb.size)
   have kX:=kX.later gg
   have kY:=kY.later gg
   have hx:=hx.below gg
   have hy:=hy.below gg
   have hN:=Nums.mk2 kN hx hy
   clear gg
   refine hK.out _ _ (.inr ⟨kX,kY⟩) ?_
   clear hK K
   generalize wd.heap.size=B5 at *
   generalize wd.alloc (.cells #[.bool g1,.slice s1 n1 c1,.bool g2,.slice s2 n2 c2] 59)=v1 at *
   clear kN
   refine U_step (j:=2) (by kernel_rfl) rfl (fun K hK=>?_)
   go_simp
   have hc:=hid (oppR_fn hy (by omega))
   (with_reducible refine hc.out.mono ?_);rintro e v2 ⟨r,rfl,hr,gg⟩
   clear hc
   have hb:=hb.trans (gg.mono hb.size)
   have kX:=kX.later gg
   have kY:=kY.later gg
   have hx:=hx.below gg
   have hy:=hy.below gg
   have hN:=hN.below gg
   obtain ⟨rg,ra,rn,rc,rfl⟩:=hr.shape4
   clear gg
   refine hK.out _ _ (.inr ⟨kX,kY⟩) ?_
   clear hK K
   refine U_step (j:=3) (by kernel_rfl) rfl (fun K hK=>?_)
   go_simp
   have hc:=hid (plusR_fn hx hr (by omega) (by rw [Int.natAbs_neg];omega))
   (with_reducible refine hc.out.mono ?_);rintro e v3 ⟨q,rfl,hq,gg⟩
   clear hc
   have hq:=hq.num
   have hb:=hb.trans (gg.mono hb.size)
   have kX:=kX.later gg
   have kY:=kY.later gg
   have hx:=hx.below gg
   have hy:=hy.below gg
   have hN:=hN.below gg
   have hr:=hr.below gg
   obtain ⟨qg,qa,qn,qc,rfl⟩:=hq.shape4
   clear gg
   refine hK.out _ _ (.inr ⟨kX,kY⟩) ?_
   clear hK K
   refine U_step (j:=7) (by kernel_rfl) rfl (fun K hK=>?_)
   go_simp
   have hc:=hid (told_fn hq (by have:=dlen_abs_add x' (-y');rw [Int.natAbs_neg] at this;omega) hN (fun x hm=>by simp at hm;rcases hm with rfl | rfl<;>omega) (by simp))
   (with_reducible refine hc.out.mono ?_);rintro e v4 ⟨rfl,gg⟩
   clear hc
   have hb:=hb.trans (gg.mono hb.size)
   have kX:=kX.later gg
   have kY:=kY.later gg
   have hx:=hx.below gg
   have hy:=hy.below gg
   have hN:=hN.below gg
   have hr:=hr.below gg
   have hq:=hq.below gg
   clear gg
   refine hK.out _ _ (.inr ⟨kX,kY⟩) ?_
   clear hK K
   refine U_take (i:=8) (v:=.string ⟨(toldRes (x' + -y') [x',y']).1.toArray⟩) rfl (by kernel_rfl) (by kernel_rfl) (by kernel_rfl) (by kernel_rfl) (by kernel_rfl) (fun _ _ _ h=>h) (.inl ⟨rfl,fun u hu=>(by go_simp)⟩) ⟨kX,kY⟩ ?_
   refine U_take (i:=9) (v:=.int .i64 (toldRes (x' + -y') [x',y']).2) rfl (by kernel_rfl) (by kernel_rfl) (by kernel_rfl) (by kernel_rfl) (by kernel_rfl) (fun _ _ _ h=>h) (.inl ⟨rfl,fun u hu=>(by go_simp)⟩) ⟨kX,kY⟩ ?_
   refine U_step (j:=10) (by kernel_rfl) rfl (fun K hK=>?_)
   go_simp
   refine hK.out _ _ (.inl rfl) ?_
   clear hK K
   refine U_step (j:=11) (by kernel_rfl) rfl (fun K hK=>?_)
   go_simp
   refine hK.out _ _ (.inl rfl) ?_
   clear hK K
   refine U_done (by kernel_rfl) ?_ _
   have HR:=hid (show subRes a b=toldRes (x' + -y') [x',y'] from (HTWO.out (x' + -y') (pVal a-pVal b) (fun e1 e2=>by rw [e1,e2];omega)).symm)
   clear HTWO
   go_wp2
   go_ret2
   exact ⟨by rw [HR.out];rfl,hb⟩
end Go.Proofs.YtihdndaibmgoiaaGreatDoor
namespace Go.Proofs.YtihdndaibmgoiaaGreatDoor
open Go.RowKit
def cmpRes (a b:List UInt8):Int×Int:=
 if pOK a=true∧pOK b=true then if big600≤(pVal a).natAbs∨big600≤(pVal b).natAbs then (0,4) else (cmpI (pVal a) (pVal b),0) else (0,2)
set_option maxRecDepth 100000 in
set_option maxHeartbeats 4000000 in
theorem cmpR_fn (a b:List UInt8) (ha:a.length≤2000000) (hb:b.length≤2000000) (w:World) :
    Calls Tryz.prog 16 #[.string ⟨a.toArray⟩,.string ⟨b.toArray⟩] w fun e w'=>e=.returned (.tuple #[.int .i64 (cmpRes a b).1,.int .i64 (cmpRes a b).2])∧Below w.heap.size w w':=by
  have hB:=hid (both_fn a b ha hb w)
  unfold BothQ at hB
  clear ha hb
  by_cases hok:pOK a=true∧pOK b=true
  case neg=>
    have hf:(pOK a && pOK b)=false:=by
      cases h1:pOK a<;>cases h2:pOK b<;>simp_all
    have HR:=hid (show cmpRes a b=(0,2) by unfold cmpRes;rw [if_neg hok])
    rw [hf] at hB
    have hB:=hid hB.out
    clear hok hf
    go_enter Tryz.func16,Tryz.ntmps16
    go_wp2_with fail
    (with_reducible refine hB.out.mono ?_);rintro e w1 ⟨g1,s1,n1,c1,g2,s2,n2,c2,rfl,hb1,-⟩
    have hsz:=hb1.size
    go_wp2
    go_ret2
    exact ⟨by rw [HR.out];rfl,(hb1.alloc hsz _).alloc (by simp;omega) _⟩
  case pos=>
    have HR:=hid (show cmpRes a b=if big600≤(pVal a).natAbs∨big600≤(pVal b).natAbs then (0,4) else (cmpI (pVal a) (pVal b),0) by unfold cmpRes;rw [if_pos hok])
    obtain ⟨oa,ob⟩:=hok
    rw [oa,ob] at hB
    have hB:=hid hB.out
    go_enter Tryz.func16,Tryz.ntmps16
    go_wp2_with fail
    (with_reducible refine hB.out.mono ?_);rintro e w1 ⟨g1,s1,n1,c1,g2,s2,n2,c2,rfl,hb,hn⟩
    obtain ⟨⟨x',hx,hlx,hcx⟩,⟨y',hy,hly,hcy⟩⟩:=hn (by first | rfl | trivial)
    have HAB:=hid (anyBig_two hcx hcy)
    have HCX:=hid hcx.small
    have HCY:=hid hcy.small
    clear hn hB oa ob hcx hcy
    have kX:=Blk.new w1 #[.bool g1,.slice s1 n1 c1] 59
    have kY:=Blk.new (w1.alloc (.cells #[.bool g1,.slice s1 n1 c1] 59)) #[.bool g2,.slice s2 n2 c2] 59
    simp only [World.size_alloc] at kY
    have kX:=kX.alloc (.cells #[.bool g2,.slice s2 n2 c2] 59)
    have gg:Below w1.heap.size w1 ((w1.alloc (.cells #[.bool g1,.slice s1 n1 c1] 59)).alloc (.cells #[.bool g2,.slice s2 n2 c2] 59)):=((Below.refl _ _).alloc (Nat.le_refl _) _).alloc (by simp) _
    have hx:=hx.below gg
    have hy:=hy.below gg
    have hb:=hb.trans (gg.mono hb.size)
    clear gg
    have kN:=Blk.new ((w1.alloc (.cells #[.bool g1,.slice s1 n1 c1] 59)).alloc (.cells #[.bool g2,.slice s2 n2 c2] 59)) #[.bool g1,.slice s1 n1 c1,.bool g2,.slice s2 n2 c2] 59
    have gg:Below ((w1.alloc (.cells #[.bool g1,.slice s1 n1 c1] 59)).alloc (.cells #[.bool g2,.slice s2 n2 c2] 59)).heap.size ((w1.alloc (.cells #[.bool g1,.slice s1 n1 c1] 59)).alloc (.cells #[.bool g2,.slice s2 n2 c2] 59)) (((w1.alloc (.cells #[.bool g1,.slice s1 n1 c1] 59)).alloc (.cells #[.bool g2,.slice s2 n2 c2] 59)).alloc (.cells #[.bool g1,.slice s1 n1 c1,.bool g2,.slice s2 n2 c2] 59)):=(Below.refl _ _).alloc (Nat.le_refl _) _
    have hx:=hx.below gg
    have hy:=hy.below gg
    have hb:=hb.trans (gg.mono hb.size)
    have hN:=Nums.mk2 kN hx hy
    have kX:=kX.later gg
    have kY:=kY.later gg
    simp only [World.size_alloc] at hN
    have hsc:=hid (short_fn hN (fun x hm=>by simp at hm;rcases hm with rfl | rfl<;>omega) (by simp))
    rw [HAB.out] at hsc
    clear gg kN hN
    have kX0:=kX
    obtain ⟨⟨p1,p2⟩,q1,q2⟩:=kX.two
    obtain ⟨⟨p3,p4⟩,q3,q4⟩:=kY.two
    go_wp2_with fail
    (with_reducible refine hsc.out.mono ?_);rintro e w2 ⟨rfl,gg⟩
    have hx:=hx.below gg
    have hy:=hy.below gg
    have hb:=hb.trans (gg.mono hb.size)
    have kX:=kX.later gg
    have kY:=kY.later gg
    clear p1 p2 p3 p4 q1 q2 q3 q4 hsc gg kX0
    by_cases hbig:big600≤(pVal a).natAbs∨big600≤(pVal b).natAbs
    · have hT : (!(decide (big600 ≤ (pVal a).natAbs) || decide (big600 ≤ (pVal b).natAbs))) = false := by
        rcases hbig with h | h<;>rw [decide_eq_true h]<;>simp
      have HR2:=hid (show cmpRes a b=(0,4) by rw [HR.out,if_pos hbig])
      rw [hT]
      clear hbig hT
      go_wp2
      go_ret2
      exact ⟨by rw [HR2.out];rfl,hb⟩
    · have hT : (!(decide (big600 ≤ (pVal a).natAbs) || decide (big600 ≤ (pVal b).natAbs))) = true := by
        rw [decide_eq_false (show ¬ big600≤(pVal a).natAbs by omega),decide_eq_false (show ¬ big600≤(pVal b).natAbs by omega)];rfl
      have HR2:=hid (show cmpRes a b=(cmpI x' y',0) by rw [HR.out,if_neg hbig,HCX.out (by omega),HCY.out (by omega)])
      have HO:=hid (orderR_fn hx hy (by omega) (by omega))
      obtain ⟨⟨p1,p2⟩,q1,q2⟩:=kX.two
      obtain ⟨⟨p3,p4⟩,q3,q4⟩:=kY.two
      rw [hT]
      clear hbig hT
      go_wp2_with fail
      (with_reducible refine HO.out.mono ?_);rintro e w3 ⟨rfl,gg⟩
      have hb:=hb.trans (gg.mono hb.size)
      go_wp2
      go_ret2
      exact ⟨by rw [HR2.out];rfl,hb⟩
end Go.Proofs.YtihdndaibmgoiaaGreatDoor
namespace Go.Proofs.YtihdndaibmgoiaaGreatDoor
open Go.RowKit
set_option maxRecDepth 100000 in
set_option maxHeartbeats 4000000 in
theorem mulR_fn (a b:List UInt8) (ha:a.length≤2000000) (hb:b.length≤2000000) (w:World) :
    Calls Tryz.prog 13 #[.string ⟨a.toArray⟩,.string ⟨b.toArray⟩] w fun e w'=>e=.returned (.tuple #[.string ⟨(mulRes a b).1.toArray⟩,.int .i64 (mulRes a b).2])∧Below w.heap.size w w':=by
  have hB:=hid (both_fn a b ha hb w)
  unfold BothQ at hB
  clear ha hb
  by_cases hok:pOK a=true∧pOK b=true
  case neg=>
    have hf:(pOK a && pOK b)=false:=by
      cases h1:pOK a<;>cases h2:pOK b<;>simp_all
    have HR:=hid (show mulRes a b=([],2) by exact neg_two hok)
    rw [hf] at hB
    have hB:=hid hB.out
    clear hok hf
    go_enter Tryz.func13,Tryz.ntmps13
    go_wp2_with fail
    (with_reducible refine hB.out.mono ?_);rintro e w1 ⟨g1,s1,n1,c1,g2,s2,n2,c2,rfl,hb1,-⟩
    have hsz:=hb1.size
    go_wp2
    go_ret2
    exact ⟨by rw [HR.out];rfl,(hb1.alloc hsz _).alloc (by simp;omega) _⟩
  case pos=>
    have HR:=hid (show mulRes a b=if big600≤(pVal a).natAbs∨big600≤(pVal b).natAbs then ([],4) else resOf (pVal a*pVal b) by unfold mulRes twoRes;rw [if_pos hok,if_neg (by simp)])
    obtain ⟨oa,ob⟩:=hok
    rw [oa,ob] at hB
    have hB:=hid hB.out
    go_enter Tryz.func13,Tryz.ntmps13
    go_wp2_with fail
    (with_reducible refine hB.out.mono ?_);rintro e w1 ⟨g1,s1,n1,c1,g2,s2,n2,c2,rfl,hb,hn⟩
    obtain ⟨⟨x',hx,hlx,hcx⟩,⟨y',hy,hly,hcy⟩⟩:=hn (by first | rfl | trivial)
    have HAB:=hid (anyBig_two hcx hcy)
    have HCX:=hid hcx.small
    have HCY:=hid hcy.small
    have HCYB:=hid hcy
    clear hn hB oa ob hcx hcy
    have kX:=Blk.new w1 #[.bool g1,.slice s1 n1 c1] 59
    have kY:=Blk.new (w1.alloc (.cells #[.bool g1,.slice s1 n1 c1] 59)) #[.bool g2,.slice s2 n2 c2] 59
    simp only [World.size_alloc] at kY
    have kX:=kX.alloc (.cells #[.bool g2,.slice s2 n2 c2] 59)
    have gg:Below w1.heap.size w1 ((w1.alloc (.cells #[.bool g1,.slice s1 n1 c1] 59)).alloc (.cells #[.bool g2,.slice s2 n2 c2] 59)):=((Below.refl _ _).alloc (Nat.le_refl _) _).alloc (by simp) _
    have hx:=hx.below gg
    have hy:=hy.below gg
    have hb:=hb.trans (gg.mono hb.size)
    clear gg
    have kN:=Blk.new ((w1.alloc (.cells #[.bool g1,.slice s1 n1 c1] 59)).alloc (.cells #[.bool g2,.slice s2 n2 c2] 59)) #[.bool g1,.slice s1 n1 c1,.bool g2,.slice s2 n2 c2] 59
    have gg:Below ((w1.alloc (.cells #[.bool g1,.slice s1 n1 c1] 59)).alloc (.cells #[.bool g2,.slice s2 n2 c2] 59)).heap.size ((w1.alloc (.cells #[.bool g1,.slice s1 n1 c1] 59)).alloc (.cells #[.bool g2,.slice s2 n2 c2] 59)) (((w1.alloc (.cells #[.bool g1,.slice s1 n1 c1] 59)).alloc (.cells #[.bool g2,.slice s2 n2 c2] 59)).alloc (.cells #[.bool g1,.slice s1 n1 c1,.bool g2,.slice s2 n2 c2] 59)):=(Below.refl _ _).alloc (Nat.le_refl _) _
    obtain ⟨⟨p1,p2⟩,q1,q2⟩:=kX.two
    obtain ⟨⟨p3,p4⟩,q3,q4⟩:=kY.two
    have hx:=hx.below gg
    have hy:=hy.below gg
    have hb:=hb.trans (gg.mono hb.size)
    have hN:=Nums.mk2 kN hx hy
    have kX:=kX.later gg
    have kY:=kY.later gg
    simp only [World.size_alloc] at hN
    have hsc:=hid (short_fn hN (fun x hm=>by simp at hm;rcases hm with rfl | rfl<;>omega) (by simp))
    rw [HAB.out] at hsc
    clear gg kN hN
    go_wp2_with fail
    (with_reducible refine hsc.out.mono ?_);rintro e w2 ⟨rfl,gg⟩
    have hx:=hx.below gg
    have hy:=hy.below gg
    have hb:=hb.trans (gg.mono hb.size)
    have kX:=kX.later gg
    have kY:=kY.later gg
    clear p1 p2 p3 p4 q1 q2 q3 q4 hsc gg
    generalize w1.heap.size=B1 at *
    by_cases hbig:big600≤(pVal a).natAbs∨big600≤(pVal b).natAbs
    · have hT : (!(decide (big600 ≤ (pVal a).natAbs) || decide (big600 ≤ (pVal b).natAbs))) = false := by
        rcases hbig with h | h<;>rw [decide_eq_true h]<;>simp
      have HR2:=hid (show mulRes a b=([],4) by rw [HR.out,if_pos hbig])
      rw [hT]
      clear hbig hT
      go_wp2
      go_ret2
      exact ⟨by rw [HR2.out];rfl,hb⟩
    · have hT : (!(decide (big600 ≤ (pVal a).natAbs) || decide (big600 ≤ (pVal b).natAbs))) = true := by
        rw [decide_eq_false (show ¬ big600≤(pVal a).natAbs by omega),decide_eq_false (show ¬ big600≤(pVal b).natAbs by omega)];rfl
      have ex:x'=pVal a:=HCX.out (by omega)
      have ey:y'=pVal b:=HCY.out (by omega)
      have hdx:dlen 10 x'.natAbs≤600:=(digits_600 _).2 (by rw [ex];omega)
      have hdy:dlen 10 y'.natAbs≤600:=(digits_600 _).2 (by rw [ey];omega)
      have EX:=hid ex
      have EY:=hid ey
      have HBIG:=hid hbig
      obtain ⟨⟨p1,p2⟩,q1,q2⟩:=kX.two
      obtain ⟨⟨p3,p4⟩,q3,q4⟩:=kY.two
      rw [hT]
      clear hbig hT ex ey
      have HT:=hid (timesR_fn hx hy (by omega) (by omega))
      have HR2:=hid (show mulRes a b=resOf (x'*y') by rw [HR.out,if_neg HBIG.out,EX.out,EY.out])
      have hdm:dlen 10 (x'*y').natAbs≤1200:=by rw [Int.natAbs_mul];have:=dlen_mul_le x'.natAbs y'.natAbs;omega
      go_wp2_with fail
      (with_reducible refine HT.out.mono ?_);rintro e w3 ⟨q,rfl,hq,gg⟩
      have hb:=hb.trans (gg.mono hb.size)
      obtain ⟨qg,qa,qn,qc,rfl⟩:=hq.num.shape4
      have HTO:=hid (told_fn hq.num (by omega) (Nums.nil _) (fun x h=>by cases h) (by decide))
      rw [toldRes_nil] at HTO
      clear gg
      go_wp2_with fail
      (with_reducible refine HTO.out.mono ?_);rintro e w4 ⟨rfl,gg⟩
      have hb:=hb.trans (gg.mono hb.size)
      go_wp2
      go_ret2
      exact ⟨by rw [HR2.out];rfl,hb⟩
end Go.Proofs.YtihdndaibmgoiaaGreatDoor
namespace Go.Proofs.YtihdndaibmgoiaaGreatDoor.Pz
open Go.RowKit
attribute [local go_sem] Oper.semAt_some
theorem hexE_at:∀ (s:Str) (k:Nat) (h:k<(hexE s).length),(hexE s)[k]=if k % 2=0 then hexD ((s[k / 2]'(by rw [hexE_len] at h;omega)).toNat / 16) else hexD ((s[k / 2]'(by rw [hexE_len] at h;omega)).toNat % 16)
 | [],k,h=>absurd h (Nat.not_lt_zero _)
 | c::t,0,h=>rfl
 | c::t,1,h=>rfl
 | c::t,k+2,h=>by
  have ih:=hexE_at t k (by rw [hexE_len] at h ⊢;rw [List.length_cons] at h;omega)
  have e:(hexE (c::t))[k+2]=(hexE t)[k]'(by rw [hexE_len] at h ⊢;rw [List.length_cons] at h;omega):=rfl
  rw [e,ih,show (k+2) % 2=k % 2 by omega]
  have e2:(k+2) / 2=k / 2+1:=by omega
  simp only [e2,List.getElem_cons_succ]
theorem tellE_at (c:UInt8) (s:Str) (n k:Nat) (h:k<(tellE c s n).length):(tellE c s n)[k]=hexD ((s.getD (k*bitsL c / 8) 0).toNat / 2 ^ shiftL c k (bitsL c) % 2 ^ bitsL c):=
 (List.getElem_map (l:=List.range n) (i:=k) (h:=h) fun i=>hexD ((s.getD (i*bitsL c / 8) 0).toNat / 2 ^ shiftL c i (bitsL c) % 2 ^ bitsL c)).trans (by rw [List.getElem_range])
theorem tell_hex (s:Str):tellE 72 s (2*s.length)=hexE s:=by
 apply List.ext_getElem
 ·rw [tellE_len,hexE_len]
 ·intro k h1 h2
  rw [hexE_at]
  rw [tellE_at]
  rw [tellE_len] at h1
  have e:k*bitsL 72 / 8=k / 2:=by show k*4 / 8=k / 2;omega
  have e2:shiftL 72 k (bitsL 72)=4*(1-k % 2):=rfl
  rw [e,e2,List.getD_eq_getElem?_getD,List.getElem?_eq_getElem (by omega)]
  show hexD ((s[k / 2]).toNat / 2 ^ (4*(1-k % 2)) % 16)=_
  have hx:=(s[k / 2]).toNat_lt
  rcases Nat.mod_two_eq_zero_or_one k with h | h
  ·rw [h,if_pos rfl]
   show hexD ((s[k / 2]).toNat / 16 % 16)=_
   rw [Nat.mod_eq_of_lt (by omega)]
  ·rw [h,if_neg (by decide)]
   show hexD ((s[k / 2]).toNat / 1 % 16)=_
   rw [Nat.div_one]
end Go.Proofs.YtihdndaibmgoiaaGreatDoor.Pz
