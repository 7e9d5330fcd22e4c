/-
  Part K13 of the proofs of this seat, merged by a program out of 1 texts; remarks are struck.
-/
import Derived.Test.YtihdndaibmgoiaaGreatDoorK12
namespace Go.Proofs.YtihdndaibmgoiaaGreatDoor
open Go.RowKit
theorem Blk.four {w:World} {b:Nat} {x y z u:Value} {t:TypeId} (h:Blk w b #[x,y,z,u] t):w.cell? ⟨b,0,none⟩=some x∧w.cell? ⟨b,1,none⟩=some y∧w.cell? ⟨b,2,none⟩=some z∧w.cell? ⟨b,3,none⟩=some u:=
 ⟨h.cell 0,h.cell 1,h.cell 2,h.cell 3⟩
theorem DNum.rep {w:World} {g:Bool} {a:Option Addr} {n c:Nat} {z:Int} (h:DNum w (.agg #[.bool g,.slice a n c]) z):DecRep w (.slice a n c) z.natAbs:=by
 obtain ⟨s,he,hd⟩:=h
 simp only [Value.agg.injEq,Array.mk.injEq,List.cons.injEq,and_true] at he
 rw [he.2];exact hd
theorem Nums.mk2 {w:World} {b:Nat} {t:TypeId} {g1 g2:Bool} {s1 s2:Option Addr} {n1 n2 c1 c2:Nat} {x y:Int} (k:Blk w b #[.bool g1,.slice s1 n1 c1,.bool g2,.slice s2 n2 c2] t)
  (hx:DNum w (.agg #[.bool g1,.slice s1 n1 c1]) x) (hy:DNum w (.agg #[.bool g2,.slice s2 n2 c2]) y):Nums w (.slice (some ⟨b,0,none⟩) 2 2) [x,y]:=by
 obtain ⟨k1,k2,k3,k4⟩:=k.four
 obtain ⟨ex1,ex2⟩:=hx.parts
 obtain ⟨ey1,ey2⟩:=hy.parts
 subst ex1;subst ex2;subst ey1;subst ey2
 refine ⟨_,_,rfl,Nat.le_refl _,fun _=>⟨b,rfl,k.lt,fun i hi=>?_⟩⟩
 have:i=0∨i=1:=by simp at hi;omega
 rcases this with rfl | rfl
 ·exact ⟨s1,c1,k1,k2,hx.rep⟩
 ·exact ⟨s2,c2,k3,k4,hy.rep⟩
theorem Nums.mk1 {w:World} {b:Nat} {t:TypeId} {g1:Bool} {s1:Option Addr} {n1 c1:Nat} {x:Int} (k:Blk w b #[.bool g1,.slice s1 n1 c1] t)
  (hx:DNum w (.agg #[.bool g1,.slice s1 n1 c1]) x):Nums w (.slice (some ⟨b,0,none⟩) 1 1) [x]:=by
 obtain ⟨⟨k1,k2⟩,_⟩:=k.two
 obtain ⟨ex1,ex2⟩:=hx.parts
 subst ex1;subst ex2
 refine ⟨_,_,rfl,Nat.le_refl _,fun _=>⟨b,rfl,k.lt,fun i hi=>?_⟩⟩
 have:i=0:=by simp at hi;omega
 subst this
 exact ⟨s1,c1,k1,k2,hx.rep⟩
theorem anyBig_two {x' y' x y:Int} (hx:Cut x' x) (hy:Cut y' y):anyBig [x',y']=(decide (big600≤x.natAbs) || decide (big600≤y.natAbs)):=by
 unfold anyBig
 simp only [List.any_cons,List.any_nil,Bool.or_false]
 rw [hx.big,hy.big]
set_option maxRecDepth 100000 in
set_option maxHeartbeats 4000000 in
theorem short_fn {u:Value} {zs:List Int} {w:World} (hs:Nums w u zs) (hz:∀ x∈zs,dlen 10 x.natAbs≤10000000) (hn:zs.length≤100) :
  Calls Tryz.prog 60 #[u] w fun e w'=>e=.returned (.bool (!anyBig zs))∧Below w.heap.size w w':=by
 have hs0:=hs
 obtain ⟨su,cu,rfl,hcu,hcell⟩:=hs0
 have HZ:=hid hz
 have HC:=hid hcell
 clear hz hcell
 go_enter Tryz.func60,Tryz.ntmps60
 go_wp2
 go_loopw [7] (fun iv wr=>∃ k:Nat,iv=.int .i64 k∧k≤zs.length∧anyBig (zs.take k)=false∧Below w.heap.size w wr) (fun iv _=>zs.length-(intOf iv).toNat)
 case atStart=>exact ⟨0,rfl,Nat.zero_le _,rfl,Below.refl _ _⟩
 case round=>
  obtain ⟨k,rfl,hk,hany,hbr⟩:=hrel
  have HA:=hid hany
  clear hany
  by_cases hlt:k<zs.length
  ·obtain ⟨b,rfl,hbl,hc⟩:=HC.out (by omega)
   obtain ⟨s,c,c1,c2,c3⟩:=hc k hlt
   have c1:=(hbr.cell (p:=⟨b,k*2,none⟩) hbl).trans c1
   have c2:=(hbr.cell (p:=⟨b,k*2+1,none⟩) hbl).trans c2
   have e:zs.getD k 0=zs[k]:=by rw [List.getD_eq_getElem?_getD,List.getElem?_eq_getElem hlt];rfl
   have hdl:=HZ.out (zs[k]) (List.getElem_mem hlt)
   rw [e] at c1 c2 c3
   have HT:=hid (show anyBig (zs.take (k+1))=decide (big600≤(zs[k]).natAbs) by
    have h1:=HA.out
    unfold anyBig at h1 ⊢
    rw [List.take_add_one,List.getElem?_eq_getElem hlt,List.any_append,h1]
    simp)
   have hmono:anyBig (zs.take (k+1))=true→anyBig zs=true:=by
    unfold anyBig
    intro h
    rw [List.any_eq_true] at h ⊢
    obtain ⟨x,h1,h2⟩:=h
    exact ⟨x,List.mem_of_mem_take h1,h2⟩
   have HM:=hid hmono
   clear hmono e hc
   generalize zs[k]=y at *
   have hb1:Below wr.heap.size wr (wr.alloc (.cells #[.bool (decide (y<0)),.slice s (dlen 10 y.natAbs) c] 59)):=(Below.refl _ _).alloc (Nat.le_refl _) _
   have hD:DNum (wr.alloc (.cells #[.bool (decide (y<0)),.slice s (dlen 10 y.natAbs) c] 59)) (.agg #[.bool (decide (y<0)),.slice s (dlen 10 y.natAbs) c]) y:=⟨_,rfl,(c3.below hbr).below hb1⟩
   have HLC:=hid (long_fn hD (by omega))
   have hszr:=hbr.size
   go_wp2_with fail
   (with_reducible refine HLC.out.mono ?_);rintro e w2 ⟨rfl,hb2⟩
   have hb3:=hbr.trans ((hb1.mono hszr).trans (hb2.mono (Nat.le_trans hszr hb1.size)))
   by_cases hbig:big600≤y.natAbs
   ·have HR:=hid (HM.out (by rw [HT.out];exact decide_eq_true hbig))
    rw [decide_eq_true hbig]
    clear hbig
    go_wp2
    go_ret
    exact ⟨by rw [HR.out];rfl,hb3⟩
   ·have HF:=hid (show anyBig (zs.take (k+1))=false by rw [HT.out];exact decide_eq_false hbig)
    rw [decide_eq_false hbig]
    clear hbig
    go_wp2
    go_roundw
    case rel=>exact ⟨k+1,by go_num,by omega,HF.out,hb3⟩
    case measure=>simp [intOf]<;>omega
  ·obtain rfl:k=zs.length:=by omega
   have hany:=HA.out
   rw [List.take_length] at hany
   have HR:=hid hany
   clear hany
   go_wp2
   go_ret
   exact ⟨by rw [HR.out];rfl,hbr⟩
end Go.Proofs.YtihdndaibmgoiaaGreatDoor
