/-
  Part K11 of the proofs of this seat, merged by a program out of 5 texts; remarks are struck.
-/
import Derived.Test.YtbilphfbfnohmaaGreatDoorK9
namespace Go.Proofs.YtbilphfbfnohmaaGreatDoor.Pz
open Go.RowKit
theorem within_fn (n lo hi:Int) (w:World):Calls Tryz.prog 57 #[.int .i64 n,.int .i64 lo,.int .i64 hi] w fun e w'=>e=.returned (.bool (decide (lo≤n) && decide (n≤hi)))∧w'=w:=by
 by_cases h1:lo≤n
 ·have d1:decide (lo≤n)=true:=decide_eq_true h1
  by_cases h2:n≤hi
  ·have d2:decide (n≤hi)=true:=decide_eq_true h2
   go_enter Tryz.func57,Tryz.ntmps57
   go_wp2
   go_ret
   first | exact ⟨rfl,rfl⟩ | exact ⟨by rw [d1,d2];rfl,rfl⟩ | exact ⟨by simp,rfl⟩
  ·have d2:decide (n≤hi)=false:=decide_eq_false h2
   go_enter Tryz.func57,Tryz.ntmps57
   go_wp2
   go_ret
   first | exact ⟨rfl,rfl⟩ | exact ⟨by rw [d1,d2];rfl,rfl⟩ | exact ⟨by simp,rfl⟩
 ·have d1:decide (lo≤n)=false:=decide_eq_false h1
  go_enter Tryz.func57,Tryz.ntmps57
  go_wp2
  go_ret
  first | exact ⟨rfl,rfl⟩ | exact ⟨by rw [d1];rfl,rfl⟩ | exact ⟨by simp,rfl⟩
def padE (s:Str) (width:Int) (left:Bool) (x:UInt8):Str×Int:=
 if 0≤width∧width≤999 then (if left then (List.replicate (width-(s.length:Int)).toNat x++s,0) else (s++List.replicate (width-(s.length:Int)).toNat x,0)) else ([],7)
set_option maxRecDepth 100000 in
set_option maxHeartbeats 1000000 in
theorem padP_fn (s:Str) (hs:s.length≤100000) (width:Int) (left:Bool) (x:UInt8) (w:World) :
  Calls Tryz.prog 17 #[.string ⟨s.toArray⟩,.int .i64 width,.bool left,.int .u8 (x.toNat:Nat)] w fun e w'=>e=.returned (.tuple #[.string ⟨(padE s width left x).1.toArray⟩,.int .i64 (padE s width left x).2])∧Below w.heap.size w w':=by
 have hsz:(⟨s.toArray⟩:ByteArray).size=s.length:=Lib.size_mk _
 have HWI:=hid (within_fn width 0 999)
 by_cases h1:0≤width
 ·have d1:decide ((0:Int)≤width)=true:=decide_eq_true h1
  have n1:decide (width<(0:Int))=false:=decide_eq_false (by omega)
  by_cases h2:width≤999
  ·have d2:decide (width≤999)=true:=decide_eq_true h2
   have n2:decide ((999:Int)<width)=false:=decide_eq_false (by omega)
   obtain ⟨k,hk⟩:∃ k,k=(width-(s.length:Int)).toNat:=⟨_,rfl⟩
   have hk9:k≤999:=by omega
   have hmax:max (0:Int) (width-(s.length:Int))=(k:Nat):=by omega
   have hR:=hid (show padE s width left x=if left then (List.replicate k x++s,0) else (s++List.replicate k x,0) by rw [hk];exact if_pos ⟨h1,h2⟩)
   clear hk
   obtain ⟨w0,hw0⟩:∃ w0,w0=w.alloc (.cells #[.int .u8 (x.toNat:Nat)] 5):=⟨_,rfl⟩
   have hbw:Below w.heap.size w w0:=by rw [hw0];exact belowS _ _
   have HREP:=hid (repeat_fn x rfl k (by omega) w0)
   obtain ⟨f,hf⟩:∃ f,f=List.replicate k x:=⟨_,rfl⟩
   have hfl:f.length=k:=by rw [hf];simp
   rw [← hf] at HREP hR
   have hc1:=cat_run f s (by omega) (by omega)
   have hc2:=cat_run s f (by omega) (by omega)
   have hob:=one_back x w
   have HW0:=hid hw0
   have HBW:=hid hbw
   have HF:=hid hf
   clear hf hw0 hbw
   cases left with
   | true=>
    go_enter Tryz.func17,Tryz.ntmps17
    go_wp2_with ((with_reducible refine (HWI.out _).mono ?_);rintro e w1 ⟨rfl,rfl⟩)
    rw [← HW0.out]
    (with_reducible refine HREP.out.mono ?_);rintro e w2 ⟨rfl,hb2⟩
    have HB2:=hid (HBW.out.trans (hb2.mono HBW.out.size))
    clear hb2
    go_wp2
    go_ret2
    exact ⟨by rw [hR.out];rfl,HB2.out⟩
   | false=>
    go_enter Tryz.func17,Tryz.ntmps17
    go_wp2_with ((with_reducible refine (HWI.out _).mono ?_);rintro e w1 ⟨rfl,rfl⟩)
    rw [← HW0.out]
    (with_reducible refine HREP.out.mono ?_);rintro e w2 ⟨rfl,hb2⟩
    have HB2:=hid (HBW.out.trans (hb2.mono HBW.out.size))
    clear hb2
    go_wp2
    go_ret2
    exact ⟨by rw [hR.out];rfl,HB2.out⟩
  ·have d2:decide (width≤999)=false:=decide_eq_false h2
   have n2:decide ((999:Int)<width)=true:=decide_eq_true (by omega)
   have hR:=hid (show padE s width left x=([],7) from if_neg (by omega))
   go_enter Tryz.func17,Tryz.ntmps17
   go_wp2_with ((with_reducible refine (HWI.out _).mono ?_);rintro e w1 ⟨rfl,rfl⟩)
   go_ret2
   exact ⟨by rw [hR.out];rfl,Below.refl _ _⟩
 ·have d1:decide ((0:Int)≤width)=false:=decide_eq_false h1
  have n1:decide (width<(0:Int))=true:=decide_eq_true (by omega)
  have hR:=hid (show padE s width left x=([],7) from if_neg (by omega))
  go_enter Tryz.func17,Tryz.ntmps17
  go_wp2_with ((with_reducible refine (HWI.out _).mono ?_);rintro e w1 ⟨rfl,rfl⟩)
  go_ret2
  exact ⟨by rw [hR.out];rfl,Below.refl _ _⟩
set_option maxRecDepth 100000 in
set_option maxHeartbeats 1000000 in
theorem padR_fn (s:Str) (hs:s.length≤100000) (width:Int) (left:Bool) (x:UInt8) (w:World) :
  Calls Tryz.prog 18 #[.string ⟨s.toArray⟩,.int .i64 width,.bool left,.int .u8 (x.toNat:Nat)] w fun e w'=>e=.returned (.tuple #[.string ⟨(padE s width left x).1.toArray⟩,.int .i64 (padE s width left x).2])∧Below w.heap.size w w':=by
 have hsz:(⟨s.toArray⟩:ByteArray).size=s.length:=Lib.size_mk _
 by_cases h1:0≤width
 ·have d1:decide ((0:Int)≤width)=true:=decide_eq_true h1
  have n1:decide (width<(0:Int))=false:=decide_eq_false (by omega)
  by_cases h2:width≤999
  ·have d2:decide (width≤999)=true:=decide_eq_true h2
   have n2:decide ((999:Int)<width)=false:=decide_eq_false (by omega)
   obtain ⟨k,hk⟩:∃ k,k=(width-(s.length:Int)).toNat:=⟨_,rfl⟩
   have hk9:k≤999:=by omega
   have hmax:max (0:Int) (width-(s.length:Int))=(k:Nat):=by omega
   have hR:=hid (show padE s width left x=if left then (List.replicate k x++s,0) else (s++List.replicate k x,0) by rw [hk];exact if_pos ⟨h1,h2⟩)
   clear hk
   obtain ⟨w0,hw0⟩:∃ w0,w0=w.alloc (.cells #[.int .u8 (x.toNat:Nat)] 5):=⟨_,rfl⟩
   have hbw:Below w.heap.size w w0:=by rw [hw0];exact belowS _ _
   have HREP:=hid (repeat_fn x rfl k (by omega) w0)
   obtain ⟨f,hf⟩:∃ f,f=List.replicate k x:=⟨_,rfl⟩
   have hfl:f.length=k:=by rw [hf];simp
   rw [← hf] at HREP hR
   have hc1:=cat_run f s (by omega) (by omega)
   have hc2:=cat_run s f (by omega) (by omega)
   have hob:=one_back x w
   have HW0:=hid hw0
   have HBW:=hid hbw
   have HF:=hid hf
   clear hf hw0 hbw
   cases left with
   | true=>
    go_enter Tryz.func18,Tryz.ntmps18
    go_wp2_with fail
    rw [← HW0.out]
    (with_reducible refine HREP.out.mono ?_);rintro e w2 ⟨rfl,hb2⟩
    have HB2:=hid (HBW.out.trans (hb2.mono HBW.out.size))
    clear hb2
    go_wp2
    go_ret2
    exact ⟨by rw [hR.out];rfl,HB2.out⟩
   | false=>
    go_enter Tryz.func18,Tryz.ntmps18
    go_wp2_with fail
    rw [← HW0.out]
    (with_reducible refine HREP.out.mono ?_);rintro e w2 ⟨rfl,hb2⟩
    have HB2:=hid (HBW.out.trans (hb2.mono HBW.out.size))
    clear hb2
    go_wp2
    go_ret2
    exact ⟨by rw [hR.out];rfl,HB2.out⟩
  ·have d2:decide (width≤999)=false:=decide_eq_false h2
   have n2:decide ((999:Int)<width)=true:=decide_eq_true (by omega)
   have hR:=hid (show padE s width left x=([],7) from if_neg (by omega))
   go_enter Tryz.func18,Tryz.ntmps18
   go_wp2_with fail
   go_ret2
   exact ⟨by rw [hR.out];rfl,Below.refl _ _⟩
 ·have d1:decide ((0:Int)≤width)=false:=decide_eq_false h1
  have n1:decide (width<(0:Int))=true:=decide_eq_true (by omega)
  have hR:=hid (show padE s width left x=([],7) from if_neg (by omega))
  go_enter Tryz.func18,Tryz.ntmps18
  go_wp2_with fail
  go_ret2
  exact ⟨by rw [hR.out];rfl,Below.refl _ _⟩
end Go.Proofs.YtbilphfbfnohmaaGreatDoor.Pz
namespace Go.Proofs.YtbilphfbfnohmaaGreatDoor.Pz
open Go.RowKit
def letB (base:Int):Option UInt8:=if base=2 then some 98 else if base=8 then some 111 else if base=10 then some 100 else if base=16 then some 120 else none
def idxB (base:Int) (n:Nat):Int:=if base=2∧0<n then 0 else if base=8∧1<n then 1 else if base=10∧2<n then 2 else if base=16∧3<n then 3 else -1
def flN (plus pfx:Bool):Str:=(if plus then [43] else [])++(if pfx then [35] else [])
def numP (s:Str) (base digits:Int) (plus pfx:Bool):Str×Int:=
 match letB base with
 | none=>([],7)
 | some c=>if 0≤digits∧digits≤999 then (if (numberE (flN plus pfx) (-1) digits c s).2=11 then ([],2) else numberE (flN plus pfx) (-1) digits c s) else ([],7)
theorem Below.from_alloc {w w':World} {o:Obj} (h:Below (w.alloc o).heap.size (w.alloc o) w'):Below w.heap.size w w':=(belowS w o).trans (h.mono (by simp))
theorem calls_args {P:Program} {f:FuncId} {args args':Array Value} {w:World} {Q:Ending→World→Prop} (h:args=args') (hc:Calls P f args' w Q):Calls P f args w Q:=h ▸ hc
set_option maxRecDepth 1000000 in
set_option maxHeartbeats 4000000 in
theorem numberP_fn (s:Str) (hs:s.length≤1000000) (base digits:Int) (plus pfx:Bool) (w:World) :
    Calls Tryz.prog 19 #[.string ⟨s.toArray⟩,.int .i64 base,.int .i64 digits,.bool plus,.bool pfx] w fun e w'=>e=.returned (.tuple #[.string ⟨(numP s base digits plus pfx).1.toArray⟩,.int .i64 (numP s base digits plus pfx).2])∧Below w.heap.size w w':=by
  have HWI:=hid (within_fn digits 0 999)
  have hix0:∀ u:World,(Instr.index 101 (.agg #[.int .i64 2,.int .i64 8,.int .i64 10,.int .i64 16]) (.int .i64 0)).run Tryz.prog u=.ok (.int .i64 2) u:=fun u=>by kernel_rfl
  have hix1:∀ u:World,(Instr.index 101 (.agg #[.int .i64 2,.int .i64 8,.int .i64 10,.int .i64 16]) (.int .i64 1)).run Tryz.prog u=.ok (.int .i64 8) u:=fun u=>by kernel_rfl
  have hix2:∀ u:World,(Instr.index 101 (.agg #[.int .i64 2,.int .i64 8,.int .i64 10,.int .i64 16]) (.int .i64 2)).run Tryz.prog u=.ok (.int .i64 10) u:=fun u=>by kernel_rfl
  have hix3:∀ u:World,(Instr.index 101 (.agg #[.int .i64 2,.int .i64 8,.int .i64 10,.int .i64 16]) (.int .i64 3)).run Tryz.prog u=.ok (.int .i64 16) u:=fun u=>by kernel_rfl
  obtain ⟨R,hR⟩:∃ R,R=numP s base digits plus pfx:=⟨_,rfl⟩
  rw [← hR]
  have HR:=hid hR
  clear hR
  go_enter Tryz.func19,Tryz.ntmps19
  go_wp2_with fail
  go_loopg [12,13,14,19] 4 (fun k v12 v13 v14 v19 wr=>∃ n:Nat,k+n=4∧v12=.int .i64 (idxB base n)∧v19=.int .i64 (n:Nat)∧wr=w)
  case atStart=>exact ⟨0,rfl,by unfold idxB;simp,rfl,rfl⟩
  case round=>
    obtain ⟨n,hkn,rfl,rfl,rfl⟩:=hrel
    obtain ⟨I,hI⟩:∃ I,I=idxB base n:=⟨_,rfl⟩
    rw [← hI]
    have HI:=hid hI
    clear hI
    have hn:n=0∨n=1∨n=2∨n=3∨n=4:=by omega
    rcases hn with rfl | rfl | rfl | rfl | rfl
    · by_cases hb:base=2
      · have hbe:((2:Int) == base)=true:=by rw [hb];rfl
        have hbe2:(base == 2)=true:=by rw [hb];rfl
        have HB:=hid hb
        clear hb
        go_wp2
        go_roundg 3
        case measure=>omega
        case rel=>exact ⟨1,rfl,by rw [HB.out];rfl,rfl,rfl⟩
      · have hbe:((2:Int) == base)=false:=by rw [beq_eq_false_iff_ne];exact fun e=>hb e.symm
        have hbe2:(base == 2)=false:=by rw [beq_eq_false_iff_ne];exact hb
        have HB:=hid hb
        clear hb
        go_wp2
        go_roundg 3
        case measure=>omega
        case rel=>exact ⟨1,rfl,by rw [HI.out];unfold idxB;have:=HB.out;simp [this],rfl,rfl⟩
    · by_cases hb:base=8
      · have hbe:((8:Int) == base)=true:=by rw [hb];rfl
        have hbe2:(base == 8)=true:=by rw [hb];rfl
        have HB:=hid hb
        clear hb
        go_wp2
        go_roundg 2
        case measure=>omega
        case rel=>exact ⟨2,rfl,by rw [HB.out];rfl,rfl,rfl⟩
      · have hbe:((8:Int) == base)=false:=by rw [beq_eq_false_iff_ne];exact fun e=>hb e.symm
        have hbe2:(base == 8)=false:=by rw [beq_eq_false_iff_ne];exact hb
        have HB:=hid hb
        clear hb
        go_wp2
        go_roundg 2
        case measure=>omega
        case rel=>exact ⟨2,rfl,by rw [HI.out];unfold idxB;have:=HB.out;simp [this],rfl,rfl⟩
    · by_cases hb:base=10
      · have hbe:((10:Int) == base)=true:=by rw [hb];rfl
        have hbe2:(base == 10)=true:=by rw [hb];rfl
        have HB:=hid hb
        clear hb
        go_wp2
        go_roundg 1
        case measure=>omega
        case rel=>exact ⟨3,rfl,by rw [HB.out];rfl,rfl,rfl⟩
      · have hbe:((10:Int) == base)=false:=by rw [beq_eq_false_iff_ne];exact fun e=>hb e.symm
        have hbe2:(base == 10)=false:=by rw [beq_eq_false_iff_ne];exact hb
        have HB:=hid hb
        clear hb
        go_wp2
        go_roundg 1
        case measure=>omega
        case rel=>exact ⟨3,rfl,by rw [HI.out];unfold idxB;have:=HB.out;simp [this],rfl,rfl⟩
    · by_cases hb:base=16
      · have hbe:((16:Int) == base)=true:=by rw [hb];rfl
        have hbe2:(base == 16)=true:=by rw [hb];rfl
        have HB:=hid hb
        clear hb
        go_wp2
        go_roundg 0
        case measure=>omega
        case rel=>exact ⟨4,rfl,by rw [HB.out];rfl,rfl,rfl⟩
      · have hbe:((16:Int) == base)=false:=by rw [beq_eq_false_iff_ne];exact fun e=>hb e.symm
        have hbe2:(base == 16)=false:=by rw [beq_eq_false_iff_ne];exact hb
        have HB:=hid hb
        clear hb
        go_wp2
        go_roundg 0
        case measure=>omega
        case rel=>exact ⟨4,rfl,by rw [HI.out];unfold idxB;have:=HB.out;simp [this],rfl,rfl⟩
    · have HK:=hid hkn
      clear hkn
      by_cases hd:0≤digits∧digits≤999
      · have d1:decide ((0:Int)≤digits)=true:=decide_eq_true hd.1
        have d2:decide (digits≤999)=true:=decide_eq_true hd.2
        have HWI2:=hid (show ∀ u,Calls Tryz.prog 57 #[.int .i64 digits,.int .i64 0,.int .i64 999] u fun e w'=>e=.returned (.bool true)∧w'=u from fun u=>by have h:=HWI.out u;rw [d1,d2] at h;exact h)
        obtain ⟨hd1,hd2⟩:=hd
        have HD:=hid (And.intro hd1 hd2)
        clear HWI d1 d2 hd1 hd2
        by_cases b1:base=2
        · subst b1
          have hI1:I=0:=by rw [HI.out];rfl
          subst hI1
          clear HI
          cases plus with
          | true=>
            cases pfx with
            | true=>
              have HN:=hid (show ∀ u,Calls Tryz.prog 59 #[.agg #[.int .i64 0,.string ⟨#[]⟩,.int .i64 0,.string ⟨#[43,35]⟩,.int .i64 (-1),.int .i64 digits,.bool false,.bool false,.int .u8 98,.bool false,.string ⟨#[]⟩],.string ⟨s.toArray⟩] u fun e w'=>e=.returned (.tuple #[.string ⟨(numberE [43,35] (-1) digits 98 s).1.toArray⟩,.int .i64 (numberE [43,35] (-1) digits 98 s).2])∧Below u.heap.size u w' from fun u=>cnumber_fn (A:=0) (tx:=[]) (fl:=[43,35]) (wd:=-1) (pr:=digits) (c:=98) s hs (by have:=HD.out.1;omega) (by have:=HD.out.2;omega) (by decide) (by decide) u)
              have HR2:=hid (show R=if (numberE [43,35] (-1) digits 98 s).2=11 then ([],2) else numberE [43,35] (-1) digits 98 s by rw [HR.out];unfold numP;exact if_pos ⟨HD.out.1,HD.out.2⟩)
              clear HR
              obtain ⟨t,z,htz⟩:∃ t z,numberE [43,35] (-1) digits 98 s=(t,z):=⟨_,_,rfl⟩
              rw [htz] at HN HR2
              clear htz
              go_wp2_with (first|((with_reducible refine (HWI2.out _).mono ?_);rintro e w1 ⟨rfl,h1⟩;subst h1))
              refine calls_args (args':=#[.agg #[.int .i64 0,.string ⟨#[]⟩,.int .i64 0,.string ⟨#[43,35]⟩,.int .i64 (-1),.int .i64 digits,.bool false,.bool false,.int .u8 98,.bool false,.string ⟨#[]⟩],.string ⟨s.toArray⟩]) (by kernel_rfl) ?_
              (with_reducible refine (HN.out _).mono ?_);rintro e w2 ⟨rfl,hb2⟩
              have HB2:=hid (Below.from_alloc hb2)
              clear hb2
              by_cases hz:z=11
              · subst hz
                go_wp2
                go_ret2
                exact ⟨by rw [HR2.out];rfl,HB2.out⟩
              · have hz9:(z == 11)=false:=by rw [beq_eq_false_iff_ne];exact hz
                have HZ:=hid hz
                clear hz
                go_wp2
                go_ret2
                exact ⟨by rw [HR2.out,if_neg HZ.out];rfl,HB2.out⟩
            | false=>
              have HN:=hid (show ∀ u,Calls Tryz.prog 59 #[.agg #[.int .i64 0,.string ⟨#[]⟩,.int .i64 0,.string ⟨#[43]⟩,.int .i64 (-1),.int .i64 digits,.bool false,.bool false,.int .u8 98,.bool false,.string ⟨#[]⟩],.string ⟨s.toArray⟩] u fun e w'=>e=.returned (.tuple #[.string ⟨(numberE [43] (-1) digits 98 s).1.toArray⟩,.int .i64 (numberE [43] (-1) digits 98 s).2])∧Below u.heap.size u w' from fun u=>cnumber_fn (A:=0) (tx:=[]) (fl:=[43]) (wd:=-1) (pr:=digits) (c:=98) s hs (by have:=HD.out.1;omega) (by have:=HD.out.2;omega) (by decide) (by decide) u)
              have HR2:=hid (show R=if (numberE [43] (-1) digits 98 s).2=11 then ([],2) else numberE [43] (-1) digits 98 s by rw [HR.out];unfold numP;exact if_pos ⟨HD.out.1,HD.out.2⟩)
              clear HR
              obtain ⟨t,z,htz⟩:∃ t z,numberE [43] (-1) digits 98 s=(t,z):=⟨_,_,rfl⟩
              rw [htz] at HN HR2
              clear htz
              go_wp2_with (first|((with_reducible refine (HWI2.out _).mono ?_);rintro e w1 ⟨rfl,h1⟩;subst h1))
              refine calls_args (args':=#[.agg #[.int .i64 0,.string ⟨#[]⟩,.int .i64 0,.string ⟨#[43]⟩,.int .i64 (-1),.int .i64 digits,.bool false,.bool false,.int .u8 98,.bool false,.string ⟨#[]⟩],.string ⟨s.toArray⟩]) (by kernel_rfl) ?_
              (with_reducible refine (HN.out _).mono ?_);rintro e w2 ⟨rfl,hb2⟩
              have HB2:=hid (Below.from_alloc hb2)
              clear hb2
              by_cases hz:z=11
              · subst hz
                go_wp2
                go_ret2
                exact ⟨by rw [HR2.out];rfl,HB2.out⟩
              · have hz9:(z == 11)=false:=by rw [beq_eq_false_iff_ne];exact hz
                have HZ:=hid hz
                clear hz
                go_wp2
                go_ret2
                exact ⟨by rw [HR2.out,if_neg HZ.out];rfl,HB2.out⟩
          | false=>
            cases pfx with
            | true=>
              have HN:=hid (show ∀ u,Calls Tryz.prog 59 #[.agg #[.int .i64 0,.string ⟨#[]⟩,.int .i64 0,.string ⟨#[35]⟩,.int .i64 (-1),.int .i64 digits,.bool false,.bool false,.int .u8 98,.bool false,.string ⟨#[]⟩],.string ⟨s.toArray⟩] u fun e w'=>e=.returned (.tuple #[.string ⟨(numberE [35] (-1) digits 98 s).1.toArray⟩,.int .i64 (numberE [35] (-1) digits 98 s).2])∧Below u.heap.size u w' from fun u=>cnumber_fn (A:=0) (tx:=[]) (fl:=[35]) (wd:=-1) (pr:=digits) (c:=98) s hs (by have:=HD.out.1;omega) (by have:=HD.out.2;omega) (by decide) (by decide) u)
              have HR2:=hid (show R=if (numberE [35] (-1) digits 98 s).2=11 then ([],2) else numberE [35] (-1) digits 98 s by rw [HR.out];unfold numP;exact if_pos ⟨HD.out.1,HD.out.2⟩)
              clear HR
              obtain ⟨t,z,htz⟩:∃ t z,numberE [35] (-1) digits 98 s=(t,z):=⟨_,_,rfl⟩
              rw [htz] at HN HR2
              clear htz
              go_wp2_with (first|((with_reducible refine (HWI2.out _).mono ?_);rintro e w1 ⟨rfl,h1⟩;subst h1))
              refine calls_args (args':=#[.agg #[.int .i64 0,.string ⟨#[]⟩,.int .i64 0,.string ⟨#[35]⟩,.int .i64 (-1),.int .i64 digits,.bool false,.bool false,.int .u8 98,.bool false,.string ⟨#[]⟩],.string ⟨s.toArray⟩]) (by kernel_rfl) ?_
              (with_reducible refine (HN.out _).mono ?_);rintro e w2 ⟨rfl,hb2⟩
              have HB2:=hid (Below.from_alloc hb2)
              clear hb2
              by_cases hz:z=11
              · subst hz
                go_wp2
                go_ret2
                exact ⟨by rw [HR2.out];rfl,HB2.out⟩
              · have hz9:(z == 11)=false:=by rw [beq_eq_false_iff_ne];exact hz
                have HZ:=hid hz
                clear hz
                go_wp2
                go_ret2
                exact ⟨by rw [HR2.out,if_neg HZ.out];rfl,HB2.out⟩
            | false=>
              have HN:=hid (show ∀ u,Calls Tryz.prog 59 #[.agg #[.int .i64 0,.string ⟨#[]⟩,.int .i64 0,.string ⟨#[]⟩,.int .i64 (-1),.int .i64 digits,.bool false,.bool false,.int .u8 98,.bool false,.string ⟨#[]⟩],.string ⟨s.toArray⟩] u fun e w'=>e=.returned (.tuple #[.string ⟨(numberE [] (-1) digits 98 s).1.toArray⟩,.int .i64 (numberE [] (-1) digits 98 s).2])∧Below u.heap.size u w' from fun u=>cnumber_fn (A:=0) (tx:=[]) (fl:=[]) (wd:=-1) (pr:=digits) (c:=98) s hs (by have:=HD.out.1;omega) (by have:=HD.out.2;omega) (by decide) (by decide) u)
              have HR2:=hid (show R=if (numberE [] (-1) digits 98 s).2=11 then ([],2) else numberE [] (-1) digits 98 s by rw [HR.out];unfold numP;exact if_pos ⟨HD.out.1,HD.out.2⟩)
              clear HR
              obtain ⟨t,z,htz⟩:∃ t z,numberE [] (-1) digits 98 s=(t,z):=⟨_,_,rfl⟩
              rw [htz] at HN HR2
              clear htz
              go_wp2_with (first|((with_reducible refine (HWI2.out _).mono ?_);rintro e w1 ⟨rfl,h1⟩;subst h1))
              refine calls_args (args':=#[.agg #[.int .i64 0,.string ⟨#[]⟩,.int .i64 0,.string ⟨#[]⟩,.int .i64 (-1),.int .i64 digits,.bool false,.bool false,.int .u8 98,.bool false,.string ⟨#[]⟩],.string ⟨s.toArray⟩]) (by kernel_rfl) ?_
              (with_reducible refine (HN.out _).mono ?_);rintro e w2 ⟨rfl,hb2⟩
              have HB2:=hid (Below.from_alloc hb2)
              clear hb2
              by_cases hz:z=11
              · subst hz
                go_wp2
                go_ret2
                exact ⟨by rw [HR2.out];rfl,HB2.out⟩
              · have hz9:(z == 11)=false:=by rw [beq_eq_false_iff_ne];exact hz
                have HZ:=hid hz
                clear hz
                go_wp2
                go_ret2
                exact ⟨by rw [HR2.out,if_neg HZ.out];rfl,HB2.out⟩
        by_cases b2:base=8
        · subst b2
          have hI1:I=1:=by rw [HI.out];rfl
          subst hI1
          clear HI
          cases plus with
          | true=>
            cases pfx with
            | true=>
              have HN:=hid (show ∀ u,Calls Tryz.prog 59 #[.agg #[.int .i64 0,.string ⟨#[]⟩,.int .i64 0,.string ⟨#[43,35]⟩,.int .i64 (-1),.int .i64 digits,.bool false,.bool false,.int .u8 111,.bool false,.string ⟨#[]⟩],.string ⟨s.toArray⟩] u fun e w'=>e=.returned (.tuple #[.string ⟨(numberE [43,35] (-1) digits 111 s).1.toArray⟩,.int .i64 (numberE [43,35] (-1) digits 111 s).2])∧Below u.heap.size u w' from fun u=>cnumber_fn (A:=0) (tx:=[]) (fl:=[43,35]) (wd:=-1) (pr:=digits) (c:=111) s hs (by have:=HD.out.1;omega) (by have:=HD.out.2;omega) (by decide) (by decide) u)
              have HR2:=hid (show R=if (numberE [43,35] (-1) digits 111 s).2=11 then ([],2) else numberE [43,35] (-1) digits 111 s by rw [HR.out];unfold numP;exact if_pos ⟨HD.out.1,HD.out.2⟩)
              clear HR
              obtain ⟨t,z,htz⟩:∃ t z,numberE [43,35] (-1) digits 111 s=(t,z):=⟨_,_,rfl⟩
              rw [htz] at HN HR2
              clear htz
              go_wp2_with (first|((with_reducible refine (HWI2.out _).mono ?_);rintro e w1 ⟨rfl,h1⟩;subst h1))
              refine calls_args (args':=#[.agg #[.int .i64 0,.string ⟨#[]⟩,.int .i64 0,.string ⟨#[43,35]⟩,.int .i64 (-1),.int .i64 digits,.bool false,.bool false,.int .u8 111,.bool false,.string ⟨#[]⟩],.string ⟨s.toArray⟩]) (by kernel_rfl) ?_
              (with_reducible refine (HN.out _).mono ?_);rintro e w2 ⟨rfl,hb2⟩
              have HB2:=hid (Below.from_alloc hb2)
              clear hb2
              by_cases hz:z=11
              · subst hz
                go_wp2
                go_ret2
                exact ⟨by rw [HR2.out];rfl,HB2.out⟩
              · have hz9:(z == 11)=false:=by rw [beq_eq_false_iff_ne];exact hz
                have HZ:=hid hz
                clear hz
                go_wp2
                go_ret2
                exact ⟨by rw [HR2.out,if_neg HZ.out];rfl,HB2.out⟩
            | false=>
              have HN:=hid (show ∀ u,Calls Tryz.prog 59 #[.agg #[.int .i64 0,.string ⟨#[]⟩,.int .i64 0,.string ⟨#[43]⟩,.int .i64 (-1),.int .i64 digits,.bool false,.bool false,.int .u8 111,.bool false,.string ⟨#[]⟩],.string ⟨s.toArray⟩] u fun e w'=>e=.returned (.tuple #[.string ⟨(numberE [43] (-1) digits 111 s).1.toArray⟩,.int .i64 (numberE [43] (-1) digits 111 s).2])∧Below u.heap.size u w' from fun u=>cnumber_fn (A:=0) (tx:=[]) (fl:=[43]) (wd:=-1) (pr:=digits) (c:=111) s hs (by have:=HD.out.1;omega) (by have:=HD.out.2;omega) (by decide) (by decide) u)
              have HR2:=hid (show R=if (numberE [43] (-1) digits 111 s).2=11 then ([],2) else numberE [43] (-1) digits 111 s by rw [HR.out];unfold numP;exact if_pos ⟨HD.out.1,HD.out.2⟩)
              clear HR
              obtain ⟨t,z,htz⟩:∃ t z,numberE [43] (-1) digits 111 s=(t,z):=⟨_,_,rfl⟩
              rw [htz] at HN HR2
              clear htz
              go_wp2_with (first|((with_reducible refine (HWI2.out _).mono ?_);rintro e w1 ⟨rfl,h1⟩;subst h1))
              refine calls_args (args':=#[.agg #[.int .i64 0,.string ⟨#[]⟩,.int .i64 0,.string ⟨#[43]⟩,.int .i64 (-1),.int .i64 digits,.bool false,.bool false,.int .u8 111,.bool false,.string ⟨#[]⟩],.string ⟨s.toArray⟩]) (by kernel_rfl) ?_
              (with_reducible refine (HN.out _).mono ?_);rintro e w2 ⟨rfl,hb2⟩
              have HB2:=hid (Below.from_alloc hb2)
              clear hb2
              by_cases hz:z=11
              · subst hz
                go_wp2
                go_ret2
                exact ⟨by rw [HR2.out];rfl,HB2.out⟩
              · have hz9:(z == 11)=false:=by rw [beq_eq_false_iff_ne];exact hz
                have HZ:=hid hz
                clear hz
                go_wp2
                go_ret2
                exact ⟨by rw [HR2.out,if_neg HZ.out];rfl,HB2.out⟩
          | false=>
            cases pfx with
            | true=>
              have HN:=hid (show ∀ u,Calls Tryz.prog 59 #[.agg #[.int .i64 0,.string ⟨#[]⟩,.int .i64 0,.string ⟨#[35]⟩,.int .i64 (-1),.int .i64 digits,.bool false,.bool false,.int .u8 111,.bool false,.string ⟨#[]⟩],.string ⟨s.toArray⟩] u fun e w'=>e=.returned (.tuple #[.string ⟨(numberE [35] (-1) digits 111 s).1.toArray⟩,.int .i64 (numberE [35] (-1) digits 111 s).2])∧Below u.heap.size u w' from fun u=>cnumber_fn (A:=0) (tx:=[]) (fl:=[35]) (wd:=-1) (pr:=digits) (c:=111) s hs (by have:=HD.out.1;omega) (by have:=HD.out.2;omega) (by decide) (by decide) u)
              have HR2:=hid (show R=if (numberE [35] (-1) digits 111 s).2=11 then ([],2) else numberE [35] (-1) digits 111 s by rw [HR.out];unfold numP;exact if_pos ⟨HD.out.1,HD.out.2⟩)
              clear HR
              obtain ⟨t,z,htz⟩:∃ t z,numberE [35] (-1) digits 111 s=(t,z):=⟨_,_,rfl⟩
              rw [htz] at HN HR2
              clear htz
              go_wp2_with (first|((with_reducible refine (HWI2.out _).mono ?_);rintro e w1 ⟨rfl,h1⟩;subst h1))
              refine calls_args (args':=#[.agg #[.int .i64 0,.string ⟨#[]⟩,.int .i64 0,.string ⟨#[35]⟩,.int .i64 (-1),.int .i64 digits,.bool false,.bool false,.int .u8 111,.bool false,.string ⟨#[]⟩],.string ⟨s.toArray⟩]) (by kernel_rfl) ?_
              (with_reducible refine (HN.out _).mono ?_);rintro e w2 ⟨rfl,hb2⟩
              have HB2:=hid (Below.from_alloc hb2)
              clear hb2
              by_cases hz:z=11
              · subst hz
                go_wp2
                go_ret2
                exact ⟨by rw [HR2.out];rfl,HB2.out⟩
              · have hz9:(z == 11)=false:=by rw [beq_eq_false_iff_ne];exact hz
                have HZ:=hid hz
                clear hz
                go_wp2
                go_ret2
                exact ⟨by rw [HR2.out,if_neg HZ.out];rfl,HB2.out⟩
            | false=>
              have HN:=hid (show ∀ u,Calls Tryz.prog 59 #[.agg #[.int .i64 0,.string ⟨#[]⟩,.int .i64 0,.string ⟨#[]⟩,.int .i64 (-1),.int .i64 digits,.bool false,.bool false,.int .u8 111,.bool false,.string ⟨#[]⟩],.string ⟨s.toArray⟩] u fun e w'=>e=.returned (.tuple #[.string ⟨(numberE [] (-1) digits 111 s).1.toArray⟩,.int .i64 (numberE [] (-1) digits 111 s).2])∧Below u.heap.size u w' from fun u=>cnumber_fn (A:=0) (tx:=[]) (fl:=[]) (wd:=-1) (pr:=digits) (c:=111) s hs (by have:=HD.out.1;omega) (by have:=HD.out.2;omega) (by decide) (by decide) u)
              have HR2:=hid (show R=if (numberE [] (-1) digits 111 s).2=11 then ([],2) else numberE [] (-1) digits 111 s by rw [HR.out];unfold numP;exact if_pos ⟨HD.out.1,HD.out.2⟩)
              clear HR
              obtain ⟨t,z,htz⟩:∃ t z,numberE [] (-1) digits 111 s=(t,z):=⟨_,_,rfl⟩
              rw [htz] at HN HR2
              clear htz
              go_wp2_with (first|((with_reducible refine (HWI2.out _).mono ?_);rintro e w1 ⟨rfl,h1⟩;subst h1))
              refine calls_args (args':=#[.agg #[.int .i64 0,.string ⟨#[]⟩,.int .i64 0,.string ⟨#[]⟩,.int .i64 (-1),.int .i64 digits,.bool false,.bool false,.int .u8 111,.bool false,.string ⟨#[]⟩],.string ⟨s.toArray⟩]) (by kernel_rfl) ?_
              (with_reducible refine (HN.out _).mono ?_);rintro e w2 ⟨rfl,hb2⟩
              have HB2:=hid (Below.from_alloc hb2)
              clear hb2
              by_cases hz:z=11
              · subst hz
                go_wp2
                go_ret2
                exact ⟨by rw [HR2.out];rfl,HB2.out⟩
              · have hz9:(z == 11)=false:=by rw [beq_eq_false_iff_ne];exact hz
                have HZ:=hid hz
                clear hz
                go_wp2
                go_ret2
                exact ⟨by rw [HR2.out,if_neg HZ.out];rfl,HB2.out⟩
        by_cases b3:base=10
        · subst b3
          have hI1:I=2:=by rw [HI.out];rfl
          subst hI1
          clear HI
          cases plus with
          | true=>
            cases pfx with
            | true=>
              have HN:=hid (show ∀ u,Calls Tryz.prog 59 #[.agg #[.int .i64 0,.string ⟨#[]⟩,.int .i64 0,.string ⟨#[43,35]⟩,.int .i64 (-1),.int .i64 digits,.bool false,.bool false,.int .u8 100,.bool false,.string ⟨#[]⟩],.string ⟨s.toArray⟩] u fun e w'=>e=.returned (.tuple #[.string ⟨(numberE [43,35] (-1) digits 100 s).1.toArray⟩,.int .i64 (numberE [43,35] (-1) digits 100 s).2])∧Below u.heap.size u w' from fun u=>cnumber_fn (A:=0) (tx:=[]) (fl:=[43,35]) (wd:=-1) (pr:=digits) (c:=100) s hs (by have:=HD.out.1;omega) (by have:=HD.out.2;omega) (by decide) (by decide) u)
              have HR2:=hid (show R=if (numberE [43,35] (-1) digits 100 s).2=11 then ([],2) else numberE [43,35] (-1) digits 100 s by rw [HR.out];unfold numP;exact if_pos ⟨HD.out.1,HD.out.2⟩)
              clear HR
              obtain ⟨t,z,htz⟩:∃ t z,numberE [43,35] (-1) digits 100 s=(t,z):=⟨_,_,rfl⟩
              rw [htz] at HN HR2
              clear htz
              go_wp2_with (first|((with_reducible refine (HWI2.out _).mono ?_);rintro e w1 ⟨rfl,h1⟩;subst h1))
              refine calls_args (args':=#[.agg #[.int .i64 0,.string ⟨#[]⟩,.int .i64 0,.string ⟨#[43,35]⟩,.int .i64 (-1),.int .i64 digits,.bool false,.bool false,.int .u8 100,.bool false,.string ⟨#[]⟩],.string ⟨s.toArray⟩]) (by kernel_rfl) ?_
              (with_reducible refine (HN.out _).mono ?_);rintro e w2 ⟨rfl,hb2⟩
              have HB2:=hid (Below.from_alloc hb2)
              clear hb2
              by_cases hz:z=11
              · subst hz
                go_wp2
                go_ret2
                exact ⟨by rw [HR2.out];rfl,HB2.out⟩
              · have hz9:(z == 11)=false:=by rw [beq_eq_false_iff_ne];exact hz
                have HZ:=hid hz
                clear hz
                go_wp2
                go_ret2
                exact ⟨by rw [HR2.out,if_neg HZ.out];rfl,HB2.out⟩
            | false=>
              have HN:=hid (show ∀ u,Calls Tryz.prog 59 #[.agg #[.int .i64 0,.string ⟨#[]⟩,.int .i64 0,.string ⟨#[43]⟩,.int .i64 (-1),.int .i64 digits,.bool false,.bool false,.int .u8 100,.bool false,.string ⟨#[]⟩],.string ⟨s.toArray⟩] u fun e w'=>e=.returned (.tuple #[.string ⟨(numberE [43] (-1) digits 100 s).1.toArray⟩,.int .i64 (numberE [43] (-1) digits 100 s).2])∧Below u.heap.size u w' from fun u=>cnumber_fn (A:=0) (tx:=[]) (fl:=[43]) (wd:=-1) (pr:=digits) (c:=100) s hs (by have:=HD.out.1;omega) (by have:=HD.out.2;omega) (by decide) (by decide) u)
              have HR2:=hid (show R=if (numberE [43] (-1) digits 100 s).2=11 then ([],2) else numberE [43] (-1) digits 100 s by rw [HR.out];unfold numP;exact if_pos ⟨HD.out.1,HD.out.2⟩)
              clear HR
              obtain ⟨t,z,htz⟩:∃ t z,numberE [43] (-1) digits 100 s=(t,z):=⟨_,_,rfl⟩
              rw [htz] at HN HR2
              clear htz
              go_wp2_with (first|((with_reducible refine (HWI2.out _).mono ?_);rintro e w1 ⟨rfl,h1⟩;subst h1))
              refine calls_args (args':=#[.agg #[.int .i64 0,.string ⟨#[]⟩,.int .i64 0,.string ⟨#[43]⟩,.int .i64 (-1),.int .i64 digits,.bool false,.bool false,.int .u8 100,.bool false,.string ⟨#[]⟩],.string ⟨s.toArray⟩]) (by kernel_rfl) ?_
              (with_reducible refine (HN.out _).mono ?_);rintro e w2 ⟨rfl,hb2⟩
              have HB2:=hid (Below.from_alloc hb2)
              clear hb2
              by_cases hz:z=11
              · subst hz
                go_wp2
                go_ret2
                exact ⟨by rw [HR2.out];rfl,HB2.out⟩
              · have hz9:(z == 11)=false:=by rw [beq_eq_false_iff_ne];exact hz
                have HZ:=hid hz
                clear hz
                go_wp2
                go_ret2
                exact ⟨by rw [HR2.out,if_neg HZ.out];rfl,HB2.out⟩
          | false=>
            cases pfx with
            | true=>
              have HN:=hid (show ∀ u,Calls Tryz.prog 59 #[.agg #[.int .i64 0,.string ⟨#[]⟩,.int .i64 0,.string ⟨#[35]⟩,.int .i64 (-1),.int .i64 digits,.bool false,.bool false,.int .u8 100,.bool false,.string ⟨#[]⟩],.string ⟨s.toArray⟩] u fun e w'=>e=.returned (.tuple #[.string ⟨(numberE [35] (-1) digits 100 s).1.toArray⟩,.int .i64 (numberE [35] (-1) digits 100 s).2])∧Below u.heap.size u w' from fun u=>cnumber_fn (A:=0) (tx:=[]) (fl:=[35]) (wd:=-1) (pr:=digits) (c:=100) s hs (by have:=HD.out.1;omega) (by have:=HD.out.2;omega) (by decide) (by decide) u)
              have HR2:=hid (show R=if (numberE [35] (-1) digits 100 s).2=11 then ([],2) else numberE [35] (-1) digits 100 s by rw [HR.out];unfold numP;exact if_pos ⟨HD.out.1,HD.out.2⟩)
              clear HR
              obtain ⟨t,z,htz⟩:∃ t z,numberE [35] (-1) digits 100 s=(t,z):=⟨_,_,rfl⟩
              rw [htz] at HN HR2
              clear htz
              go_wp2_with (first|((with_reducible refine (HWI2.out _).mono ?_);rintro e w1 ⟨rfl,h1⟩;subst h1))
              refine calls_args (args':=#[.agg #[.int .i64 0,.string ⟨#[]⟩,.int .i64 0,.string ⟨#[35]⟩,.int .i64 (-1),.int .i64 digits,.bool false,.bool false,.int .u8 100,.bool false,.string ⟨#[]⟩],.string ⟨s.toArray⟩]) (by kernel_rfl) ?_
              (with_reducible refine (HN.out _).mono ?_);rintro e w2 ⟨rfl,hb2⟩
              have HB2:=hid (Below.from_alloc hb2)
              clear hb2
              by_cases hz:z=11
              · subst hz
                go_wp2
                go_ret2
                exact ⟨by rw [HR2.out];rfl,HB2.out⟩
              · have hz9:(z == 11)=false:=by rw [beq_eq_false_iff_ne];exact hz
                have HZ:=hid hz
                clear hz
                go_wp2
                go_ret2
                exact ⟨by rw [HR2.out,if_neg HZ.out];rfl,HB2.out⟩
            | false=>
              have HN:=hid (show ∀ u,Calls Tryz.prog 59 #[.agg #[.int .i64 0,.string ⟨#[]⟩,.int .i64 0,.string ⟨#[]⟩,.int .i64 (-1),.int .i64 digits,.bool false,.bool false,.int .u8 100,.bool false,.string ⟨#[]⟩],.string ⟨s.toArray⟩] u fun e w'=>e=.returned (.tuple #[.string ⟨(numberE [] (-1) digits 100 s).1.toArray⟩,.int .i64 (numberE [] (-1) digits 100 s).2])∧Below u.heap.size u w' from fun u=>cnumber_fn (A:=0) (tx:=[]) (fl:=[]) (wd:=-1) (pr:=digits) (c:=100) s hs (by have:=HD.out.1;omega) (by have:=HD.out.2;omega) (by decide) (by decide) u)
              have HR2:=hid (show R=if (numberE [] (-1) digits 100 s).2=11 then ([],2) else numberE [] (-1) digits 100 s by rw [HR.out];unfold numP;exact if_pos ⟨HD.out.1,HD.out.2⟩)
              clear HR
              obtain ⟨t,z,htz⟩:∃ t z,numberE [] (-1) digits 100 s=(t,z):=⟨_,_,rfl⟩
              rw [htz] at HN HR2
              clear htz
              go_wp2_with (first|((with_reducible refine (HWI2.out _).mono ?_);rintro e w1 ⟨rfl,h1⟩;subst h1))
              refine calls_args (args':=#[.agg #[.int .i64 0,.string ⟨#[]⟩,.int .i64 0,.string ⟨#[]⟩,.int .i64 (-1),.int .i64 digits,.bool false,.bool false,.int .u8 100,.bool false,.string ⟨#[]⟩],.string ⟨s.toArray⟩]) (by kernel_rfl) ?_
              (with_reducible refine (HN.out _).mono ?_);rintro e w2 ⟨rfl,hb2⟩
              have HB2:=hid (Below.from_alloc hb2)
              clear hb2
              by_cases hz:z=11
              · subst hz
                go_wp2
                go_ret2
                exact ⟨by rw [HR2.out];rfl,HB2.out⟩
              · have hz9:(z == 11)=false:=by rw [beq_eq_false_iff_ne];exact hz
                have HZ:=hid hz
                clear hz
                go_wp2
                go_ret2
                exact ⟨by rw [HR2.out,if_neg HZ.out];rfl,HB2.out⟩
        by_cases b4:base=16
        · subst b4
          have hI1:I=3:=by rw [HI.out];rfl
          subst hI1
          clear HI
          cases plus with
          | true=>
            cases pfx with
            | true=>
              have HN:=hid (show ∀ u,Calls Tryz.prog 59 #[.agg #[.int .i64 0,.string ⟨#[]⟩,.int .i64 0,.string ⟨#[43,35]⟩,.int .i64 (-1),.int .i64 digits,.bool false,.bool false,.int .u8 120,.bool false,.string ⟨#[]⟩],.string ⟨s.toArray⟩] u fun e w'=>e=.returned (.tuple #[.string ⟨(numberE [43,35] (-1) digits 120 s).1.toArray⟩,.int .i64 (numberE [43,35] (-1) digits 120 s).2])∧Below u.heap.size u w' from fun u=>cnumber_fn (A:=0) (tx:=[]) (fl:=[43,35]) (wd:=-1) (pr:=digits) (c:=120) s hs (by have:=HD.out.1;omega) (by have:=HD.out.2;omega) (by decide) (by decide) u)
              have HR2:=hid (show R=if (numberE [43,35] (-1) digits 120 s).2=11 then ([],2) else numberE [43,35] (-1) digits 120 s by rw [HR.out];unfold numP;exact if_pos ⟨HD.out.1,HD.out.2⟩)
              clear HR
              obtain ⟨t,z,htz⟩:∃ t z,numberE [43,35] (-1) digits 120 s=(t,z):=⟨_,_,rfl⟩
              rw [htz] at HN HR2
              clear htz
              go_wp2_with (first|((with_reducible refine (HWI2.out _).mono ?_);rintro e w1 ⟨rfl,h1⟩;subst h1))
              refine calls_args (args':=#[.agg #[.int .i64 0,.string ⟨#[]⟩,.int .i64 0,.string ⟨#[43,35]⟩,.int .i64 (-1),.int .i64 digits,.bool false,.bool false,.int .u8 120,.bool false,.string ⟨#[]⟩],.string ⟨s.toArray⟩]) (by kernel_rfl) ?_
              (with_reducible refine (HN.out _).mono ?_);rintro e w2 ⟨rfl,hb2⟩
              have HB2:=hid (Below.from_alloc hb2)
              clear hb2
              by_cases hz:z=11
              · subst hz
                go_wp2
                go_ret2
                exact ⟨by rw [HR2.out];rfl,HB2.out⟩
              · have hz9:(z == 11)=false:=by rw [beq_eq_false_iff_ne];exact hz
                have HZ:=hid hz
                clear hz
                go_wp2
                go_ret2
                exact ⟨by rw [HR2.out,if_neg HZ.out];rfl,HB2.out⟩
            | false=>
              have HN:=hid (show ∀ u,Calls Tryz.prog 59 #[.agg #[.int .i64 0,.string ⟨#[]⟩,.int .i64 0,.string ⟨#[43]⟩,.int .i64 (-1),.int .i64 digits,.bool false,.bool false,.int .u8 120,.bool false,.string ⟨#[]⟩],.string ⟨s.toArray⟩] u fun e w'=>e=.returned (.tuple #[.string ⟨(numberE [43] (-1) digits 120 s).1.toArray⟩,.int .i64 (numberE [43] (-1) digits 120 s).2])∧Below u.heap.size u w' from fun u=>cnumber_fn (A:=0) (tx:=[]) (fl:=[43]) (wd:=-1) (pr:=digits) (c:=120) s hs (by have:=HD.out.1;omega) (by have:=HD.out.2;omega) (by decide) (by decide) u)
              have HR2:=hid (show R=if (numberE [43] (-1) digits 120 s).2=11 then ([],2) else numberE [43] (-1) digits 120 s by rw [HR.out];unfold numP;exact if_pos ⟨HD.out.1,HD.out.2⟩)
              clear HR
              obtain ⟨t,z,htz⟩:∃ t z,numberE [43] (-1) digits 120 s=(t,z):=⟨_,_,rfl⟩
              rw [htz] at HN HR2
              clear htz
              go_wp2_with (first|((with_reducible refine (HWI2.out _).mono ?_);rintro e w1 ⟨rfl,h1⟩;subst h1))
              refine calls_args (args':=#[.agg #[.int .i64 0,.string ⟨#[]⟩,.int .i64 0,.string ⟨#[43]⟩,.int .i64 (-1),.int .i64 digits,.bool false,.bool false,.int .u8 120,.bool false,.string ⟨#[]⟩],.string ⟨s.toArray⟩]) (by kernel_rfl) ?_
              (with_reducible refine (HN.out _).mono ?_);rintro e w2 ⟨rfl,hb2⟩
              have HB2:=hid (Below.from_alloc hb2)
              clear hb2
              by_cases hz:z=11
              · subst hz
                go_wp2
                go_ret2
                exact ⟨by rw [HR2.out];rfl,HB2.out⟩
              · have hz9:(z == 11)=false:=by rw [beq_eq_false_iff_ne];exact hz
                have HZ:=hid hz
                clear hz
                go_wp2
                go_ret2
                exact ⟨by rw [HR2.out,if_neg HZ.out];rfl,HB2.out⟩
          | false=>
            cases pfx with
            | true=>
              have HN:=hid (show ∀ u,Calls Tryz.prog 59 #[.agg #[.int .i64 0,.string ⟨#[]⟩,.int .i64 0,.string ⟨#[35]⟩,.int .i64 (-1),.int .i64 digits,.bool false,.bool false,.int .u8 120,.bool false,.string ⟨#[]⟩],.string ⟨s.toArray⟩] u fun e w'=>e=.returned (.tuple #[.string ⟨(numberE [35] (-1) digits 120 s).1.toArray⟩,.int .i64 (numberE [35] (-1) digits 120 s).2])∧Below u.heap.size u w' from fun u=>cnumber_fn (A:=0) (tx:=[]) (fl:=[35]) (wd:=-1) (pr:=digits) (c:=120) s hs (by have:=HD.out.1;omega) (by have:=HD.out.2;omega) (by decide) (by decide) u)
              have HR2:=hid (show R=if (numberE [35] (-1) digits 120 s).2=11 then ([],2) else numberE [35] (-1) digits 120 s by rw [HR.out];unfold numP;exact if_pos ⟨HD.out.1,HD.out.2⟩)
              clear HR
              obtain ⟨t,z,htz⟩:∃ t z,numberE [35] (-1) digits 120 s=(t,z):=⟨_,_,rfl⟩
              rw [htz] at HN HR2
              clear htz
              go_wp2_with (first|((with_reducible refine (HWI2.out _).mono ?_);rintro e w1 ⟨rfl,h1⟩;subst h1))
              refine calls_args (args':=#[.agg #[.int .i64 0,.string ⟨#[]⟩,.int .i64 0,.string ⟨#[35]⟩,.int .i64 (-1),.int .i64 digits,.bool false,.bool false,.int .u8 120,.bool false,.string ⟨#[]⟩],.string ⟨s.toArray⟩]) (by kernel_rfl) ?_
              (with_reducible refine (HN.out _).mono ?_);rintro e w2 ⟨rfl,hb2⟩
              have HB2:=hid (Below.from_alloc hb2)
              clear hb2
              by_cases hz:z=11
              · subst hz
                go_wp2
                go_ret2
                exact ⟨by rw [HR2.out];rfl,HB2.out⟩
              · have hz9:(z == 11)=false:=by rw [beq_eq_false_iff_ne];exact hz
                have HZ:=hid hz
                clear hz
                go_wp2
                go_ret2
                exact ⟨by rw [HR2.out,if_neg HZ.out];rfl,HB2.out⟩
            | false=>
              have HN:=hid (show ∀ u,Calls Tryz.prog 59 #[.agg #[.int .i64 0,.string ⟨#[]⟩,.int .i64 0,.string ⟨#[]⟩,.int .i64 (-1),.int .i64 digits,.bool false,.bool false,.int .u8 120,.bool false,.string ⟨#[]⟩],.string ⟨s.toArray⟩] u fun e w'=>e=.returned (.tuple #[.string ⟨(numberE [] (-1) digits 120 s).1.toArray⟩,.int .i64 (numberE [] (-1) digits 120 s).2])∧Below u.heap.size u w' from fun u=>cnumber_fn (A:=0) (tx:=[]) (fl:=[]) (wd:=-1) (pr:=digits) (c:=120) s hs (by have:=HD.out.1;omega) (by have:=HD.out.2;omega) (by decide) (by decide) u)
              have HR2:=hid (show R=if (numberE [] (-1) digits 120 s).2=11 then ([],2) else numberE [] (-1) digits 120 s by rw [HR.out];unfold numP;exact if_pos ⟨HD.out.1,HD.out.2⟩)
              clear HR
              obtain ⟨t,z,htz⟩:∃ t z,numberE [] (-1) digits 120 s=(t,z):=⟨_,_,rfl⟩
              rw [htz] at HN HR2
              clear htz
              go_wp2_with (first|((with_reducible refine (HWI2.out _).mono ?_);rintro e w1 ⟨rfl,h1⟩;subst h1))
              refine calls_args (args':=#[.agg #[.int .i64 0,.string ⟨#[]⟩,.int .i64 0,.string ⟨#[]⟩,.int .i64 (-1),.int .i64 digits,.bool false,.bool false,.int .u8 120,.bool false,.string ⟨#[]⟩],.string ⟨s.toArray⟩]) (by kernel_rfl) ?_
              (with_reducible refine (HN.out _).mono ?_);rintro e w2 ⟨rfl,hb2⟩
              have HB2:=hid (Below.from_alloc hb2)
              clear hb2
              by_cases hz:z=11
              · subst hz
                go_wp2
                go_ret2
                exact ⟨by rw [HR2.out];rfl,HB2.out⟩
              · have hz9:(z == 11)=false:=by rw [beq_eq_false_iff_ne];exact hz
                have HZ:=hid hz
                clear hz
                go_wp2
                go_ret2
                exact ⟨by rw [HR2.out,if_neg HZ.out];rfl,HB2.out⟩
        have hI1:I = -1:=by rw [HI.out];unfold idxB;simp [b1,b2,b3,b4]
        subst hI1
        have HR2:=hid (show R=([],7) by rw [HR.out];unfold numP letB;simp [b1,b2,b3,b4])
        clear HR b1 b2 b3 b4 HI
        go_wp2_with ((with_reducible refine And.intro ?_ ?_);exact trivial)
        go_ret2
        exact ⟨by rw [HR2.out];rfl,Below.refl _ _⟩
      · have hdd : (decide ((0 : Int) ≤ digits) && decide (digits ≤ 999)) = false := by
          rw [Bool.and_eq_false_iff,decide_eq_false_iff_not,decide_eq_false_iff_not]
          omega
        have HWI2:=hid (show ∀ u,Calls Tryz.prog 57 #[.int .i64 digits,.int .i64 0,.int .i64 999] u fun e w'=>e=.returned (.bool false)∧w'=u from fun u=>by have h:=HWI.out u;rw [hdd] at h;exact h)
        have HR2:=hid (show R=([],7) by
          rw [HR.out]
          unfold numP
          cases letB base with
          | none=>rfl
          | some c=>exact if_neg hd)
        clear HR HWI hdd hd
        by_cases hI1:I<0
        · have hi:decide (I<(0:Int))=true:=decide_eq_true hI1
          go_wp2_with ((with_reducible refine (HWI2.out _).mono ?_);rintro e w1 ⟨rfl,h1⟩;subst h1)
          go_ret2
          exact ⟨by rw [HR2.out];rfl,Below.refl _ _⟩
        · have hi:decide (I<(0:Int))=false:=decide_eq_false hI1
          go_wp2_with ((with_reducible refine (HWI2.out _).mono ?_);rintro e w1 ⟨rfl,h1⟩;subst h1)
          go_ret2
          exact ⟨by rw [HR2.out];rfl,Below.refl _ _⟩
end Go.Proofs.YtbilphfbfnohmaaGreatDoor.Pz
namespace Go.Proofs.YtbilphfbfnohmaaGreatDoor.Pz
open Go.RowKit
theorem can_base (s:Str) (b:Nat) (hb2:2≤b) (hb:b≤36):(∃ e,(e=2∨e=4)∧canRes s=([],e)∧baseRes s b=([],e))∨(∃ t d,canRes s=(t,0)∧baseRes t b=(d,0)∧baseRes s b=(d,0)∧t.length≤601∧d.length≤2011):=by
 have hr:¬ ((b:Int)<2∨36<(b:Int)):=by omega
 by_cases h:pOK s=true
 ·by_cases hg:big600≤(pVal s).natAbs
  ·refine .inl ⟨4,.inr rfl,?_,?_⟩
   ·rw [canRes_eq,if_pos h,resOf_big _ hg]
   ·unfold baseRes;rw [if_pos h,if_neg hr,if_pos hg]
  ·have hx:=txt_read (pVal s)
   have hbs:baseRes s b=(numText b (pVal s).natAbs (decide (pVal s<0)),0):=by unfold baseRes;rw [if_pos h,if_neg hr,if_neg hg];rfl
   refine .inr ⟨txt (pVal s),_,?_,?_,hbs,txt_len _ (by omega),?_⟩
   ·rw [canRes_eq,if_pos h,resOf_small _ (by omega)]
   ·unfold baseRes;rw [if_pos hx.1,if_neg hr,hx.2,if_neg hg];rfl
   ·have h9:=(baseRes_text (a:=s) (b:=b) hb2 hb (by rw [hbs])).1
    rw [hbs] at h9
    exact h9
 ·refine .inl ⟨2,.inl rfl,?_,?_⟩
  ·rw [canRes_eq,if_neg h]
  ·unfold baseRes;rw [if_neg h]
theorem numP_err {s:Str} {base digits:Int} {plus pfx:Bool} {c:UInt8} {e:Int} (hc:letB base=some c) (hd:0≤digits∧digits≤999) (he:e=2∨e=4) (h:baseRes s (baseC c)=([],e)):numP s base digits plus pfx=([],e):=by
 unfold numP numberE
 rw [hc]
 dsimp only
 rw [if_pos hd,h]
 rcases he with rfl | rfl<;>rfl
theorem numP_ok {s d:Str} {base digits:Int} {plus pfx:Bool} {c:UInt8} (hc:letB base=some c) (hd:0≤digits∧digits≤999) (h:baseRes s (baseC c)=(d,0)):numP s base digits plus pfx=(signD (flN plus pfx) c (negD d)++padD digits (bodyD c d),0):=by
 have hn:numberE (flN plus pfx) (-1) digits c s=(signD (flN plus pfx) c (negD d)++padD digits (bodyD c d),0):=by
  unfold numberE numbE
  rw [h]
  dsimp only
  rw [if_pos rfl]
  unfold spreadE
  rw [if_pos (by omega)]
 unfold numP
 rw [hc]
 dsimp only
 rw [if_pos hd,hn]
 exact if_neg (show ¬ ((0:Int)=11) by decide)
theorem pre2_fn (w:World):Calls Tryz.prog 62 #[.int .i64 2] w fun e w'=>e=.returned (.string ⟨#[48,98]⟩)∧w'=w:=by
 go_enter Tryz.func62,Tryz.ntmps62
 go_wp2
 go_ret
 exact ⟨rfl,rfl⟩
theorem pre8_fn (w:World):Calls Tryz.prog 62 #[.int .i64 8] w fun e w'=>e=.returned (.string ⟨#[48,111]⟩)∧w'=w:=by
 go_enter Tryz.func62,Tryz.ntmps62
 go_wp2
 go_ret
 exact ⟨rfl,rfl⟩
theorem pre10_fn (w:World):Calls Tryz.prog 62 #[.int .i64 10] w fun e w'=>e=.returned (.string ⟨#[]⟩)∧w'=w:=by
 go_enter Tryz.func62,Tryz.ntmps62
 go_wp2
 go_ret
 exact ⟨rfl,rfl⟩
theorem pre16_fn (w:World):Calls Tryz.prog 62 #[.int .i64 16] w fun e w'=>e=.returned (.string ⟨#[48,120]⟩)∧w'=w:=by
 go_enter Tryz.func62,Tryz.ntmps62
 go_wp2
 go_ret
 exact ⟨rfl,rfl⟩
set_option maxRecDepth 1000000 in
set_option maxHeartbeats 4000000 in
theorem numberR_fn (s:Str) (hs:s.length≤1000000) (base digits:Int) (plus pfx:Bool) (w:World) :
    Calls Tryz.prog 20 #[.string ⟨s.toArray⟩,.int .i64 base,.int .i64 digits,.bool plus,.bool pfx] w fun e w'=>e=.returned (.tuple #[.string ⟨(numP s base digits plus pfx).1.toArray⟩,.int .i64 (numP s base digits plus pfx).2])∧Below w.heap.size w w':=by
  obtain ⟨R,hR⟩:∃ R,R=numP s base digits plus pfx:=⟨_,rfl⟩
  rw [← hR]
  have HR:=hid hR
  clear hR
  have HCAN:=hid (canR_fn s (by omega) w)
  by_cases hd:0≤digits∧digits≤999
  · have d1:decide (digits<(0:Int))=false:=decide_eq_false (by omega)
    have d2:decide ((999:Int)<digits)=false:=decide_eq_false (by omega)
    have HD:=hid hd
    obtain ⟨hd1,hd2⟩:=hd
    by_cases b1:base=2
    · subst b1
      rcases can_base s 2 (by decide) (by decide) with ⟨e,he,h1,h2⟩ | ⟨t,d,h1,h2,h3,h4,h5⟩
      · have HR2:=hid (show R=([],e) by rw [HR.out];exact numP_err (c:=98) rfl HD.out he h2)
        rw [h1] at HCAN
        clear HR h1 h2
        rcases he with rfl | rfl
        · go_enter Tryz.func20,Tryz.ntmps20
          go_wp2_with ((with_reducible refine HCAN.out.mono ?_);rintro e w1 ⟨rfl,hb1⟩)
          go_ret2
          exact ⟨by rw [HR2.out];rfl,hb1⟩
        · go_enter Tryz.func20,Tryz.ntmps20
          go_wp2_with ((with_reducible refine HCAN.out.mono ?_);rintro e w1 ⟨rfl,hb1⟩)
          go_ret2
          exact ⟨by rw [HR2.out];rfl,hb1⟩
      · have HR2:=hid (show R=(signD (flN plus pfx) 98 (negD d)++padD digits (bodyD 98 d),0) by rw [HR.out];exact numP_ok (c:=98) rfl HD.out h3)
        rw [h1] at HCAN
        have HBS:=hid (fun u=>by have h:=baseR_fn t (by omega) 2 u;rw [show baseRes t 2=(d,0) from h2] at h;exact h)
        have HCUT:=hid (fun u=>cut_neg d (by omega) u)
        obtain ⟨body,hbody⟩:∃ body,body=if negD d then d.tail else d:=⟨_,rfl⟩
        have hbl:body.length≤2011:=by
          rw [hbody]
          split
          · rw [List.length_tail];omega
          · omega
        rw [← hbody] at HCUT
        have hbd:bodyD 98 d=body:=by rw [hbody];rfl
        rw [hbd] at HR2
        obtain ⟨ng,hng⟩:∃ ng,ng=negD d:=⟨_,rfl⟩
        rw [← hng] at HCUT HR2
        have HPF:=hid pre2_fn
        clear HR h1 h2 h3 hbody hbd hng h4
        obtain ⟨k,hk⟩:∃ k,k=(digits-(body.length:Int)).toNat:=⟨_,rfl⟩
        have HREP:=hid (fun u=>repeat_fn 48 rfl k (by omega) u)
        obtain ⟨f,hf⟩:∃ f,f=List.replicate k (48:UInt8):=⟨_,rfl⟩
        have hfl:f.length=k:=by rw [hf];simp
        have hpd:padD digits body=f++body:=by rw [hf,hk];rfl
        rw [hpd] at HR2
        rw [← hf] at HREP
        have hc1:=cat_run f body (by omega) (by omega)
        clear hpd
        by_cases hlt:(body.length:Int)<digits
        · have hkI:digits-(body.length:Int)=(k:Nat):=by omega
          clear hk hf
          have hdl:decide ((body.length:Int)<digits)=true:=decide_eq_true hlt
          cases ng with
          | true=>
            cases pfx with
            | true=>
              have hcat:(⟨#[45]⟩:ByteArray) ++ ⟨#[48,98]⟩=⟨#[45,48,98]⟩:=by kernel_rfl
              have hc2:=fun u=>(show (Op.stringOp .add ⟨#[45,48,98]⟩ ⟨(f++body).toArray⟩).run Tryz.prog u=.ok (.string ⟨([45,48,98]++(f++body)).toArray⟩) u from cat_run [45,48,98] (f++body) (by decide) (by first | omega|(rw [List.length_append];omega)) u)
              have hsg:signD (flN plus true) 98 true=[45,48,98]:=by unfold signD flN;cases plus<;>rfl
              have HR3:=hid (show R=([45,48,98]++(f++body),0) by first|(rw [HR2.out,hsg];done)|(rw [HR2.out,hsg];rfl))
              clear HR2 hsg
              go_enter Tryz.func20,Tryz.ntmps20
              go_wp2_with (first|(go_at_call 11;refine HCAN.out.mono ?_;rintro e w1 ⟨rfl,hb1⟩;have HB1:=hid hb1;clear hb1)|(go_at_call 60;refine (HBS.out _).mono ?_;rintro e w2 ⟨rfl,hb2⟩;have HB2:=hid (HB1.out.trans (hb2.mono HB1.out.size));clear hb2)|(go_at_call 61;refine (HCUT.out _).mono ?_;rintro e w3 ⟨rfl,h3⟩;subst h3)|(go_at_call 62;refine (HPF.out _).mono ?_;rintro e w4 ⟨rfl,h4⟩;subst h4)|(go_at_call 58;refine (HREP.out _).mono ?_;rintro e w5 ⟨rfl,hb5⟩;have HB5:=hid (HB2.out.trans (hb5.mono HB2.out.size));clear hb5))
              go_ret2
              exact ⟨by rw [HR3.out];rfl,by first | exact HB5.out | exact HB2.out⟩
            | false=>
              have hc2:=fun u=>(show (Op.stringOp .add ⟨#[45]⟩ ⟨(f++body).toArray⟩).run Tryz.prog u=.ok (.string ⟨([45]++(f++body)).toArray⟩) u from cat_run [45] (f++body) (by decide) (by first | omega|(rw [List.length_append];omega)) u)
              have hsg:signD (flN plus false) 98 true=[45]:=by unfold signD flN;cases plus<;>rfl
              have HR3:=hid (show R=([45]++(f++body),0) by first|(rw [HR2.out,hsg];done)|(rw [HR2.out,hsg];rfl))
              clear HR2 hsg
              go_enter Tryz.func20,Tryz.ntmps20
              go_wp2_with (first|(go_at_call 11;refine HCAN.out.mono ?_;rintro e w1 ⟨rfl,hb1⟩;have HB1:=hid hb1;clear hb1)|(go_at_call 60;refine (HBS.out _).mono ?_;rintro e w2 ⟨rfl,hb2⟩;have HB2:=hid (HB1.out.trans (hb2.mono HB1.out.size));clear hb2)|(go_at_call 61;refine (HCUT.out _).mono ?_;rintro e w3 ⟨rfl,h3⟩;subst h3)|(go_at_call 62;refine (HPF.out _).mono ?_;rintro e w4 ⟨rfl,h4⟩;subst h4)|(go_at_call 58;refine (HREP.out _).mono ?_;rintro e w5 ⟨rfl,hb5⟩;have HB5:=hid (HB2.out.trans (hb5.mono HB2.out.size));clear hb5))
              go_ret2
              exact ⟨by rw [HR3.out];rfl,by first | exact HB5.out | exact HB2.out⟩
          | false=>
            cases plus with
            | true=>
              cases pfx with
              | true=>
                have hcat:(⟨#[43]⟩:ByteArray) ++ ⟨#[48,98]⟩=⟨#[43,48,98]⟩:=by kernel_rfl
                have hc2:=fun u=>(show (Op.stringOp .add ⟨#[43,48,98]⟩ ⟨(f++body).toArray⟩).run Tryz.prog u=.ok (.string ⟨([43,48,98]++(f++body)).toArray⟩) u from cat_run [43,48,98] (f++body) (by decide) (by first | omega|(rw [List.length_append];omega)) u)
                have hsg:signD (flN true true) 98 false=[43,48,98]:=by rfl
                have HR3:=hid (show R=([43,48,98]++(f++body),0) by first|(rw [HR2.out,hsg];done)|(rw [HR2.out,hsg];rfl))
                clear HR2 hsg
                go_enter Tryz.func20,Tryz.ntmps20
                go_wp2_with (first|(go_at_call 11;refine HCAN.out.mono ?_;rintro e w1 ⟨rfl,hb1⟩;have HB1:=hid hb1;clear hb1)|(go_at_call 60;refine (HBS.out _).mono ?_;rintro e w2 ⟨rfl,hb2⟩;have HB2:=hid (HB1.out.trans (hb2.mono HB1.out.size));clear hb2)|(go_at_call 61;refine (HCUT.out _).mono ?_;rintro e w3 ⟨rfl,h3⟩;subst h3)|(go_at_call 62;refine (HPF.out _).mono ?_;rintro e w4 ⟨rfl,h4⟩;subst h4)|(go_at_call 58;refine (HREP.out _).mono ?_;rintro e w5 ⟨rfl,hb5⟩;have HB5:=hid (HB2.out.trans (hb5.mono HB2.out.size));clear hb5))
                go_ret2
                exact ⟨by rw [HR3.out];rfl,by first | exact HB5.out | exact HB2.out⟩
              | false=>
                have hc2:=fun u=>(show (Op.stringOp .add ⟨#[43]⟩ ⟨(f++body).toArray⟩).run Tryz.prog u=.ok (.string ⟨([43]++(f++body)).toArray⟩) u from cat_run [43] (f++body) (by decide) (by first | omega|(rw [List.length_append];omega)) u)
                have hsg:signD (flN true false) 98 false=[43]:=by rfl
                have HR3:=hid (show R=([43]++(f++body),0) by first|(rw [HR2.out,hsg];done)|(rw [HR2.out,hsg];rfl))
                clear HR2 hsg
                go_enter Tryz.func20,Tryz.ntmps20
                go_wp2_with (first|(go_at_call 11;refine HCAN.out.mono ?_;rintro e w1 ⟨rfl,hb1⟩;have HB1:=hid hb1;clear hb1)|(go_at_call 60;refine (HBS.out _).mono ?_;rintro e w2 ⟨rfl,hb2⟩;have HB2:=hid (HB1.out.trans (hb2.mono HB1.out.size));clear hb2)|(go_at_call 61;refine (HCUT.out _).mono ?_;rintro e w3 ⟨rfl,h3⟩;subst h3)|(go_at_call 62;refine (HPF.out _).mono ?_;rintro e w4 ⟨rfl,h4⟩;subst h4)|(go_at_call 58;refine (HREP.out _).mono ?_;rintro e w5 ⟨rfl,hb5⟩;have HB5:=hid (HB2.out.trans (hb5.mono HB2.out.size));clear hb5))
                go_ret2
                exact ⟨by rw [HR3.out];rfl,by first | exact HB5.out | exact HB2.out⟩
            | false=>
              cases pfx with
              | true=>
                have hcat:(⟨#[]⟩:ByteArray) ++ ⟨#[48,98]⟩=⟨#[48,98]⟩:=by kernel_rfl
                have hc2:=fun u=>(show (Op.stringOp .add ⟨#[48,98]⟩ ⟨(f++body).toArray⟩).run Tryz.prog u=.ok (.string ⟨([48,98]++(f++body)).toArray⟩) u from cat_run [48,98] (f++body) (by decide) (by first | omega|(rw [List.length_append];omega)) u)
                have hsg:signD (flN false true) 98 false=[48,98]:=by rfl
                have HR3:=hid (show R=([48,98]++(f++body),0) by first|(rw [HR2.out,hsg];done)|(rw [HR2.out,hsg];rfl))
                clear HR2 hsg
                go_enter Tryz.func20,Tryz.ntmps20
                go_wp2_with (first|(go_at_call 11;refine HCAN.out.mono ?_;rintro e w1 ⟨rfl,hb1⟩;have HB1:=hid hb1;clear hb1)|(go_at_call 60;refine (HBS.out _).mono ?_;rintro e w2 ⟨rfl,hb2⟩;have HB2:=hid (HB1.out.trans (hb2.mono HB1.out.size));clear hb2)|(go_at_call 61;refine (HCUT.out _).mono ?_;rintro e w3 ⟨rfl,h3⟩;subst h3)|(go_at_call 62;refine (HPF.out _).mono ?_;rintro e w4 ⟨rfl,h4⟩;subst h4)|(go_at_call 58;refine (HREP.out _).mono ?_;rintro e w5 ⟨rfl,hb5⟩;have HB5:=hid (HB2.out.trans (hb5.mono HB2.out.size));clear hb5))
                go_ret2
                exact ⟨by rw [HR3.out];rfl,by first | exact HB5.out | exact HB2.out⟩
              | false=>
                have hc2:=fun u=>(show (Op.stringOp .add ⟨#[]⟩ ⟨(f++body).toArray⟩).run Tryz.prog u=.ok (.string ⟨([]++(f++body)).toArray⟩) u from cat_run [] (f++body) (by decide) (by first | omega|(rw [List.length_append];omega)) u)
                have hsg:signD (flN false false) 98 false=[]:=by rfl
                have HR3:=hid (show R=([]++(f++body),0) by first|(rw [HR2.out,hsg];done)|(rw [HR2.out,hsg];rfl))
                clear HR2 hsg
                go_enter Tryz.func20,Tryz.ntmps20
                go_wp2_with (first|(go_at_call 11;refine HCAN.out.mono ?_;rintro e w1 ⟨rfl,hb1⟩;have HB1:=hid hb1;clear hb1)|(go_at_call 60;refine (HBS.out _).mono ?_;rintro e w2 ⟨rfl,hb2⟩;have HB2:=hid (HB1.out.trans (hb2.mono HB1.out.size));clear hb2)|(go_at_call 61;refine (HCUT.out _).mono ?_;rintro e w3 ⟨rfl,h3⟩;subst h3)|(go_at_call 62;refine (HPF.out _).mono ?_;rintro e w4 ⟨rfl,h4⟩;subst h4)|(go_at_call 58;refine (HREP.out _).mono ?_;rintro e w5 ⟨rfl,hb5⟩;have HB5:=hid (HB2.out.trans (hb5.mono HB2.out.size));clear hb5))
                go_ret2
                exact ⟨by rw [HR3.out];rfl,by first | exact HB5.out | exact HB2.out⟩
        · have hk0:k=0:=by omega
          have hf0:f=[]:=List.eq_nil_of_length_eq_zero (by rw [hfl];exact hk0)
          subst hf0
          clear hk hf hk0 hfl
          have hdl:decide ((body.length:Int)<digits)=false:=decide_eq_false hlt
          cases ng with
          | true=>
            cases pfx with
            | true=>
              have hcat:(⟨#[45]⟩:ByteArray) ++ ⟨#[48,98]⟩=⟨#[45,48,98]⟩:=by kernel_rfl
              have hc2:=fun u=>(show (Op.stringOp .add ⟨#[45,48,98]⟩ ⟨(body).toArray⟩).run Tryz.prog u=.ok (.string ⟨([45,48,98]++(body)).toArray⟩) u from cat_run [45,48,98] (body) (by decide) (by first | omega|(rw [List.length_append];omega)) u)
              have hsg:signD (flN plus true) 98 true=[45,48,98]:=by unfold signD flN;cases plus<;>rfl
              have HR3:=hid (show R=([45,48,98]++(body),0) by first|(rw [HR2.out,hsg];done)|(rw [HR2.out,hsg];rfl))
              clear HR2 hsg
              go_enter Tryz.func20,Tryz.ntmps20
              go_wp2_with (first|(go_at_call 11;refine HCAN.out.mono ?_;rintro e w1 ⟨rfl,hb1⟩;have HB1:=hid hb1;clear hb1)|(go_at_call 60;refine (HBS.out _).mono ?_;rintro e w2 ⟨rfl,hb2⟩;have HB2:=hid (HB1.out.trans (hb2.mono HB1.out.size));clear hb2)|(go_at_call 61;refine (HCUT.out _).mono ?_;rintro e w3 ⟨rfl,h3⟩;subst h3)|(go_at_call 62;refine (HPF.out _).mono ?_;rintro e w4 ⟨rfl,h4⟩;subst h4)|(go_at_call 58;refine (HREP.out _).mono ?_;rintro e w5 ⟨rfl,hb5⟩;have HB5:=hid (HB2.out.trans (hb5.mono HB2.out.size));clear hb5))
              go_ret2
              exact ⟨by rw [HR3.out];rfl,by first | exact HB5.out | exact HB2.out⟩
            | false=>
              have hc2:=fun u=>(show (Op.stringOp .add ⟨#[45]⟩ ⟨(body).toArray⟩).run Tryz.prog u=.ok (.string ⟨([45]++(body)).toArray⟩) u from cat_run [45] (body) (by decide) (by first | omega|(rw [List.length_append];omega)) u)
              have hsg:signD (flN plus false) 98 true=[45]:=by unfold signD flN;cases plus<;>rfl
              have HR3:=hid (show R=([45]++(body),0) by first|(rw [HR2.out,hsg];done)|(rw [HR2.out,hsg];rfl))
              clear HR2 hsg
              go_enter Tryz.func20,Tryz.ntmps20
              go_wp2_with (first|(go_at_call 11;refine HCAN.out.mono ?_;rintro e w1 ⟨rfl,hb1⟩;have HB1:=hid hb1;clear hb1)|(go_at_call 60;refine (HBS.out _).mono ?_;rintro e w2 ⟨rfl,hb2⟩;have HB2:=hid (HB1.out.trans (hb2.mono HB1.out.size));clear hb2)|(go_at_call 61;refine (HCUT.out _).mono ?_;rintro e w3 ⟨rfl,h3⟩;subst h3)|(go_at_call 62;refine (HPF.out _).mono ?_;rintro e w4 ⟨rfl,h4⟩;subst h4)|(go_at_call 58;refine (HREP.out _).mono ?_;rintro e w5 ⟨rfl,hb5⟩;have HB5:=hid (HB2.out.trans (hb5.mono HB2.out.size));clear hb5))
              go_ret2
              exact ⟨by rw [HR3.out];rfl,by first | exact HB5.out | exact HB2.out⟩
          | false=>
            cases plus with
            | true=>
              cases pfx with
              | true=>
                have hcat:(⟨#[43]⟩:ByteArray) ++ ⟨#[48,98]⟩=⟨#[43,48,98]⟩:=by kernel_rfl
                have hc2:=fun u=>(show (Op.stringOp .add ⟨#[43,48,98]⟩ ⟨(body).toArray⟩).run Tryz.prog u=.ok (.string ⟨([43,48,98]++(body)).toArray⟩) u from cat_run [43,48,98] (body) (by decide) (by first | omega|(rw [List.length_append];omega)) u)
                have hsg:signD (flN true true) 98 false=[43,48,98]:=by rfl
                have HR3:=hid (show R=([43,48,98]++(body),0) by first|(rw [HR2.out,hsg];done)|(rw [HR2.out,hsg];rfl))
                clear HR2 hsg
                go_enter Tryz.func20,Tryz.ntmps20
                go_wp2_with (first|(go_at_call 11;refine HCAN.out.mono ?_;rintro e w1 ⟨rfl,hb1⟩;have HB1:=hid hb1;clear hb1)|(go_at_call 60;refine (HBS.out _).mono ?_;rintro e w2 ⟨rfl,hb2⟩;have HB2:=hid (HB1.out.trans (hb2.mono HB1.out.size));clear hb2)|(go_at_call 61;refine (HCUT.out _).mono ?_;rintro e w3 ⟨rfl,h3⟩;subst h3)|(go_at_call 62;refine (HPF.out _).mono ?_;rintro e w4 ⟨rfl,h4⟩;subst h4)|(go_at_call 58;refine (HREP.out _).mono ?_;rintro e w5 ⟨rfl,hb5⟩;have HB5:=hid (HB2.out.trans (hb5.mono HB2.out.size));clear hb5))
                go_ret2
                exact ⟨by rw [HR3.out];rfl,by first | exact HB5.out | exact HB2.out⟩
              | false=>
                have hc2:=fun u=>(show (Op.stringOp .add ⟨#[43]⟩ ⟨(body).toArray⟩).run Tryz.prog u=.ok (.string ⟨([43]++(body)).toArray⟩) u from cat_run [43] (body) (by decide) (by first | omega|(rw [List.length_append];omega)) u)
                have hsg:signD (flN true false) 98 false=[43]:=by rfl
                have HR3:=hid (show R=([43]++(body),0) by first|(rw [HR2.out,hsg];done)|(rw [HR2.out,hsg];rfl))
                clear HR2 hsg
                go_enter Tryz.func20,Tryz.ntmps20
                go_wp2_with (first|(go_at_call 11;refine HCAN.out.mono ?_;rintro e w1 ⟨rfl,hb1⟩;have HB1:=hid hb1;clear hb1)|(go_at_call 60;refine (HBS.out _).mono ?_;rintro e w2 ⟨rfl,hb2⟩;have HB2:=hid (HB1.out.trans (hb2.mono HB1.out.size));clear hb2)|(go_at_call 61;refine (HCUT.out _).mono ?_;rintro e w3 ⟨rfl,h3⟩;subst h3)|(go_at_call 62;refine (HPF.out _).mono ?_;rintro e w4 ⟨rfl,h4⟩;subst h4)|(go_at_call 58;refine (HREP.out _).mono ?_;rintro e w5 ⟨rfl,hb5⟩;have HB5:=hid (HB2.out.trans (hb5.mono HB2.out.size));clear hb5))
                go_ret2
                exact ⟨by rw [HR3.out];rfl,by first | exact HB5.out | exact HB2.out⟩
            | false=>
              cases pfx with
              | true=>
                have hcat:(⟨#[]⟩:ByteArray) ++ ⟨#[48,98]⟩=⟨#[48,98]⟩:=by kernel_rfl
                have hc2:=fun u=>(show (Op.stringOp .add ⟨#[48,98]⟩ ⟨(body).toArray⟩).run Tryz.prog u=.ok (.string ⟨([48,98]++(body)).toArray⟩) u from cat_run [48,98] (body) (by decide) (by first | omega|(rw [List.length_append];omega)) u)
                have hsg:signD (flN false true) 98 false=[48,98]:=by rfl
                have HR3:=hid (show R=([48,98]++(body),0) by first|(rw [HR2.out,hsg];done)|(rw [HR2.out,hsg];rfl))
                clear HR2 hsg
                go_enter Tryz.func20,Tryz.ntmps20
                go_wp2_with (first|(go_at_call 11;refine HCAN.out.mono ?_;rintro e w1 ⟨rfl,hb1⟩;have HB1:=hid hb1;clear hb1)|(go_at_call 60;refine (HBS.out _).mono ?_;rintro e w2 ⟨rfl,hb2⟩;have HB2:=hid (HB1.out.trans (hb2.mono HB1.out.size));clear hb2)|(go_at_call 61;refine (HCUT.out _).mono ?_;rintro e w3 ⟨rfl,h3⟩;subst h3)|(go_at_call 62;refine (HPF.out _).mono ?_;rintro e w4 ⟨rfl,h4⟩;subst h4)|(go_at_call 58;refine (HREP.out _).mono ?_;rintro e w5 ⟨rfl,hb5⟩;have HB5:=hid (HB2.out.trans (hb5.mono HB2.out.size));clear hb5))
                go_ret2
                exact ⟨by rw [HR3.out];rfl,by first | exact HB5.out | exact HB2.out⟩
              | false=>
                have hc2:=fun u=>(show (Op.stringOp .add ⟨#[]⟩ ⟨(body).toArray⟩).run Tryz.prog u=.ok (.string ⟨([]++(body)).toArray⟩) u from cat_run [] (body) (by decide) (by first | omega|(rw [List.length_append];omega)) u)
                have hsg:signD (flN false false) 98 false=[]:=by rfl
                have HR3:=hid (show R=([]++(body),0) by first|(rw [HR2.out,hsg];done)|(rw [HR2.out,hsg];rfl))
                clear HR2 hsg
                go_enter Tryz.func20,Tryz.ntmps20
                go_wp2_with (first|(go_at_call 11;refine HCAN.out.mono ?_;rintro e w1 ⟨rfl,hb1⟩;have HB1:=hid hb1;clear hb1)|(go_at_call 60;refine (HBS.out _).mono ?_;rintro e w2 ⟨rfl,hb2⟩;have HB2:=hid (HB1.out.trans (hb2.mono HB1.out.size));clear hb2)|(go_at_call 61;refine (HCUT.out _).mono ?_;rintro e w3 ⟨rfl,h3⟩;subst h3)|(go_at_call 62;refine (HPF.out _).mono ?_;rintro e w4 ⟨rfl,h4⟩;subst h4)|(go_at_call 58;refine (HREP.out _).mono ?_;rintro e w5 ⟨rfl,hb5⟩;have HB5:=hid (HB2.out.trans (hb5.mono HB2.out.size));clear hb5))
                go_ret2
                exact ⟨by rw [HR3.out];rfl,by first | exact HB5.out | exact HB2.out⟩
    by_cases b2:base=8
    · subst b2
      rcases can_base s 8 (by decide) (by decide) with ⟨e,he,h1,h2⟩ | ⟨t,d,h1,h2,h3,h4,h5⟩
      · have HR2:=hid (show R=([],e) by rw [HR.out];exact numP_err (c:=111) rfl HD.out he h2)
        rw [h1] at HCAN
        clear HR h1 h2
        rcases he with rfl | rfl
        · go_enter Tryz.func20,Tryz.ntmps20
          go_wp2_with ((with_reducible refine HCAN.out.mono ?_);rintro e w1 ⟨rfl,hb1⟩)
          go_ret2
          exact ⟨by rw [HR2.out];rfl,hb1⟩
        · go_enter Tryz.func20,Tryz.ntmps20
          go_wp2_with ((with_reducible refine HCAN.out.mono ?_);rintro e w1 ⟨rfl,hb1⟩)
          go_ret2
          exact ⟨by rw [HR2.out];rfl,hb1⟩
      · have HR2:=hid (show R=(signD (flN plus pfx) 111 (negD d)++padD digits (bodyD 111 d),0) by rw [HR.out];exact numP_ok (c:=111) rfl HD.out h3)
        rw [h1] at HCAN
        have HBS:=hid (fun u=>by have h:=baseR_fn t (by omega) 8 u;rw [show baseRes t 8=(d,0) from h2] at h;exact h)
        have HCUT:=hid (fun u=>cut_neg d (by omega) u)
        obtain ⟨body,hbody⟩:∃ body,body=if negD d then d.tail else d:=⟨_,rfl⟩
        have hbl:body.length≤2011:=by
          rw [hbody]
          split
          · rw [List.length_tail];omega
          · omega
        rw [← hbody] at HCUT
        have hbd:bodyD 111 d=body:=by rw [hbody];rfl
        rw [hbd] at HR2
        obtain ⟨ng,hng⟩:∃ ng,ng=negD d:=⟨_,rfl⟩
        rw [← hng] at HCUT HR2
        have HPF:=hid pre8_fn
        clear HR h1 h2 h3 hbody hbd hng h4
        obtain ⟨k,hk⟩:∃ k,k=(digits-(body.length:Int)).toNat:=⟨_,rfl⟩
        have HREP:=hid (fun u=>repeat_fn 48 rfl k (by omega) u)
        obtain ⟨f,hf⟩:∃ f,f=List.replicate k (48:UInt8):=⟨_,rfl⟩
        have hfl:f.length=k:=by rw [hf];simp
        have hpd:padD digits body=f++body:=by rw [hf,hk];rfl
        rw [hpd] at HR2
        rw [← hf] at HREP
        have hc1:=cat_run f body (by omega) (by omega)
        clear hpd
        by_cases hlt:(body.length:Int)<digits
        · have hkI:digits-(body.length:Int)=(k:Nat):=by omega
          clear hk hf
          have hdl:decide ((body.length:Int)<digits)=true:=decide_eq_true hlt
          cases ng with
          | true=>
            cases pfx with
            | true=>
              have hcat:(⟨#[45]⟩:ByteArray) ++ ⟨#[48,111]⟩=⟨#[45,48,111]⟩:=by kernel_rfl
              have hc2:=fun u=>(show (Op.stringOp .add ⟨#[45,48,111]⟩ ⟨(f++body).toArray⟩).run Tryz.prog u=.ok (.string ⟨([45,48,111]++(f++body)).toArray⟩) u from cat_run [45,48,111] (f++body) (by decide) (by first | omega|(rw [List.length_append];omega)) u)
              have hsg:signD (flN plus true) 111 true=[45,48,111]:=by unfold signD flN;cases plus<;>rfl
              have HR3:=hid (show R=([45,48,111]++(f++body),0) by first|(rw [HR2.out,hsg];done)|(rw [HR2.out,hsg];rfl))
              clear HR2 hsg
              go_enter Tryz.func20,Tryz.ntmps20
              go_wp2_with (first|(go_at_call 11;refine HCAN.out.mono ?_;rintro e w1 ⟨rfl,hb1⟩;have HB1:=hid hb1;clear hb1)|(go_at_call 60;refine (HBS.out _).mono ?_;rintro e w2 ⟨rfl,hb2⟩;have HB2:=hid (HB1.out.trans (hb2.mono HB1.out.size));clear hb2)|(go_at_call 61;refine (HCUT.out _).mono ?_;rintro e w3 ⟨rfl,h3⟩;subst h3)|(go_at_call 62;refine (HPF.out _).mono ?_;rintro e w4 ⟨rfl,h4⟩;subst h4)|(go_at_call 58;refine (HREP.out _).mono ?_;rintro e w5 ⟨rfl,hb5⟩;have HB5:=hid (HB2.out.trans (hb5.mono HB2.out.size));clear hb5))
              go_ret2
              exact ⟨by rw [HR3.out];rfl,by first | exact HB5.out | exact HB2.out⟩
            | false=>
              have hc2:=fun u=>(show (Op.stringOp .add ⟨#[45]⟩ ⟨(f++body).toArray⟩).run Tryz.prog u=.ok (.string ⟨([45]++(f++body)).toArray⟩) u from cat_run [45] (f++body) (by decide) (by first | omega|(rw [List.length_append];omega)) u)
              have hsg:signD (flN plus false) 111 true=[45]:=by unfold signD flN;cases plus<;>rfl
              have HR3:=hid (show R=([45]++(f++body),0) by first|(rw [HR2.out,hsg];done)|(rw [HR2.out,hsg];rfl))
              clear HR2 hsg
              go_enter Tryz.func20,Tryz.ntmps20
              go_wp2_with (first|(go_at_call 11;refine HCAN.out.mono ?_;rintro e w1 ⟨rfl,hb1⟩;have HB1:=hid hb1;clear hb1)|(go_at_call 60;refine (HBS.out _).mono ?_;rintro e w2 ⟨rfl,hb2⟩;have HB2:=hid (HB1.out.trans (hb2.mono HB1.out.size));clear hb2)|(go_at_call 61;refine (HCUT.out _).mono ?_;rintro e w3 ⟨rfl,h3⟩;subst h3)|(go_at_call 62;refine (HPF.out _).mono ?_;rintro e w4 ⟨rfl,h4⟩;subst h4)|(go_at_call 58;refine (HREP.out _).mono ?_;rintro e w5 ⟨rfl,hb5⟩;have HB5:=hid (HB2.out.trans (hb5.mono HB2.out.size));clear hb5))
              go_ret2
              exact ⟨by rw [HR3.out];rfl,by first | exact HB5.out | exact HB2.out⟩
          | false=>
            cases plus with
            | true=>
              cases pfx with
              | true=>
                have hcat:(⟨#[43]⟩:ByteArray) ++ ⟨#[48,111]⟩=⟨#[43,48,111]⟩:=by kernel_rfl
                have hc2:=fun u=>(show (Op.stringOp .add ⟨#[43,48,111]⟩ ⟨(f++body).toArray⟩).run Tryz.prog u=.ok (.string ⟨([43,48,111]++(f++body)).toArray⟩) u from cat_run [43,48,111] (f++body) (by decide) (by first | omega|(rw [List.length_append];omega)) u)
                have hsg:signD (flN true true) 111 false=[43,48,111]:=by rfl
                have HR3:=hid (show R=([43,48,111]++(f++body),0) by first|(rw [HR2.out,hsg];done)|(rw [HR2.out,hsg];rfl))
                clear HR2 hsg
                go_enter Tryz.func20,Tryz.ntmps20
                go_wp2_with (first|(go_at_call 11;refine HCAN.out.mono ?_;rintro e w1 ⟨rfl,hb1⟩;have HB1:=hid hb1;clear hb1)|(go_at_call 60;refine (HBS.out _).mono ?_;rintro e w2 ⟨rfl,hb2⟩;have HB2:=hid (HB1.out.trans (hb2.mono HB1.out.size));clear hb2)|(go_at_call 61;refine (HCUT.out _).mono ?_;rintro e w3 ⟨rfl,h3⟩;subst h3)|(go_at_call 62;refine (HPF.out _).mono ?_;rintro e w4 ⟨rfl,h4⟩;subst h4)|(go_at_call 58;refine (HREP.out _).mono ?_;rintro e w5 ⟨rfl,hb5⟩;have HB5:=hid (HB2.out.trans (hb5.mono HB2.out.size));clear hb5))
                go_ret2
                exact ⟨by rw [HR3.out];rfl,by first | exact HB5.out | exact HB2.out⟩
              | false=>
                have hc2:=fun u=>(show (Op.stringOp .add ⟨#[43]⟩ ⟨(f++body).toArray⟩).run Tryz.prog u=.ok (.string ⟨([43]++(f++body)).toArray⟩) u from cat_run [43] (f++body) (by decide) (by first | omega|(rw [List.length_append];omega)) u)
                have hsg:signD (flN true false) 111 false=[43]:=by rfl
                have HR3:=hid (show R=([43]++(f++body),0) by first|(rw [HR2.out,hsg];done)|(rw [HR2.out,hsg];rfl))
                clear HR2 hsg
                go_enter Tryz.func20,Tryz.ntmps20
                go_wp2_with (first|(go_at_call 11;refine HCAN.out.mono ?_;rintro e w1 ⟨rfl,hb1⟩;have HB1:=hid hb1;clear hb1)|(go_at_call 60;refine (HBS.out _).mono ?_;rintro e w2 ⟨rfl,hb2⟩;have HB2:=hid (HB1.out.trans (hb2.mono HB1.out.size));clear hb2)|(go_at_call 61;refine (HCUT.out _).mono ?_;rintro e w3 ⟨rfl,h3⟩;subst h3)|(go_at_call 62;refine (HPF.out _).mono ?_;rintro e w4 ⟨rfl,h4⟩;subst h4)|(go_at_call 58;refine (HREP.out _).mono ?_;rintro e w5 ⟨rfl,hb5⟩;have HB5:=hid (HB2.out.trans (hb5.mono HB2.out.size));clear hb5))
                go_ret2
                exact ⟨by rw [HR3.out];rfl,by first | exact HB5.out | exact HB2.out⟩
            | false=>
              cases pfx with
              | true=>
                have hcat:(⟨#[]⟩:ByteArray) ++ ⟨#[48,111]⟩=⟨#[48,111]⟩:=by kernel_rfl
                have hc2:=fun u=>(show (Op.stringOp .add ⟨#[48,111]⟩ ⟨(f++body).toArray⟩).run Tryz.prog u=.ok (.string ⟨([48,111]++(f++body)).toArray⟩) u from cat_run [48,111] (f++body) (by decide) (by first | omega|(rw [List.length_append];omega)) u)
                have hsg:signD (flN false true) 111 false=[48,111]:=by rfl
                have HR3:=hid (show R=([48,111]++(f++body),0) by first|(rw [HR2.out,hsg];done)|(rw [HR2.out,hsg];rfl))
                clear HR2 hsg
                go_enter Tryz.func20,Tryz.ntmps20
                go_wp2_with (first|(go_at_call 11;refine HCAN.out.mono ?_;rintro e w1 ⟨rfl,hb1⟩;have HB1:=hid hb1;clear hb1)|(go_at_call 60;refine (HBS.out _).mono ?_;rintro e w2 ⟨rfl,hb2⟩;have HB2:=hid (HB1.out.trans (hb2.mono HB1.out.size));clear hb2)|(go_at_call 61;refine (HCUT.out _).mono ?_;rintro e w3 ⟨rfl,h3⟩;subst h3)|(go_at_call 62;refine (HPF.out _).mono ?_;rintro e w4 ⟨rfl,h4⟩;subst h4)|(go_at_call 58;refine (HREP.out _).mono ?_;rintro e w5 ⟨rfl,hb5⟩;have HB5:=hid (HB2.out.trans (hb5.mono HB2.out.size));clear hb5))
                go_ret2
                exact ⟨by rw [HR3.out];rfl,by first | exact HB5.out | exact HB2.out⟩
              | false=>
                have hc2:=fun u=>(show (Op.stringOp .add ⟨#[]⟩ ⟨(f++body).toArray⟩).run Tryz.prog u=.ok (.string ⟨([]++(f++body)).toArray⟩) u from cat_run [] (f++body) (by decide) (by first | omega|(rw [List.length_append];omega)) u)
                have hsg:signD (flN false false) 111 false=[]:=by rfl
                have HR3:=hid (show R=([]++(f++body),0) by first|(rw [HR2.out,hsg];done)|(rw [HR2.out,hsg];rfl))
                clear HR2 hsg
                go_enter Tryz.func20,Tryz.ntmps20
                go_wp2_with (first|(go_at_call 11;refine HCAN.out.mono ?_;rintro e w1 ⟨rfl,hb1⟩;have HB1:=hid hb1;clear hb1)|(go_at_call 60;refine (HBS.out _).mono ?_;rintro e w2 ⟨rfl,hb2⟩;have HB2:=hid (HB1.out.trans (hb2.mono HB1.out.size));clear hb2)|(go_at_call 61;refine (HCUT.out _).mono ?_;rintro e w3 ⟨rfl,h3⟩;subst h3)|(go_at_call 62;refine (HPF.out _).mono ?_;rintro e w4 ⟨rfl,h4⟩;subst h4)|(go_at_call 58;refine (HREP.out _).mono ?_;rintro e w5 ⟨rfl,hb5⟩;have HB5:=hid (HB2.out.trans (hb5.mono HB2.out.size));clear hb5))
                go_ret2
                exact ⟨by rw [HR3.out];rfl,by first | exact HB5.out | exact HB2.out⟩
        · have hk0:k=0:=by omega
          have hf0:f=[]:=List.eq_nil_of_length_eq_zero (by rw [hfl];exact hk0)
          subst hf0
          clear hk hf hk0 hfl
          have hdl:decide ((body.length:Int)<digits)=false:=decide_eq_false hlt
          cases ng with
          | true=>
            cases pfx with
            | true=>
              have hcat:(⟨#[45]⟩:ByteArray) ++ ⟨#[48,111]⟩=⟨#[45,48,111]⟩:=by kernel_rfl
              have hc2:=fun u=>(show (Op.stringOp .add ⟨#[45,48,111]⟩ ⟨(body).toArray⟩).run Tryz.prog u=.ok (.string ⟨([45,48,111]++(body)).toArray⟩) u from cat_run [45,48,111] (body) (by decide) (by first | omega|(rw [List.length_append];omega)) u)
              have hsg:signD (flN plus true) 111 true=[45,48,111]:=by unfold signD flN;cases plus<;>rfl
              have HR3:=hid (show R=([45,48,111]++(body),0) by first|(rw [HR2.out,hsg];done)|(rw [HR2.out,hsg];rfl))
              clear HR2 hsg
              go_enter Tryz.func20,Tryz.ntmps20
              go_wp2_with (first|(go_at_call 11;refine HCAN.out.mono ?_;rintro e w1 ⟨rfl,hb1⟩;have HB1:=hid hb1;clear hb1)|(go_at_call 60;refine (HBS.out _).mono ?_;rintro e w2 ⟨rfl,hb2⟩;have HB2:=hid (HB1.out.trans (hb2.mono HB1.out.size));clear hb2)|(go_at_call 61;refine (HCUT.out _).mono ?_;rintro e w3 ⟨rfl,h3⟩;subst h3)|(go_at_call 62;refine (HPF.out _).mono ?_;rintro e w4 ⟨rfl,h4⟩;subst h4)|(go_at_call 58;refine (HREP.out _).mono ?_;rintro e w5 ⟨rfl,hb5⟩;have HB5:=hid (HB2.out.trans (hb5.mono HB2.out.size));clear hb5))
              go_ret2
              exact ⟨by rw [HR3.out];rfl,by first | exact HB5.out | exact HB2.out⟩
            | false=>
              have hc2:=fun u=>(show (Op.stringOp .add ⟨#[45]⟩ ⟨(body).toArray⟩).run Tryz.prog u=.ok (.string ⟨([45]++(body)).toArray⟩) u from cat_run [45] (body) (by decide) (by first | omega|(rw [List.length_append];omega)) u)
              have hsg:signD (flN plus false) 111 true=[45]:=by unfold signD flN;cases plus<;>rfl
              have HR3:=hid (show R=([45]++(body),0) by first|(rw [HR2.out,hsg];done)|(rw [HR2.out,hsg];rfl))
              clear HR2 hsg
              go_enter Tryz.func20,Tryz.ntmps20
              go_wp2_with (first|(go_at_call 11;refine HCAN.out.mono ?_;rintro e w1 ⟨rfl,hb1⟩;have HB1:=hid hb1;clear hb1)|(go_at_call 60;refine (HBS.out _).mono ?_;rintro e w2 ⟨rfl,hb2⟩;have HB2:=hid (HB1.out.trans (hb2.mono HB1.out.size));clear hb2)|(go_at_call 61;refine (HCUT.out _).mono ?_;rintro e w3 ⟨rfl,h3⟩;subst h3)|(go_at_call 62;refine (HPF.out _).mono ?_;rintro e w4 ⟨rfl,h4⟩;subst h4)|(go_at_call 58;refine (HREP.out _).mono ?_;rintro e w5 ⟨rfl,hb5⟩;have HB5:=hid (HB2.out.trans (hb5.mono HB2.out.size));clear hb5))
              go_ret2
              exact ⟨by rw [HR3.out];rfl,by first | exact HB5.out | exact HB2.out⟩
          | false=>
            cases plus with
            | true=>
              cases pfx with
              | true=>
                have hcat:(⟨#[43]⟩:ByteArray) ++ ⟨#[48,111]⟩=⟨#[43,48,111]⟩:=by kernel_rfl
                have hc2:=fun u=>(show (Op.stringOp .add ⟨#[43,48,111]⟩ ⟨(body).toArray⟩).run Tryz.prog u=.ok (.string ⟨([43,48,111]++(body)).toArray⟩) u from cat_run [43,48,111] (body) (by decide) (by first | omega|(rw [List.length_append];omega)) u)
                have hsg:signD (flN true true) 111 false=[43,48,111]:=by rfl
                have HR3:=hid (show R=([43,48,111]++(body),0) by first|(rw [HR2.out,hsg];done)|(rw [HR2.out,hsg];rfl))
                clear HR2 hsg
                go_enter Tryz.func20,Tryz.ntmps20
                go_wp2_with (first|(go_at_call 11;refine HCAN.out.mono ?_;rintro e w1 ⟨rfl,hb1⟩;have HB1:=hid hb1;clear hb1)|(go_at_call 60;refine (HBS.out _).mono ?_;rintro e w2 ⟨rfl,hb2⟩;have HB2:=hid (HB1.out.trans (hb2.mono HB1.out.size));clear hb2)|(go_at_call 61;refine (HCUT.out _).mono ?_;rintro e w3 ⟨rfl,h3⟩;subst h3)|(go_at_call 62;refine (HPF.out _).mono ?_;rintro e w4 ⟨rfl,h4⟩;subst h4)|(go_at_call 58;refine (HREP.out _).mono ?_;rintro e w5 ⟨rfl,hb5⟩;have HB5:=hid (HB2.out.trans (hb5.mono HB2.out.size));clear hb5))
                go_ret2
                exact ⟨by rw [HR3.out];rfl,by first | exact HB5.out | exact HB2.out⟩
              | false=>
                have hc2:=fun u=>(show (Op.stringOp .add ⟨#[43]⟩ ⟨(body).toArray⟩).run Tryz.prog u=.ok (.string ⟨([43]++(body)).toArray⟩) u from cat_run [43] (body) (by decide) (by first | omega|(rw [List.length_append];omega)) u)
                have hsg:signD (flN true false) 111 false=[43]:=by rfl
                have HR3:=hid (show R=([43]++(body),0) by first|(rw [HR2.out,hsg];done)|(rw [HR2.out,hsg];rfl))
                clear HR2 hsg
                go_enter Tryz.func20,Tryz.ntmps20
                go_wp2_with (first|(go_at_call 11;refine HCAN.out.mono ?_;rintro e w1 ⟨rfl,hb1⟩;have HB1:=hid hb1;clear hb1)|(go_at_call 60;refine (HBS.out _).mono ?_;rintro e w2 ⟨rfl,hb2⟩;have HB2:=hid (HB1.out.trans (hb2.mono HB1.out.size));clear hb2)|(go_at_call 61;refine (HCUT.out _).mono ?_;rintro e w3 ⟨rfl,h3⟩;subst h3)|(go_at_call 62;refine (HPF.out _).mono ?_;rintro e w4 ⟨rfl,h4⟩;subst h4)|(go_at_call 58;refine (HREP.out _).mono ?_;rintro e w5 ⟨rfl,hb5⟩;have HB5:=hid (HB2.out.trans (hb5.mono HB2.out.size));clear hb5))
                go_ret2
                exact ⟨by rw [HR3.out];rfl,by first | exact HB5.out | exact HB2.out⟩
            | false=>
              cases pfx with
              | true=>
                have hcat:(⟨#[]⟩:ByteArray) ++ ⟨#[48,111]⟩=⟨#[48,111]⟩:=by kernel_rfl
                have hc2:=fun u=>(show (Op.stringOp .add ⟨#[48,111]⟩ ⟨(body).toArray⟩).run Tryz.prog u=.ok (.string ⟨([48,111]++(body)).toArray⟩) u from cat_run [48,111] (body) (by decide) (by first | omega|(rw [List.length_append];omega)) u)
                have hsg:signD (flN false true) 111 false=[48,111]:=by rfl
                have HR3:=hid (show R=([48,111]++(body),0) by first|(rw [HR2.out,hsg];done)|(rw [HR2.out,hsg];rfl))
                clear HR2 hsg
                go_enter Tryz.func20,Tryz.ntmps20
                go_wp2_with (first|(go_at_call 11;refine HCAN.out.mono ?_;rintro e w1 ⟨rfl,hb1⟩;have HB1:=hid hb1;clear hb1)|(go_at_call 60;refine (HBS.out _).mono ?_;rintro e w2 ⟨rfl,hb2⟩;have HB2:=hid (HB1.out.trans (hb2.mono HB1.out.size));clear hb2)|(go_at_call 61;refine (HCUT.out _).mono ?_;rintro e w3 ⟨rfl,h3⟩;subst h3)|(go_at_call 62;refine (HPF.out _).mono ?_;rintro e w4 ⟨rfl,h4⟩;subst h4)|(go_at_call 58;refine (HREP.out _).mono ?_;rintro e w5 ⟨rfl,hb5⟩;have HB5:=hid (HB2.out.trans (hb5.mono HB2.out.size));clear hb5))
                go_ret2
                exact ⟨by rw [HR3.out];rfl,by first | exact HB5.out | exact HB2.out⟩
              | false=>
                have hc2:=fun u=>(show (Op.stringOp .add ⟨#[]⟩ ⟨(body).toArray⟩).run Tryz.prog u=.ok (.string ⟨([]++(body)).toArray⟩) u from cat_run [] (body) (by decide) (by first | omega|(rw [List.length_append];omega)) u)
                have hsg:signD (flN false false) 111 false=[]:=by rfl
                have HR3:=hid (show R=([]++(body),0) by first|(rw [HR2.out,hsg];done)|(rw [HR2.out,hsg];rfl))
                clear HR2 hsg
                go_enter Tryz.func20,Tryz.ntmps20
                go_wp2_with (first|(go_at_call 11;refine HCAN.out.mono ?_;rintro e w1 ⟨rfl,hb1⟩;have HB1:=hid hb1;clear hb1)|(go_at_call 60;refine (HBS.out _).mono ?_;rintro e w2 ⟨rfl,hb2⟩;have HB2:=hid (HB1.out.trans (hb2.mono HB1.out.size));clear hb2)|(go_at_call 61;refine (HCUT.out _).mono ?_;rintro e w3 ⟨rfl,h3⟩;subst h3)|(go_at_call 62;refine (HPF.out _).mono ?_;rintro e w4 ⟨rfl,h4⟩;subst h4)|(go_at_call 58;refine (HREP.out _).mono ?_;rintro e w5 ⟨rfl,hb5⟩;have HB5:=hid (HB2.out.trans (hb5.mono HB2.out.size));clear hb5))
                go_ret2
                exact ⟨by rw [HR3.out];rfl,by first | exact HB5.out | exact HB2.out⟩
    by_cases b3:base=10
    · subst b3
      rcases can_base s 10 (by decide) (by decide) with ⟨e,he,h1,h2⟩ | ⟨t,d,h1,h2,h3,h4,h5⟩
      · have HR2:=hid (show R=([],e) by rw [HR.out];exact numP_err (c:=100) rfl HD.out he h2)
        rw [h1] at HCAN
        clear HR h1 h2
        rcases he with rfl | rfl
        · go_enter Tryz.func20,Tryz.ntmps20
          go_wp2_with ((with_reducible refine HCAN.out.mono ?_);rintro e w1 ⟨rfl,hb1⟩)
          go_ret2
          exact ⟨by rw [HR2.out];rfl,hb1⟩
        · go_enter Tryz.func20,Tryz.ntmps20
          go_wp2_with ((with_reducible refine HCAN.out.mono ?_);rintro e w1 ⟨rfl,hb1⟩)
          go_ret2
          exact ⟨by rw [HR2.out];rfl,hb1⟩
      · have HR2:=hid (show R=(signD (flN plus pfx) 100 (negD d)++padD digits (bodyD 100 d),0) by rw [HR.out];exact numP_ok (c:=100) rfl HD.out h3)
        rw [h1] at HCAN
        have HBS:=hid (fun u=>by have h:=baseR_fn t (by omega) 10 u;rw [show baseRes t 10=(d,0) from h2] at h;exact h)
        have HCUT:=hid (fun u=>cut_neg d (by omega) u)
        obtain ⟨body,hbody⟩:∃ body,body=if negD d then d.tail else d:=⟨_,rfl⟩
        have hbl:body.length≤2011:=by
          rw [hbody]
          split
          · rw [List.length_tail];omega
          · omega
        rw [← hbody] at HCUT
        have hbd:bodyD 100 d=body:=by rw [hbody];rfl
        rw [hbd] at HR2
        obtain ⟨ng,hng⟩:∃ ng,ng=negD d:=⟨_,rfl⟩
        rw [← hng] at HCUT HR2
        have HPF:=hid pre10_fn
        clear HR h1 h2 h3 hbody hbd hng h4
        obtain ⟨k,hk⟩:∃ k,k=(digits-(body.length:Int)).toNat:=⟨_,rfl⟩
        have HREP:=hid (fun u=>repeat_fn 48 rfl k (by omega) u)
        obtain ⟨f,hf⟩:∃ f,f=List.replicate k (48:UInt8):=⟨_,rfl⟩
        have hfl:f.length=k:=by rw [hf];simp
        have hpd:padD digits body=f++body:=by rw [hf,hk];rfl
        rw [hpd] at HR2
        rw [← hf] at HREP
        have hc1:=cat_run f body (by omega) (by omega)
        clear hpd
        by_cases hlt:(body.length:Int)<digits
        · have hkI:digits-(body.length:Int)=(k:Nat):=by omega
          clear hk hf
          have hdl:decide ((body.length:Int)<digits)=true:=decide_eq_true hlt
          cases ng with
          | true=>
            cases pfx with
            | true=>
              have hcat:(⟨#[45]⟩:ByteArray) ++ ⟨#[]⟩=⟨#[45]⟩:=by kernel_rfl
              have hc2:=fun u=>(show (Op.stringOp .add ⟨#[45]⟩ ⟨(f++body).toArray⟩).run Tryz.prog u=.ok (.string ⟨([45]++(f++body)).toArray⟩) u from cat_run [45] (f++body) (by decide) (by first | omega|(rw [List.length_append];omega)) u)
              have hsg:signD (flN plus true) 100 true=[45]:=by unfold signD flN;cases plus<;>rfl
              have HR3:=hid (show R=([45]++(f++body),0) by first|(rw [HR2.out,hsg];done)|(rw [HR2.out,hsg];rfl))
              clear HR2 hsg
              go_enter Tryz.func20,Tryz.ntmps20
              go_wp2_with (first|(go_at_call 11;refine HCAN.out.mono ?_;rintro e w1 ⟨rfl,hb1⟩;have HB1:=hid hb1;clear hb1)|(go_at_call 60;refine (HBS.out _).mono ?_;rintro e w2 ⟨rfl,hb2⟩;have HB2:=hid (HB1.out.trans (hb2.mono HB1.out.size));clear hb2)|(go_at_call 61;refine (HCUT.out _).mono ?_;rintro e w3 ⟨rfl,h3⟩;subst h3)|(go_at_call 62;refine (HPF.out _).mono ?_;rintro e w4 ⟨rfl,h4⟩;subst h4)|(go_at_call 58;refine (HREP.out _).mono ?_;rintro e w5 ⟨rfl,hb5⟩;have HB5:=hid (HB2.out.trans (hb5.mono HB2.out.size));clear hb5))
              go_ret2
              exact ⟨by rw [HR3.out];rfl,by first | exact HB5.out | exact HB2.out⟩
            | false=>
              have hc2:=fun u=>(show (Op.stringOp .add ⟨#[45]⟩ ⟨(f++body).toArray⟩).run Tryz.prog u=.ok (.string ⟨([45]++(f++body)).toArray⟩) u from cat_run [45] (f++body) (by decide) (by first | omega|(rw [List.length_append];omega)) u)
              have hsg:signD (flN plus false) 100 true=[45]:=by unfold signD flN;cases plus<;>rfl
              have HR3:=hid (show R=([45]++(f++body),0) by first|(rw [HR2.out,hsg];done)|(rw [HR2.out,hsg];rfl))
              clear HR2 hsg
              go_enter Tryz.func20,Tryz.ntmps20
              go_wp2_with (first|(go_at_call 11;refine HCAN.out.mono ?_;rintro e w1 ⟨rfl,hb1⟩;have HB1:=hid hb1;clear hb1)|(go_at_call 60;refine (HBS.out _).mono ?_;rintro e w2 ⟨rfl,hb2⟩;have HB2:=hid (HB1.out.trans (hb2.mono HB1.out.size));clear hb2)|(go_at_call 61;refine (HCUT.out _).mono ?_;rintro e w3 ⟨rfl,h3⟩;subst h3)|(go_at_call 62;refine (HPF.out _).mono ?_;rintro e w4 ⟨rfl,h4⟩;subst h4)|(go_at_call 58;refine (HREP.out _).mono ?_;rintro e w5 ⟨rfl,hb5⟩;have HB5:=hid (HB2.out.trans (hb5.mono HB2.out.size));clear hb5))
              go_ret2
              exact ⟨by rw [HR3.out];rfl,by first | exact HB5.out | exact HB2.out⟩
          | false=>
            cases plus with
            | true=>
              cases pfx with
              | true=>
                have hcat:(⟨#[43]⟩:ByteArray) ++ ⟨#[]⟩=⟨#[43]⟩:=by kernel_rfl
                have hc2:=fun u=>(show (Op.stringOp .add ⟨#[43]⟩ ⟨(f++body).toArray⟩).run Tryz.prog u=.ok (.string ⟨([43]++(f++body)).toArray⟩) u from cat_run [43] (f++body) (by decide) (by first | omega|(rw [List.length_append];omega)) u)
                have hsg:signD (flN true true) 100 false=[43]:=by rfl
                have HR3:=hid (show R=([43]++(f++body),0) by first|(rw [HR2.out,hsg];done)|(rw [HR2.out,hsg];rfl))
                clear HR2 hsg
                go_enter Tryz.func20,Tryz.ntmps20
                go_wp2_with (first|(go_at_call 11;refine HCAN.out.mono ?_;rintro e w1 ⟨rfl,hb1⟩;have HB1:=hid hb1;clear hb1)|(go_at_call 60;refine (HBS.out _).mono ?_;rintro e w2 ⟨rfl,hb2⟩;have HB2:=hid (HB1.out.trans (hb2.mono HB1.out.size));clear hb2)|(go_at_call 61;refine (HCUT.out _).mono ?_;rintro e w3 ⟨rfl,h3⟩;subst h3)|(go_at_call 62;refine (HPF.out _).mono ?_;rintro e w4 ⟨rfl,h4⟩;subst h4)|(go_at_call 58;refine (HREP.out _).mono ?_;rintro e w5 ⟨rfl,hb5⟩;have HB5:=hid (HB2.out.trans (hb5.mono HB2.out.size));clear hb5))
                go_ret2
                exact ⟨by rw [HR3.out];rfl,by first | exact HB5.out | exact HB2.out⟩
              | false=>
                have hc2:=fun u=>(show (Op.stringOp .add ⟨#[43]⟩ ⟨(f++body).toArray⟩).run Tryz.prog u=.ok (.string ⟨([43]++(f++body)).toArray⟩) u from cat_run [43] (f++body) (by decide) (by first | omega|(rw [List.length_append];omega)) u)
                have hsg:signD (flN true false) 100 false=[43]:=by rfl
                have HR3:=hid (show R=([43]++(f++body),0) by first|(rw [HR2.out,hsg];done)|(rw [HR2.out,hsg];rfl))
                clear HR2 hsg
                go_enter Tryz.func20,Tryz.ntmps20
                go_wp2_with (first|(go_at_call 11;refine HCAN.out.mono ?_;rintro e w1 ⟨rfl,hb1⟩;have HB1:=hid hb1;clear hb1)|(go_at_call 60;refine (HBS.out _).mono ?_;rintro e w2 ⟨rfl,hb2⟩;have HB2:=hid (HB1.out.trans (hb2.mono HB1.out.size));clear hb2)|(go_at_call 61;refine (HCUT.out _).mono ?_;rintro e w3 ⟨rfl,h3⟩;subst h3)|(go_at_call 62;refine (HPF.out _).mono ?_;rintro e w4 ⟨rfl,h4⟩;subst h4)|(go_at_call 58;refine (HREP.out _).mono ?_;rintro e w5 ⟨rfl,hb5⟩;have HB5:=hid (HB2.out.trans (hb5.mono HB2.out.size));clear hb5))
                go_ret2
                exact ⟨by rw [HR3.out];rfl,by first | exact HB5.out | exact HB2.out⟩
            | false=>
              cases pfx with
              | true=>
                have hcat:(⟨#[]⟩:ByteArray) ++ ⟨#[]⟩=⟨#[]⟩:=by kernel_rfl
                have hc2:=fun u=>(show (Op.stringOp .add ⟨#[]⟩ ⟨(f++body).toArray⟩).run Tryz.prog u=.ok (.string ⟨([]++(f++body)).toArray⟩) u from cat_run [] (f++body) (by decide) (by first | omega|(rw [List.length_append];omega)) u)
                have hsg:signD (flN false true) 100 false=[]:=by rfl
                have HR3:=hid (show R=([]++(f++body),0) by first|(rw [HR2.out,hsg];done)|(rw [HR2.out,hsg];rfl))
                clear HR2 hsg
                go_enter Tryz.func20,Tryz.ntmps20
                go_wp2_with (first|(go_at_call 11;refine HCAN.out.mono ?_;rintro e w1 ⟨rfl,hb1⟩;have HB1:=hid hb1;clear hb1)|(go_at_call 60;refine (HBS.out _).mono ?_;rintro e w2 ⟨rfl,hb2⟩;have HB2:=hid (HB1.out.trans (hb2.mono HB1.out.size));clear hb2)|(go_at_call 61;refine (HCUT.out _).mono ?_;rintro e w3 ⟨rfl,h3⟩;subst h3)|(go_at_call 62;refine (HPF.out _).mono ?_;rintro e w4 ⟨rfl,h4⟩;subst h4)|(go_at_call 58;refine (HREP.out _).mono ?_;rintro e w5 ⟨rfl,hb5⟩;have HB5:=hid (HB2.out.trans (hb5.mono HB2.out.size));clear hb5))
                go_ret2
                exact ⟨by rw [HR3.out];rfl,by first | exact HB5.out | exact HB2.out⟩
              | false=>
                have hc2:=fun u=>(show (Op.stringOp .add ⟨#[]⟩ ⟨(f++body).toArray⟩).run Tryz.prog u=.ok (.string ⟨([]++(f++body)).toArray⟩) u from cat_run [] (f++body) (by decide) (by first | omega|(rw [List.length_append];omega)) u)
                have hsg:signD (flN false false) 100 false=[]:=by rfl
                have HR3:=hid (show R=([]++(f++body),0) by first|(rw [HR2.out,hsg];done)|(rw [HR2.out,hsg];rfl))
                clear HR2 hsg
                go_enter Tryz.func20,Tryz.ntmps20
                go_wp2_with (first|(go_at_call 11;refine HCAN.out.mono ?_;rintro e w1 ⟨rfl,hb1⟩;have HB1:=hid hb1;clear hb1)|(go_at_call 60;refine (HBS.out _).mono ?_;rintro e w2 ⟨rfl,hb2⟩;have HB2:=hid (HB1.out.trans (hb2.mono HB1.out.size));clear hb2)|(go_at_call 61;refine (HCUT.out _).mono ?_;rintro e w3 ⟨rfl,h3⟩;subst h3)|(go_at_call 62;refine (HPF.out _).mono ?_;rintro e w4 ⟨rfl,h4⟩;subst h4)|(go_at_call 58;refine (HREP.out _).mono ?_;rintro e w5 ⟨rfl,hb5⟩;have HB5:=hid (HB2.out.trans (hb5.mono HB2.out.size));clear hb5))
                go_ret2
                exact ⟨by rw [HR3.out];rfl,by first | exact HB5.out | exact HB2.out⟩
        · have hk0:k=0:=by omega
          have hf0:f=[]:=List.eq_nil_of_length_eq_zero (by rw [hfl];exact hk0)
          subst hf0
          clear hk hf hk0 hfl
          have hdl:decide ((body.length:Int)<digits)=false:=decide_eq_false hlt
          cases ng with
          | true=>
            cases pfx with
            | true=>
              have hcat:(⟨#[45]⟩:ByteArray) ++ ⟨#[]⟩=⟨#[45]⟩:=by kernel_rfl
              have hc2:=fun u=>(show (Op.stringOp .add ⟨#[45]⟩ ⟨(body).toArray⟩).run Tryz.prog u=.ok (.string ⟨([45]++(body)).toArray⟩) u from cat_run [45] (body) (by decide) (by first | omega|(rw [List.length_append];omega)) u)
              have hsg:signD (flN plus true) 100 true=[45]:=by unfold signD flN;cases plus<;>rfl
              have HR3:=hid (show R=([45]++(body),0) by first|(rw [HR2.out,hsg];done)|(rw [HR2.out,hsg];rfl))
              clear HR2 hsg
              go_enter Tryz.func20,Tryz.ntmps20
              go_wp2_with (first|(go_at_call 11;refine HCAN.out.mono ?_;rintro e w1 ⟨rfl,hb1⟩;have HB1:=hid hb1;clear hb1)|(go_at_call 60;refine (HBS.out _).mono ?_;rintro e w2 ⟨rfl,hb2⟩;have HB2:=hid (HB1.out.trans (hb2.mono HB1.out.size));clear hb2)|(go_at_call 61;refine (HCUT.out _).mono ?_;rintro e w3 ⟨rfl,h3⟩;subst h3)|(go_at_call 62;refine (HPF.out _).mono ?_;rintro e w4 ⟨rfl,h4⟩;subst h4)|(go_at_call 58;refine (HREP.out _).mono ?_;rintro e w5 ⟨rfl,hb5⟩;have HB5:=hid (HB2.out.trans (hb5.mono HB2.out.size));clear hb5))
              go_ret2
              exact ⟨by rw [HR3.out];rfl,by first | exact HB5.out | exact HB2.out⟩
            | false=>
              have hc2:=fun u=>(show (Op.stringOp .add ⟨#[45]⟩ ⟨(body).toArray⟩).run Tryz.prog u=.ok (.string ⟨([45]++(body)).toArray⟩) u from cat_run [45] (body) (by decide) (by first | omega|(rw [List.length_append];omega)) u)
              have hsg:signD (flN plus false) 100 true=[45]:=by unfold signD flN;cases plus<;>rfl
              have HR3:=hid (show R=([45]++(body),0) by first|(rw [HR2.out,hsg];done)|(rw [HR2.out,hsg];rfl))
              clear HR2 hsg
              go_enter Tryz.func20,Tryz.ntmps20
              go_wp2_with (first|(go_at_call 11;refine HCAN.out.mono ?_;rintro e w1 ⟨rfl,hb1⟩;have HB1:=hid hb1;clear hb1)|(go_at_call 60;refine (HBS.out _).mono ?_;rintro e w2 ⟨rfl,hb2⟩;have HB2:=hid (HB1.out.trans (hb2.mono HB1.out.size));clear hb2)|(go_at_call 61;refine (HCUT.out _).mono ?_;rintro e w3 ⟨rfl,h3⟩;subst h3)|(go_at_call 62;refine (HPF.out _).mono ?_;rintro e w4 ⟨rfl,h4⟩;subst h4)|(go_at_call 58;refine (HREP.out _).mono ?_;rintro e w5 ⟨rfl,hb5⟩;have HB5:=hid (HB2.out.trans (hb5.mono HB2.out.size));clear hb5))
              go_ret2
              exact ⟨by rw [HR3.out];rfl,by first | exact HB5.out | exact HB2.out⟩
          | false=>
            cases plus with
            | true=>
              cases pfx with
              | true=>
                have hcat:(⟨#[43]⟩:ByteArray) ++ ⟨#[]⟩=⟨#[43]⟩:=by kernel_rfl
                have hc2:=fun u=>(show (Op.stringOp .add ⟨#[43]⟩ ⟨(body).toArray⟩).run Tryz.prog u=.ok (.string ⟨([43]++(body)).toArray⟩) u from cat_run [43] (body) (by decide) (by first | omega|(rw [List.length_append];omega)) u)
                have hsg:signD (flN true true) 100 false=[43]:=by rfl
                have HR3:=hid (show R=([43]++(body),0) by first|(rw [HR2.out,hsg];done)|(rw [HR2.out,hsg];rfl))
                clear HR2 hsg
                go_enter Tryz.func20,Tryz.ntmps20
                go_wp2_with (first|(go_at_call 11;refine HCAN.out.mono ?_;rintro e w1 ⟨rfl,hb1⟩;have HB1:=hid hb1;clear hb1)|(go_at_call 60;refine (HBS.out _).mono ?_;rintro e w2 ⟨rfl,hb2⟩;have HB2:=hid (HB1.out.trans (hb2.mono HB1.out.size));clear hb2)|(go_at_call 61;refine (HCUT.out _).mono ?_;rintro e w3 ⟨rfl,h3⟩;subst h3)|(go_at_call 62;refine (HPF.out _).mono ?_;rintro e w4 ⟨rfl,h4⟩;subst h4)|(go_at_call 58;refine (HREP.out _).mono ?_;rintro e w5 ⟨rfl,hb5⟩;have HB5:=hid (HB2.out.trans (hb5.mono HB2.out.size));clear hb5))
                go_ret2
                exact ⟨by rw [HR3.out];rfl,by first | exact HB5.out | exact HB2.out⟩
              | false=>
                have hc2:=fun u=>(show (Op.stringOp .add ⟨#[43]⟩ ⟨(body).toArray⟩).run Tryz.prog u=.ok (.string ⟨([43]++(body)).toArray⟩) u from cat_run [43] (body) (by decide) (by first | omega|(rw [List.length_append];omega)) u)
                have hsg:signD (flN true false) 100 false=[43]:=by rfl
                have HR3:=hid (show R=([43]++(body),0) by first|(rw [HR2.out,hsg];done)|(rw [HR2.out,hsg];rfl))
                clear HR2 hsg
                go_enter Tryz.func20,Tryz.ntmps20
                go_wp2_with (first|(go_at_call 11;refine HCAN.out.mono ?_;rintro e w1 ⟨rfl,hb1⟩;have HB1:=hid hb1;clear hb1)|(go_at_call 60;refine (HBS.out _).mono ?_;rintro e w2 ⟨rfl,hb2⟩;have HB2:=hid (HB1.out.trans (hb2.mono HB1.out.size));clear hb2)|(go_at_call 61;refine (HCUT.out _).mono ?_;rintro e w3 ⟨rfl,h3⟩;subst h3)|(go_at_call 62;refine (HPF.out _).mono ?_;rintro e w4 ⟨rfl,h4⟩;subst h4)|(go_at_call 58;refine (HREP.out _).mono ?_;rintro e w5 ⟨rfl,hb5⟩;have HB5:=hid (HB2.out.trans (hb5.mono HB2.out.size));clear hb5))
                go_ret2
                exact ⟨by rw [HR3.out];rfl,by first | exact HB5.out | exact HB2.out⟩
            | false=>
              cases pfx with
              | true=>
                have hcat:(⟨#[]⟩:ByteArray) ++ ⟨#[]⟩=⟨#[]⟩:=by kernel_rfl
                have hc2:=fun u=>(show (Op.stringOp .add ⟨#[]⟩ ⟨(body).toArray⟩).run Tryz.prog u=.ok (.string ⟨([]++(body)).toArray⟩) u from cat_run [] (body) (by decide) (by first | omega|(rw [List.length_append];omega)) u)
                have hsg:signD (flN false true) 100 false=[]:=by rfl
                have HR3:=hid (show R=([]++(body),0) by first|(rw [HR2.out,hsg];done)|(rw [HR2.out,hsg];rfl))
                clear HR2 hsg
                go_enter Tryz.func20,Tryz.ntmps20
                go_wp2_with (first|(go_at_call 11;refine HCAN.out.mono ?_;rintro e w1 ⟨rfl,hb1⟩;have HB1:=hid hb1;clear hb1)|(go_at_call 60;refine (HBS.out _).mono ?_;rintro e w2 ⟨rfl,hb2⟩;have HB2:=hid (HB1.out.trans (hb2.mono HB1.out.size));clear hb2)|(go_at_call 61;refine (HCUT.out _).mono ?_;rintro e w3 ⟨rfl,h3⟩;subst h3)|(go_at_call 62;refine (HPF.out _).mono ?_;rintro e w4 ⟨rfl,h4⟩;subst h4)|(go_at_call 58;refine (HREP.out _).mono ?_;rintro e w5 ⟨rfl,hb5⟩;have HB5:=hid (HB2.out.trans (hb5.mono HB2.out.size));clear hb5))
                go_ret2
                exact ⟨by rw [HR3.out];rfl,by first | exact HB5.out | exact HB2.out⟩
              | false=>
                have hc2:=fun u=>(show (Op.stringOp .add ⟨#[]⟩ ⟨(body).toArray⟩).run Tryz.prog u=.ok (.string ⟨([]++(body)).toArray⟩) u from cat_run [] (body) (by decide) (by first | omega|(rw [List.length_append];omega)) u)
                have hsg:signD (flN false false) 100 false=[]:=by rfl
                have HR3:=hid (show R=([]++(body),0) by first|(rw [HR2.out,hsg];done)|(rw [HR2.out,hsg];rfl))
                clear HR2 hsg
                go_enter Tryz.func20,Tryz.ntmps20
                go_wp2_with (first|(go_at_call 11;refine HCAN.out.mono ?_;rintro e w1 ⟨rfl,hb1⟩;have HB1:=hid hb1;clear hb1)|(go_at_call 60;refine (HBS.out _).mono ?_;rintro e w2 ⟨rfl,hb2⟩;have HB2:=hid (HB1.out.trans (hb2.mono HB1.out.size));clear hb2)|(go_at_call 61;refine (HCUT.out _).mono ?_;rintro e w3 ⟨rfl,h3⟩;subst h3)|(go_at_call 62;refine (HPF.out _).mono ?_;rintro e w4 ⟨rfl,h4⟩;subst h4)|(go_at_call 58;refine (HREP.out _).mono ?_;rintro e w5 ⟨rfl,hb5⟩;have HB5:=hid (HB2.out.trans (hb5.mono HB2.out.size));clear hb5))
                go_ret2
                exact ⟨by rw [HR3.out];rfl,by first | exact HB5.out | exact HB2.out⟩
    by_cases b4:base=16
    · subst b4
      rcases can_base s 16 (by decide) (by decide) with ⟨e,he,h1,h2⟩ | ⟨t,d,h1,h2,h3,h4,h5⟩
      · have HR2:=hid (show R=([],e) by rw [HR.out];exact numP_err (c:=120) rfl HD.out he h2)
        rw [h1] at HCAN
        clear HR h1 h2
        rcases he with rfl | rfl
        · go_enter Tryz.func20,Tryz.ntmps20
          go_wp2_with ((with_reducible refine HCAN.out.mono ?_);rintro e w1 ⟨rfl,hb1⟩)
          go_ret2
          exact ⟨by rw [HR2.out];rfl,hb1⟩
        · go_enter Tryz.func20,Tryz.ntmps20
          go_wp2_with ((with_reducible refine HCAN.out.mono ?_);rintro e w1 ⟨rfl,hb1⟩)
          go_ret2
          exact ⟨by rw [HR2.out];rfl,hb1⟩
      · have HR2:=hid (show R=(signD (flN plus pfx) 120 (negD d)++padD digits (bodyD 120 d),0) by rw [HR.out];exact numP_ok (c:=120) rfl HD.out h3)
        rw [h1] at HCAN
        have HBS:=hid (fun u=>by have h:=baseR_fn t (by omega) 16 u;rw [show baseRes t 16=(d,0) from h2] at h;exact h)
        have HCUT:=hid (fun u=>cut_neg d (by omega) u)
        obtain ⟨body,hbody⟩:∃ body,body=if negD d then d.tail else d:=⟨_,rfl⟩
        have hbl:body.length≤2011:=by
          rw [hbody]
          split
          · rw [List.length_tail];omega
          · omega
        rw [← hbody] at HCUT
        have hbd:bodyD 120 d=body:=by rw [hbody];rfl
        rw [hbd] at HR2
        obtain ⟨ng,hng⟩:∃ ng,ng=negD d:=⟨_,rfl⟩
        rw [← hng] at HCUT HR2
        have HPF:=hid pre16_fn
        clear HR h1 h2 h3 hbody hbd hng h4
        obtain ⟨k,hk⟩:∃ k,k=(digits-(body.length:Int)).toNat:=⟨_,rfl⟩
        have HREP:=hid (fun u=>repeat_fn 48 rfl k (by omega) u)
        obtain ⟨f,hf⟩:∃ f,f=List.replicate k (48:UInt8):=⟨_,rfl⟩
        have hfl:f.length=k:=by rw [hf];simp
        have hpd:padD digits body=f++body:=by rw [hf,hk];rfl
        rw [hpd] at HR2
        rw [← hf] at HREP
        have hc1:=cat_run f body (by omega) (by omega)
        clear hpd
        by_cases hlt:(body.length:Int)<digits
        · have hkI:digits-(body.length:Int)=(k:Nat):=by omega
          clear hk hf
          have hdl:decide ((body.length:Int)<digits)=true:=decide_eq_true hlt
          cases ng with
          | true=>
            cases pfx with
            | true=>
              have hcat:(⟨#[45]⟩:ByteArray) ++ ⟨#[48,120]⟩=⟨#[45,48,120]⟩:=by kernel_rfl
              have hc2:=fun u=>(show (Op.stringOp .add ⟨#[45,48,120]⟩ ⟨(f++body).toArray⟩).run Tryz.prog u=.ok (.string ⟨([45,48,120]++(f++body)).toArray⟩) u from cat_run [45,48,120] (f++body) (by decide) (by first | omega|(rw [List.length_append];omega)) u)
              have hsg:signD (flN plus true) 120 true=[45,48,120]:=by unfold signD flN;cases plus<;>rfl
              have HR3:=hid (show R=([45,48,120]++(f++body),0) by first|(rw [HR2.out,hsg];done)|(rw [HR2.out,hsg];rfl))
              clear HR2 hsg
              go_enter Tryz.func20,Tryz.ntmps20
              go_wp2_with (first|(go_at_call 11;refine HCAN.out.mono ?_;rintro e w1 ⟨rfl,hb1⟩;have HB1:=hid hb1;clear hb1)|(go_at_call 60;refine (HBS.out _).mono ?_;rintro e w2 ⟨rfl,hb2⟩;have HB2:=hid (HB1.out.trans (hb2.mono HB1.out.size));clear hb2)|(go_at_call 61;refine (HCUT.out _).mono ?_;rintro e w3 ⟨rfl,h3⟩;subst h3)|(go_at_call 62;refine (HPF.out _).mono ?_;rintro e w4 ⟨rfl,h4⟩;subst h4)|(go_at_call 58;refine (HREP.out _).mono ?_;rintro e w5 ⟨rfl,hb5⟩;have HB5:=hid (HB2.out.trans (hb5.mono HB2.out.size));clear hb5))
              go_ret2
              exact ⟨by rw [HR3.out];rfl,by first | exact HB5.out | exact HB2.out⟩
            | false=>
              have hc2:=fun u=>(show (Op.stringOp .add ⟨#[45]⟩ ⟨(f++body).toArray⟩).run Tryz.prog u=.ok (.string ⟨([45]++(f++body)).toArray⟩) u from cat_run [45] (f++body) (by decide) (by first | omega|(rw [List.length_append];omega)) u)
              have hsg:signD (flN plus false) 120 true=[45]:=by unfold signD flN;cases plus<;>rfl
              have HR3:=hid (show R=([45]++(f++body),0) by first|(rw [HR2.out,hsg];done)|(rw [HR2.out,hsg];rfl))
              clear HR2 hsg
              go_enter Tryz.func20,Tryz.ntmps20
              go_wp2_with (first|(go_at_call 11;refine HCAN.out.mono ?_;rintro e w1 ⟨rfl,hb1⟩;have HB1:=hid hb1;clear hb1)|(go_at_call 60;refine (HBS.out _).mono ?_;rintro e w2 ⟨rfl,hb2⟩;have HB2:=hid (HB1.out.trans (hb2.mono HB1.out.size));clear hb2)|(go_at_call 61;refine (HCUT.out _).mono ?_;rintro e w3 ⟨rfl,h3⟩;subst h3)|(go_at_call 62;refine (HPF.out _).mono ?_;rintro e w4 ⟨rfl,h4⟩;subst h4)|(go_at_call 58;refine (HREP.out _).mono ?_;rintro e w5 ⟨rfl,hb5⟩;have HB5:=hid (HB2.out.trans (hb5.mono HB2.out.size));clear hb5))
              go_ret2
              exact ⟨by rw [HR3.out];rfl,by first | exact HB5.out | exact HB2.out⟩
          | false=>
            cases plus with
            | true=>
              cases pfx with
              | true=>
                have hcat:(⟨#[43]⟩:ByteArray) ++ ⟨#[48,120]⟩=⟨#[43,48,120]⟩:=by kernel_rfl
                have hc2:=fun u=>(show (Op.stringOp .add ⟨#[43,48,120]⟩ ⟨(f++body).toArray⟩).run Tryz.prog u=.ok (.string ⟨([43,48,120]++(f++body)).toArray⟩) u from cat_run [43,48,120] (f++body) (by decide) (by first | omega|(rw [List.length_append];omega)) u)
                have hsg:signD (flN true true) 120 false=[43,48,120]:=by rfl
                have HR3:=hid (show R=([43,48,120]++(f++body),0) by first|(rw [HR2.out,hsg];done)|(rw [HR2.out,hsg];rfl))
                clear HR2 hsg
                go_enter Tryz.func20,Tryz.ntmps20
                go_wp2_with (first|(go_at_call 11;refine HCAN.out.mono ?_;rintro e w1 ⟨rfl,hb1⟩;have HB1:=hid hb1;clear hb1)|(go_at_call 60;refine (HBS.out _).mono ?_;rintro e w2 ⟨rfl,hb2⟩;have HB2:=hid (HB1.out.trans (hb2.mono HB1.out.size));clear hb2)|(go_at_call 61;refine (HCUT.out _).mono ?_;rintro e w3 ⟨rfl,h3⟩;subst h3)|(go_at_call 62;refine (HPF.out _).mono ?_;rintro e w4 ⟨rfl,h4⟩;subst h4)|(go_at_call 58;refine (HREP.out _).mono ?_;rintro e w5 ⟨rfl,hb5⟩;have HB5:=hid (HB2.out.trans (hb5.mono HB2.out.size));clear hb5))
                go_ret2
                exact ⟨by rw [HR3.out];rfl,by first | exact HB5.out | exact HB2.out⟩
              | false=>
                have hc2:=fun u=>(show (Op.stringOp .add ⟨#[43]⟩ ⟨(f++body).toArray⟩).run Tryz.prog u=.ok (.string ⟨([43]++(f++body)).toArray⟩) u from cat_run [43] (f++body) (by decide) (by first | omega|(rw [List.length_append];omega)) u)
                have hsg:signD (flN true false) 120 false=[43]:=by rfl
                have HR3:=hid (show R=([43]++(f++body),0) by first|(rw [HR2.out,hsg];done)|(rw [HR2.out,hsg];rfl))
                clear HR2 hsg
                go_enter Tryz.func20,Tryz.ntmps20
                go_wp2_with (first|(go_at_call 11;refine HCAN.out.mono ?_;rintro e w1 ⟨rfl,hb1⟩;have HB1:=hid hb1;clear hb1)|(go_at_call 60;refine (HBS.out _).mono ?_;rintro e w2 ⟨rfl,hb2⟩;have HB2:=hid (HB1.out.trans (hb2.mono HB1.out.size));clear hb2)|(go_at_call 61;refine (HCUT.out _).mono ?_;rintro e w3 ⟨rfl,h3⟩;subst h3)|(go_at_call 62;refine (HPF.out _).mono ?_;rintro e w4 ⟨rfl,h4⟩;subst h4)|(go_at_call 58;refine (HREP.out _).mono ?_;rintro e w5 ⟨rfl,hb5⟩;have HB5:=hid (HB2.out.trans (hb5.mono HB2.out.size));clear hb5))
                go_ret2
                exact ⟨by rw [HR3.out];rfl,by first | exact HB5.out | exact HB2.out⟩
            | false=>
              cases pfx with
              | true=>
                have hcat:(⟨#[]⟩:ByteArray) ++ ⟨#[48,120]⟩=⟨#[48,120]⟩:=by kernel_rfl
                have hc2:=fun u=>(show (Op.stringOp .add ⟨#[48,120]⟩ ⟨(f++body).toArray⟩).run Tryz.prog u=.ok (.string ⟨([48,120]++(f++body)).toArray⟩) u from cat_run [48,120] (f++body) (by decide) (by first | omega|(rw [List.length_append];omega)) u)
                have hsg:signD (flN false true) 120 false=[48,120]:=by rfl
                have HR3:=hid (show R=([48,120]++(f++body),0) by first|(rw [HR2.out,hsg];done)|(rw [HR2.out,hsg];rfl))
                clear HR2 hsg
                go_enter Tryz.func20,Tryz.ntmps20
                go_wp2_with (first|(go_at_call 11;refine HCAN.out.mono ?_;rintro e w1 ⟨rfl,hb1⟩;have HB1:=hid hb1;clear hb1)|(go_at_call 60;refine (HBS.out _).mono ?_;rintro e w2 ⟨rfl,hb2⟩;have HB2:=hid (HB1.out.trans (hb2.mono HB1.out.size));clear hb2)|(go_at_call 61;refine (HCUT.out _).mono ?_;rintro e w3 ⟨rfl,h3⟩;subst h3)|(go_at_call 62;refine (HPF.out _).mono ?_;rintro e w4 ⟨rfl,h4⟩;subst h4)|(go_at_call 58;refine (HREP.out _).mono ?_;rintro e w5 ⟨rfl,hb5⟩;have HB5:=hid (HB2.out.trans (hb5.mono HB2.out.size));clear hb5))
                go_ret2
                exact ⟨by rw [HR3.out];rfl,by first | exact HB5.out | exact HB2.out⟩
              | false=>
                have hc2:=fun u=>(show (Op.stringOp .add ⟨#[]⟩ ⟨(f++body).toArray⟩).run Tryz.prog u=.ok (.string ⟨([]++(f++body)).toArray⟩) u from cat_run [] (f++body) (by decide) (by first | omega|(rw [List.length_append];omega)) u)
                have hsg:signD (flN false false) 120 false=[]:=by rfl
                have HR3:=hid (show R=([]++(f++body),0) by first|(rw [HR2.out,hsg];done)|(rw [HR2.out,hsg];rfl))
                clear HR2 hsg
                go_enter Tryz.func20,Tryz.ntmps20
                go_wp2_with (first|(go_at_call 11;refine HCAN.out.mono ?_;rintro e w1 ⟨rfl,hb1⟩;have HB1:=hid hb1;clear hb1)|(go_at_call 60;refine (HBS.out _).mono ?_;rintro e w2 ⟨rfl,hb2⟩;have HB2:=hid (HB1.out.trans (hb2.mono HB1.out.size));clear hb2)|(go_at_call 61;refine (HCUT.out _).mono ?_;rintro e w3 ⟨rfl,h3⟩;subst h3)|(go_at_call 62;refine (HPF.out _).mono ?_;rintro e w4 ⟨rfl,h4⟩;subst h4)|(go_at_call 58;refine (HREP.out _).mono ?_;rintro e w5 ⟨rfl,hb5⟩;have HB5:=hid (HB2.out.trans (hb5.mono HB2.out.size));clear hb5))
                go_ret2
                exact ⟨by rw [HR3.out];rfl,by first | exact HB5.out | exact HB2.out⟩
        · have hk0:k=0:=by omega
          have hf0:f=[]:=List.eq_nil_of_length_eq_zero (by rw [hfl];exact hk0)
          subst hf0
          clear hk hf hk0 hfl
          have hdl:decide ((body.length:Int)<digits)=false:=decide_eq_false hlt
          cases ng with
          | true=>
            cases pfx with
            | true=>
              have hcat:(⟨#[45]⟩:ByteArray) ++ ⟨#[48,120]⟩=⟨#[45,48,120]⟩:=by kernel_rfl
              have hc2:=fun u=>(show (Op.stringOp .add ⟨#[45,48,120]⟩ ⟨(body).toArray⟩).run Tryz.prog u=.ok (.string ⟨([45,48,120]++(body)).toArray⟩) u from cat_run [45,48,120] (body) (by decide) (by first | omega|(rw [List.length_append];omega)) u)
              have hsg:signD (flN plus true) 120 true=[45,48,120]:=by unfold signD flN;cases plus<;>rfl
              have HR3:=hid (show R=([45,48,120]++(body),0) by first|(rw [HR2.out,hsg];done)|(rw [HR2.out,hsg];rfl))
              clear HR2 hsg
              go_enter Tryz.func20,Tryz.ntmps20
              go_wp2_with (first|(go_at_call 11;refine HCAN.out.mono ?_;rintro e w1 ⟨rfl,hb1⟩;have HB1:=hid hb1;clear hb1)|(go_at_call 60;refine (HBS.out _).mono ?_;rintro e w2 ⟨rfl,hb2⟩;have HB2:=hid (HB1.out.trans (hb2.mono HB1.out.size));clear hb2)|(go_at_call 61;refine (HCUT.out _).mono ?_;rintro e w3 ⟨rfl,h3⟩;subst h3)|(go_at_call 62;refine (HPF.out _).mono ?_;rintro e w4 ⟨rfl,h4⟩;subst h4)|(go_at_call 58;refine (HREP.out _).mono ?_;rintro e w5 ⟨rfl,hb5⟩;have HB5:=hid (HB2.out.trans (hb5.mono HB2.out.size));clear hb5))
              go_ret2
              exact ⟨by rw [HR3.out];rfl,by first | exact HB5.out | exact HB2.out⟩
            | false=>
              have hc2:=fun u=>(show (Op.stringOp .add ⟨#[45]⟩ ⟨(body).toArray⟩).run Tryz.prog u=.ok (.string ⟨([45]++(body)).toArray⟩) u from cat_run [45] (body) (by decide) (by first | omega|(rw [List.length_append];omega)) u)
              have hsg:signD (flN plus false) 120 true=[45]:=by unfold signD flN;cases plus<;>rfl
              have HR3:=hid (show R=([45]++(body),0) by first|(rw [HR2.out,hsg];done)|(rw [HR2.out,hsg];rfl))
              clear HR2 hsg
              go_enter Tryz.func20,Tryz.ntmps20
              go_wp2_with (first|(go_at_call 11;refine HCAN.out.mono ?_;rintro e w1 ⟨rfl,hb1⟩;have HB1:=hid hb1;clear hb1)|(go_at_call 60;refine (HBS.out _).mono ?_;rintro e w2 ⟨rfl,hb2⟩;have HB2:=hid (HB1.out.trans (hb2.mono HB1.out.size));clear hb2)|(go_at_call 61;refine (HCUT.out _).mono ?_;rintro e w3 ⟨rfl,h3⟩;subst h3)|(go_at_call 62;refine (HPF.out _).mono ?_;rintro e w4 ⟨rfl,h4⟩;subst h4)|(go_at_call 58;refine (HREP.out _).mono ?_;rintro e w5 ⟨rfl,hb5⟩;have HB5:=hid (HB2.out.trans (hb5.mono HB2.out.size));clear hb5))
              go_ret2
              exact ⟨by rw [HR3.out];rfl,by first | exact HB5.out | exact HB2.out⟩
          | false=>
            cases plus with
            | true=>
              cases pfx with
              | true=>
                have hcat:(⟨#[43]⟩:ByteArray) ++ ⟨#[48,120]⟩=⟨#[43,48,120]⟩:=by kernel_rfl
                have hc2:=fun u=>(show (Op.stringOp .add ⟨#[43,48,120]⟩ ⟨(body).toArray⟩).run Tryz.prog u=.ok (.string ⟨([43,48,120]++(body)).toArray⟩) u from cat_run [43,48,120] (body) (by decide) (by first | omega|(rw [List.length_append];omega)) u)
                have hsg:signD (flN true true) 120 false=[43,48,120]:=by rfl
                have HR3:=hid (show R=([43,48,120]++(body),0) by first|(rw [HR2.out,hsg];done)|(rw [HR2.out,hsg];rfl))
                clear HR2 hsg
                go_enter Tryz.func20,Tryz.ntmps20
                go_wp2_with (first|(go_at_call 11;refine HCAN.out.mono ?_;rintro e w1 ⟨rfl,hb1⟩;have HB1:=hid hb1;clear hb1)|(go_at_call 60;refine (HBS.out _).mono ?_;rintro e w2 ⟨rfl,hb2⟩;have HB2:=hid (HB1.out.trans (hb2.mono HB1.out.size));clear hb2)|(go_at_call 61;refine (HCUT.out _).mono ?_;rintro e w3 ⟨rfl,h3⟩;subst h3)|(go_at_call 62;refine (HPF.out _).mono ?_;rintro e w4 ⟨rfl,h4⟩;subst h4)|(go_at_call 58;refine (HREP.out _).mono ?_;rintro e w5 ⟨rfl,hb5⟩;have HB5:=hid (HB2.out.trans (hb5.mono HB2.out.size));clear hb5))
                go_ret2
                exact ⟨by rw [HR3.out];rfl,by first | exact HB5.out | exact HB2.out⟩
              | false=>
                have hc2:=fun u=>(show (Op.stringOp .add ⟨#[43]⟩ ⟨(body).toArray⟩).run Tryz.prog u=.ok (.string ⟨([43]++(body)).toArray⟩) u from cat_run [43] (body) (by decide) (by first | omega|(rw [List.length_append];omega)) u)
                have hsg:signD (flN true false) 120 false=[43]:=by rfl
                have HR3:=hid (show R=([43]++(body),0) by first|(rw [HR2.out,hsg];done)|(rw [HR2.out,hsg];rfl))
                clear HR2 hsg
                go_enter Tryz.func20,Tryz.ntmps20
                go_wp2_with (first|(go_at_call 11;refine HCAN.out.mono ?_;rintro e w1 ⟨rfl,hb1⟩;have HB1:=hid hb1;clear hb1)|(go_at_call 60;refine (HBS.out _).mono ?_;rintro e w2 ⟨rfl,hb2⟩;have HB2:=hid (HB1.out.trans (hb2.mono HB1.out.size));clear hb2)|(go_at_call 61;refine (HCUT.out _).mono ?_;rintro e w3 ⟨rfl,h3⟩;subst h3)|(go_at_call 62;refine (HPF.out _).mono ?_;rintro e w4 ⟨rfl,h4⟩;subst h4)|(go_at_call 58;refine (HREP.out _).mono ?_;rintro e w5 ⟨rfl,hb5⟩;have HB5:=hid (HB2.out.trans (hb5.mono HB2.out.size));clear hb5))
                go_ret2
                exact ⟨by rw [HR3.out];rfl,by first | exact HB5.out | exact HB2.out⟩
            | false=>
              cases pfx with
              | true=>
                have hcat:(⟨#[]⟩:ByteArray) ++ ⟨#[48,120]⟩=⟨#[48,120]⟩:=by kernel_rfl
                have hc2:=fun u=>(show (Op.stringOp .add ⟨#[48,120]⟩ ⟨(body).toArray⟩).run Tryz.prog u=.ok (.string ⟨([48,120]++(body)).toArray⟩) u from cat_run [48,120] (body) (by decide) (by first | omega|(rw [List.length_append];omega)) u)
                have hsg:signD (flN false true) 120 false=[48,120]:=by rfl
                have HR3:=hid (show R=([48,120]++(body),0) by first|(rw [HR2.out,hsg];done)|(rw [HR2.out,hsg];rfl))
                clear HR2 hsg
                go_enter Tryz.func20,Tryz.ntmps20
                go_wp2_with (first|(go_at_call 11;refine HCAN.out.mono ?_;rintro e w1 ⟨rfl,hb1⟩;have HB1:=hid hb1;clear hb1)|(go_at_call 60;refine (HBS.out _).mono ?_;rintro e w2 ⟨rfl,hb2⟩;have HB2:=hid (HB1.out.trans (hb2.mono HB1.out.size));clear hb2)|(go_at_call 61;refine (HCUT.out _).mono ?_;rintro e w3 ⟨rfl,h3⟩;subst h3)|(go_at_call 62;refine (HPF.out _).mono ?_;rintro e w4 ⟨rfl,h4⟩;subst h4)|(go_at_call 58;refine (HREP.out _).mono ?_;rintro e w5 ⟨rfl,hb5⟩;have HB5:=hid (HB2.out.trans (hb5.mono HB2.out.size));clear hb5))
                go_ret2
                exact ⟨by rw [HR3.out];rfl,by first | exact HB5.out | exact HB2.out⟩
              | false=>
                have hc2:=fun u=>(show (Op.stringOp .add ⟨#[]⟩ ⟨(body).toArray⟩).run Tryz.prog u=.ok (.string ⟨([]++(body)).toArray⟩) u from cat_run [] (body) (by decide) (by first | omega|(rw [List.length_append];omega)) u)
                have hsg:signD (flN false false) 120 false=[]:=by rfl
                have HR3:=hid (show R=([]++(body),0) by first|(rw [HR2.out,hsg];done)|(rw [HR2.out,hsg];rfl))
                clear HR2 hsg
                go_enter Tryz.func20,Tryz.ntmps20
                go_wp2_with (first|(go_at_call 11;refine HCAN.out.mono ?_;rintro e w1 ⟨rfl,hb1⟩;have HB1:=hid hb1;clear hb1)|(go_at_call 60;refine (HBS.out _).mono ?_;rintro e w2 ⟨rfl,hb2⟩;have HB2:=hid (HB1.out.trans (hb2.mono HB1.out.size));clear hb2)|(go_at_call 61;refine (HCUT.out _).mono ?_;rintro e w3 ⟨rfl,h3⟩;subst h3)|(go_at_call 62;refine (HPF.out _).mono ?_;rintro e w4 ⟨rfl,h4⟩;subst h4)|(go_at_call 58;refine (HREP.out _).mono ?_;rintro e w5 ⟨rfl,hb5⟩;have HB5:=hid (HB2.out.trans (hb5.mono HB2.out.size));clear hb5))
                go_ret2
                exact ⟨by rw [HR3.out];rfl,by first | exact HB5.out | exact HB2.out⟩
    have HR2:=hid (show R=([],7) by rw [HR.out];unfold numP letB;simp [b1,b2,b3,b4])
    have c1:(base == 2)=false:=by rw [beq_eq_false_iff_ne];exact b1
    have c2:(base == 8)=false:=by rw [beq_eq_false_iff_ne];exact b2
    have c3:(base == 10)=false:=by rw [beq_eq_false_iff_ne];exact b3
    have c4:(base == 16)=false:=by rw [beq_eq_false_iff_ne];exact b4
    clear HR HCAN
    go_enter Tryz.func20,Tryz.ntmps20
    go_wp2
    go_ret2
    exact ⟨by rw [HR2.out];rfl,Below.refl _ _⟩
  · have HR2 := hid (show R = ([], 7) by
      rw [HR.out]
      unfold numP
      cases letB base with
      | none=>rfl
      | some c=>exact if_neg hd)
    clear HR HCAN
    by_cases h1:digits<0
    · have d1:decide (digits<(0:Int))=true:=decide_eq_true h1
      by_cases b1:base=2
      · subst b1
        go_enter Tryz.func20,Tryz.ntmps20
        go_wp2
        go_ret2
        exact ⟨by rw [HR2.out];rfl,Below.refl _ _⟩
      by_cases b2:base=8
      · subst b2
        go_enter Tryz.func20,Tryz.ntmps20
        go_wp2
        go_ret2
        exact ⟨by rw [HR2.out];rfl,Below.refl _ _⟩
      by_cases b3:base=10
      · subst b3
        go_enter Tryz.func20,Tryz.ntmps20
        go_wp2
        go_ret2
        exact ⟨by rw [HR2.out];rfl,Below.refl _ _⟩
      by_cases b4:base=16
      · subst b4
        go_enter Tryz.func20,Tryz.ntmps20
        go_wp2
        go_ret2
        exact ⟨by rw [HR2.out];rfl,Below.refl _ _⟩
      have c1:(base == 2)=false:=by rw [beq_eq_false_iff_ne];exact b1
      have c2:(base == 8)=false:=by rw [beq_eq_false_iff_ne];exact b2
      have c3:(base == 10)=false:=by rw [beq_eq_false_iff_ne];exact b3
      have c4:(base == 16)=false:=by rw [beq_eq_false_iff_ne];exact b4
      go_enter Tryz.func20,Tryz.ntmps20
      go_wp2
      go_ret2
      exact ⟨by rw [HR2.out];rfl,Below.refl _ _⟩
    · have d1:decide (digits<(0:Int))=false:=decide_eq_false h1
      have h2:(999:Int)<digits:=by omega
      have d2:decide ((999:Int)<digits)=true:=decide_eq_true h2
      by_cases b1:base=2
      · subst b1
        go_enter Tryz.func20,Tryz.ntmps20
        go_wp2
        go_ret2
        exact ⟨by rw [HR2.out];rfl,Below.refl _ _⟩
      by_cases b2:base=8
      · subst b2
        go_enter Tryz.func20,Tryz.ntmps20
        go_wp2
        go_ret2
        exact ⟨by rw [HR2.out];rfl,Below.refl _ _⟩
      by_cases b3:base=10
      · subst b3
        go_enter Tryz.func20,Tryz.ntmps20
        go_wp2
        go_ret2
        exact ⟨by rw [HR2.out];rfl,Below.refl _ _⟩
      by_cases b4:base=16
      · subst b4
        go_enter Tryz.func20,Tryz.ntmps20
        go_wp2
        go_ret2
        exact ⟨by rw [HR2.out];rfl,Below.refl _ _⟩
      have c1:(base == 2)=false:=by rw [beq_eq_false_iff_ne];exact b1
      have c2:(base == 8)=false:=by rw [beq_eq_false_iff_ne];exact b2
      have c3:(base == 10)=false:=by rw [beq_eq_false_iff_ne];exact b3
      have c4:(base == 16)=false:=by rw [beq_eq_false_iff_ne];exact b4
      go_enter Tryz.func20,Tryz.ntmps20
      go_wp2
      go_ret2
      exact ⟨by rw [HR2.out];rfl,Below.refl _ _⟩
end Go.Proofs.YtbilphfbfnohmaaGreatDoor.Pz
namespace Go.Proofs.YtbilphfbfnohmaaGreatDoor.Pz
open Go.RowKit
theorem padE_two (s:Str) (width:Int) (left:Bool) (x:UInt8) (hs:s.length≤100000):(∃ t,padE s width left x=(t,0)∧width≤(t.length:Int)∧t.length≤200000)∨padE s width left x=([],7):=by
 by_cases h:0≤width∧width≤999
 ·refine .inl ?_
  unfold padE
  rw [if_pos h]
  cases left with
  | true=>exact ⟨_,rfl,by rw [List.length_append,List.length_replicate];omega,by rw [List.length_append,List.length_replicate];omega⟩
  | false=>exact ⟨_,rfl,by rw [List.length_append,List.length_replicate];omega,by rw [List.length_append,List.length_replicate];omega⟩
 ·exact .inr (if_neg h)
set_option maxRecDepth 1000000 in
set_option maxHeartbeats 4000000 in
theorem spellNumbers_fn (s:Str) (width:Int) (left:Bool) (x:UInt8) (base digits:Int) (plus pfx:Bool) (w:World) (hs:s.length≤9223372036854775807) :
  Calls Tryz.prog 4 #[.string ⟨s.toArray⟩,.int .i64 width,.bool left,.int .u8 (x.toNat:Nat),.int .i64 base,.int .i64 digits,.bool plus,.bool pfx] w fun e w'=>e=.returned (.bool true)∧Below w.heap.size w w':=by
 have hsz:(⟨s.toArray⟩:ByteArray).size=s.length:=Lib.size_mk _
 by_cases hlong:1000<s.length
 ·have hd:decide ((1000:Int)<(s.length:Int))=true:=decide_eq_true (by omega)
  have hd2:(1000:Int)<(s.length:Int):=by omega
  have HA:=hid (awake_fn w)
  go_enter Tryz.func4,Tryz.ntmps4
  go_wp2_with ((with_reducible refine HA.out.mono ?_);rintro e w1 ⟨rfl,hb1⟩)
  go_ret
  exact ⟨rfl,hb1⟩
 ·have hd:decide ((1000:Int)<(s.length:Int))=false:=decide_eq_false (by omega)
  have hd2:¬ (1000:Int)<(s.length:Int):=by omega
  have H1:=hid (fun u=>padP_fn s (by omega) width left x u)
  have H2:=hid (fun u=>padR_fn s (by omega) width left x u)
  have H3:=hid (fun u=>numberP_fn s (by omega) base digits plus pfx u)
  have H4:=hid (fun u=>numberR_fn s (by omega) base digits plus pfx u)
  have HA:=hid awake_fn
  obtain ⟨t3,z3,h3⟩:∃ t z,numP s base digits plus pfx=(t,z):=⟨_,_,rfl⟩
  rw [h3] at H3 H4
  clear h3
  rcases padE_two s width left x (by omega) with ⟨t,ht,hw1,hw2⟩ | ht
  ·rw [ht] at H1 H2
   have hdw:decide (width≤(t.length:Int))=true:=decide_eq_true hw1
   have hst:(⟨t.toArray⟩:ByteArray).size=t.length:=Lib.size_mk _
   clear ht
   go_enter Tryz.func4,Tryz.ntmps4
   go_wp2_with (first|(go_at_call 17;refine (H1.out _).mono ?_;rintro e w1 ⟨rfl,hb1⟩;have HB1:=hid hb1;clear hb1)|(go_at_call 18;refine (H2.out _).mono ?_;rintro e w2 ⟨rfl,hb2⟩;have HB2:=hid (HB1.out.trans (hb2.mono HB1.out.size));clear hb2)|(go_at_call 19;refine (H3.out _).mono ?_;rintro e w3 ⟨rfl,hb3⟩;have HB3:=hid (HB2.out.trans (hb3.mono HB2.out.size));clear hb3)|(go_at_call 20;refine (H4.out _).mono ?_;rintro e w4 ⟨rfl,hb4⟩;have HB4:=hid (HB3.out.trans (hb4.mono HB3.out.size));clear hb4)|(go_at_call 12;refine (HA.out _).mono ?_;rintro e w5 ⟨rfl,hb5⟩;have HB5:=hid (HB4.out.trans (hb5.mono HB4.out.size));clear hb5))
   go_ret
   exact ⟨rfl,HB5.out⟩
  ·rw [ht] at H1 H2
   clear ht
   go_enter Tryz.func4,Tryz.ntmps4
   go_wp2_with (first|(go_at_call 17;refine (H1.out _).mono ?_;rintro e w1 ⟨rfl,hb1⟩;have HB1:=hid hb1;clear hb1)|(go_at_call 18;refine (H2.out _).mono ?_;rintro e w2 ⟨rfl,hb2⟩;have HB2:=hid (HB1.out.trans (hb2.mono HB1.out.size));clear hb2)|(go_at_call 19;refine (H3.out _).mono ?_;rintro e w3 ⟨rfl,hb3⟩;have HB3:=hid (HB2.out.trans (hb3.mono HB2.out.size));clear hb3)|(go_at_call 20;refine (H4.out _).mono ?_;rintro e w4 ⟨rfl,hb4⟩;have HB4:=hid (HB3.out.trans (hb4.mono HB3.out.size));clear hb4)|(go_at_call 12;refine (HA.out _).mono ?_;rintro e w5 ⟨rfl,hb5⟩;have HB5:=hid (HB4.out.trans (hb5.mono HB4.out.size));clear hb5))
   go_ret
   exact ⟨rfl,HB5.out⟩
end Go.Proofs.YtbilphfbfnohmaaGreatDoor.Pz
namespace Go.Proofs.YtbilphfbfnohmaaGreatDoor.Pz
theorem byte_of_wf {n:Int} (h:(Lit.int .u8 n).wf=true):∃ y:UInt8,n=(y.toNat:Nat):=by
 simp only [Lit.wf,IntKind.min,IntKind.max,IntKind.signed,IntKind.bits,Bool.and_eq_true] at h
 have h2:0≤n∧n<256:=by
  obtain ⟨a,b⟩:=h
  simp at a b
  omega
 refine ⟨UInt8.ofNat n.toNat,?_⟩
 have e:(UInt8.ofNat n.toNat).toNat=n.toNat % 256:=UInt8.toNat_ofNat'
 rw [e]
 omega
end Go.Proofs.YtbilphfbfnohmaaGreatDoor.Pz
