/-
  Part K7 of the proofs of this seat, merged by a program out of 11 texts; remarks are struck.
-/
import Derived.Laws.BitsAllLaws
import Derived.Laws.BitsLemmas
import Derived.Shelf.Strconv.Itoa1
import Derived.Shelf.LaysM
import Derived.Shelf.Strconv.Itoa2
import Derived.Shelf.Strconv.Itoa4
import Derived.Ground.MpProg
import Derived.Test.YtihdndaibmgoiaaGreatDoorProg
import Derived.WalkKit
import Derived.BigCall
import Derived.BigGuard
import Derived.Lib.ItoaMem
import Derived.Lib.ConvBytes
import Derived.BigQuiet
import Derived.Deep.QuietTactic
import Derived.Test.YtihdndaibmgoiaaGreatDoorK6
namespace Go.Proofs.YtihdndaibmgoiaaGreatDoor.Pz
open Go.RowKit Go.Shelf
attribute [local go_sem] Oper.semAt_some
def takesN (l:List Fld):Nat:=l.countP fun f=>takesL f.letter
def fieldsN (s:Str):Int×Int:=if validE s then ((takesN (fldsE s):Nat),0) else (0,2)
structure FAt (b:Nat) (w:World) (pre:List Fld) (W:World):Prop where
 big:b+1<W.heap.size
 r:W.heap[b]? = some (.cells #[.int .i64 (takesN pre:Nat)] 3 (0,0))
 low:Below w.heap.size w W
theorem FAt.own {b B:Nat} {w:World} (_hB:b≤B) (hbw:w.heap.size≤B):OwnFrom B (FAt b w):=by
 rintro pre X Y row h hg hr
 exact ⟨Nat.lt_of_lt_of_le h.big hg.size,cells_turn hg hr h.r,below_turn h.low (Nat.le_refl _) hg (fun r e=>⟨Nat.le_trans hbw (hr r e).1,(hr r e).2⟩)⟩
theorem takesN_snoc (l:List Fld) (x:Fld):takesN (l++[x])=takesN l+(if takesL x.letter then 1 else 0):=by
 unfold takesN
 rw [List.countP_append,List.countP_singleton]
theorem takesN_le (l:List Fld):takesN l≤l.length:=List.countP_le_length
set_option maxRecDepth 100000 in
set_option maxHeartbeats 1000000 in
theorem fieldsF_fn (s:Str) (hs:s.length≤1000000) (w:World):Calls Tryz.prog 50 #[.string ⟨s.toArray⟩] w fun e w'=>e=.returned (.tuple #[.int .i64 (fieldsN s).1,.int .i64 (fieldsN s).2])∧Below w.heap.size w w':=by
 refine (callsIn_wide (n:=5)).1 ?_
 refine callsIn_of_wp_marks Tryz.func50 rfl trivial ?_ rfl
 simp only [Tryz.ntmps50,List.size_toArray,List.length_cons,List.length_nil,Nat.reduceAdd,Nat.reduceSub,Array.replicate_succ,Array.replicate_zero,List.push_toArray,List.append_toArray,List.nil_append,List.cons_append]
 have HV:=hid (valid_fn s hs w)
 obtain ⟨ok,hok⟩:∃ ok,ok=validE s:=⟨_,rfl⟩
 rw [← hok] at HV
 have HOK:=hid hok
 clear hok
 cases ok with
 | false=>
  gi_wp2_with ((with_reducible refine And.intro ?_ ?_);exact trivial;gi_at_call 79;refine (callsIn_wide.2 HV.out).mono ?_;rintro e w1 ⟨rfl,hb1⟩;have HB1:=hid hb1;clear hb1)
  refine ⟨.tuple #[.int .i64 0,.int .i64 2],?_,?_,HB1.out⟩
  ·simp [results,Tryz.results50,go_sem]
  ·unfold fieldsN
   rw [← HOK.out]
   rfl
 | true=>
  have HFD:=hid (fun u=>fields_fn s u)
  gi_wp2_with (first|((with_reducible refine And.intro ?_ ?_);exact trivial;gi_at_call 79;refine (callsIn_wide.2 HV.out).mono ?_;rintro e w1 ⟨rfl,hb1⟩;have HB1:=hid hb1;clear hb1)|((with_reducible refine And.intro ?_ ?_);exact trivial;gi_at_call 73;refine (callsIn_wide.2 (HFD.out _)).mono ?_;rintro e w2 ⟨rfl,hbe,hep,hsz2⟩))
  obtain ⟨A,hA⟩:∃ A,A=w1.alloc (.cells #[.int .i64 0] 3):=⟨_,rfl⟩
  obtain ⟨b,hb⟩:∃ b,b=w1.heap.size:=⟨_,rfl⟩
  rw [← hA] at hbe hep hsz2
  have hAz:A.heap.size=b+1:=by rw [hA,hb];simp
  have hAb:A.heap[b]? = some (.cells #[.int .i64 0] 3 (0,0)):=by rw [hA,hb];exact heap_alloc_new _ _
  have hAl:Below w.heap.size w A:=by rw [hA];exact HB1.out.trans (((Below.refl _ w1).alloc (Nat.le_refl _) _).mono HB1.out.size)
  have hwb:w.heap.size≤b:=by rw [hb];exact HB1.out.size
  rw [hAz] at hbe hep hsz2
  rw [← hb]
  have hI0:FAt b w [] w2:=⟨by omega,(hbe.block _ (by omega)).trans hAb,hAl.trans (hbe.mono (by omega))⟩
  have hlen:(fldsE s).length≤1000001:=Nat.le_trans (flds_len _ s (Nat.le_refl _)) (by omega)
  clear hA hb hAz hAb hAl hbe HB1 HV HFD
  refine wpIn_rangeFunc_ownH rfl (by omega) (gf:=120) (lb:=#[.pointer (some ⟨b+1,0,none⟩)]) rfl trivial (enters_of Tryz.func120 (by kernel_rfl) rfl)
   (fields_stops (B:=w.heap.size) hs _ hep (by omega)) KpF.trans (fun W l o o' hl h h1 h2=>⟨belowK_b (w:=w2) (by omega) W l o o' hl h h1 h2,World.putObj_heap_other (by omega)⟩) (Below.refl _ _) (fun _=>rfl)
   (FAt b w) (fun c pre W=>False)
   (FAt.own (B:=w2.heap.size) (by omega) (by omega)) (fun c s' X Y row h hg hr=>h.elim) hI0
   (fun x a' W=>∃ Bx,b<Bx∧W.heap[Bx]? = some (.cells #[.int .u8 (x.letter.toNat:Nat),.bool x.plain,.int .i64 x.count] 79 (0,0))∧a' = { tmps:=#[.string ⟨s.toArray⟩,undef,.int .i64 0,.int .i64 0,.pointer (some ⟨b,0,none⟩),.pointer (some ⟨Bx,0,none⟩),.string ⟨s.toArray⟩,.bool true,.bool false,.string ⟨s.toArray⟩,.func (.func 120) #[] #[.pointer (some ⟨b+1,0,none⟩)],fldV x,undef,undef,undef,undef,undef],defers:=[] })
   (fun x a' s' X Y row h hg hr=>by obtain ⟨Bx,h1,h2,h3⟩:=h;exact ⟨Bx,h1,cells_turn hg hr h2,h3⟩) ?assign ?body ?done ?stop
  case assign=>
   rintro l pre x W K hi hK
   unfold encF fldV
   gi_wp2
   have hbig:=hi.big
   exact hK _ _ ((KeepsOthers.alloc _ _).from _) (KpF.of (belowA _ _) (by omega) (by omega)) ((FAt.own (B:=b) (Nat.le_refl _) hwb).alloc _ hi) ⟨W.heap.size,by omega,heap_alloc_new _ _,rfl⟩
  case body=>
   rintro l pre ⟨c,pl,n⟩ a' W hl hr hi ⟨Bx,hBx,hX,rfl⟩ hlt
   dsimp only at hX
   have x0:W.cell? ⟨Bx,0,none⟩=some (.int .u8 (c.toNat:Nat)):=by rw [Lib.cell_of_heap hX];rfl
   have x1:W.cell? ⟨Bx,1,none⟩=some (.bool pl):=by rw [Lib.cell_of_heap hX];rfl
   have x2:W.cell? ⟨Bx,2,none⟩=some (.int .i64 n):=by rw [Lib.cell_of_heap hX];rfl
   obtain ⟨m,hm⟩:∃ m,m=takesN pre:=⟨_,rfl⟩
   have hml:m≤1000001:=by have:=takesN_le pre;omega
   have HI:=hid hi
   have HM:=hid hm
   have HTK:=hid (fun u=>taking_fn c pl n u)
   have hsn:takesN (pre++[⟨c,pl,n⟩])=m+(if takesL c then 1 else 0):=by rw [takesN_snoc,← hm]
   have HSN:=hid hsn
   clear hi hm hsn
   unfold fldV
   dsimp only
   cases htk:takesL c with
   | true=>
    have HT:=hid htk
    rw [htk] at HTK
    clear htk
    gi_wp2_with ((with_reducible refine And.intro ?_ ?_);exact trivial;gi_at_call 81;refine (calls_round (HTK.out _)).mono ?_;rintro e w5 ⟨rfl,hb5⟩;have g5:=(hb5.block b (by have:=HI.out.big;omega)).trans HI.out.r;rw [← HM.out] at g5;have k5:=Lib.cell_of_heap g5;have f5:=Lib.frozen_of_heap g5 0;have G5:=hid g5;have HB5:=hid hb5;clear hb5 g5)
    have hbig:=HI.out.big
    have hs5:=HB5.out.size
    have hcnt:((takesN (pre++[⟨c,pl,n⟩]):Nat):Int)=(m:Int)+1:=by rw [HSN.out,HT.out];simp
    refine ⟨((KeepsOthers.of_below HB5.out).trans (KeepsOthers.setCell _ _ _)).from _,KpF.trans (KpF.of HB5.out (by omega) (by omega)) ⟨(Below.refl _ _).setCell (by show w.heap.size≤b;omega) _,Below.heap_setCell _ _ _ _ (by show b+1≠b;omega)⟩,⟨by simp [World.setCell];omega,?_,(HI.out.low.trans (HB5.out.mono (by omega))).setCell (by show w.heap.size≤b;omega) _⟩⟩
    rw [hcnt]
    exact heap_set_one G5.out _
   | false=>
    have HT:=hid htk
    rw [htk] at HTK
    clear htk
    gi_wp2_with ((with_reducible refine And.intro ?_ ?_);exact trivial;gi_at_call 81;refine (calls_round (HTK.out _)).mono ?_;rintro e w5 ⟨rfl,hb5⟩;have g5:=(hb5.block b (by have:=HI.out.big;omega)).trans HI.out.r;rw [← HM.out] at g5;have G5:=hid g5;have HB5:=hid hb5;clear hb5 g5)
    have hbig:=HI.out.big
    have hs5:=HB5.out.size
    have hcnt:takesN (pre++[⟨c,pl,n⟩])=m:=by rw [HSN.out,HT.out];simp
    refine ⟨(KeepsOthers.of_below HB5.out).from _,KpF.of HB5.out (by omega) (by omega),⟨by omega,?_,HI.out.low.trans (HB5.out.mono (by omega))⟩⟩
    rw [hcnt]
    exact G5.out
  case done=>
   rintro D xs W hD rfl hi hK
   have k0:=Lib.cell_of_heap hi.r
   have HI:=hid hi
   clear hi
   gi_wp2
   refine ⟨by simp,.inl ⟨_,_,rfl,run_takeDeferred hK,?_⟩⟩
   refine ⟨.tuple #[.int .i64 (takesN (fldsE s):Nat),.int .i64 0],?_,?_,?_⟩
   ·simp [results,Tryz.results50,go_sem]
   ·unfold fieldsN
    rw [← HOK.out]
    rfl
   ·exact HI.out.low.trans ⟨rfl,rfl,rfl,by rw [World.putObj_size];exact Nat.le_refl _,fun k hk=>World.putObj_heap_other (by omega)⟩
  case stop=>
   rintro D c pre W hD hpre he hK
   exact he.elim
end Go.Proofs.YtihdndaibmgoiaaGreatDoor.Pz
namespace Go.Proofs.YtihdndaibmgoiaaGreatDoor.Pz
open Go.RowKit
theorem hexdig (n:Nat) (h:n<(⟨#[48,49,50,51,52,53,54,55,56,57,97,98,99,100,101,102]⟩:ByteArray).size):(⟨#[48,49,50,51,52,53,54,55,56,57,97,98,99,100,101,102]⟩:ByteArray)[n]'h=hexD n:=
 (show ∀ m:Fin 16,(⟨#[48,49,50,51,52,53,54,55,56,57,97,98,99,100,101,102]⟩:ByteArray)[m.1]'m.2=hexD m.1 from by decide) ⟨n,h⟩
end Go.Proofs.YtihdndaibmgoiaaGreatDoor.Pz
namespace Go.Proofs.YtihdndaibmgoiaaGreatDoor.Pz
def v24 (l:Str):Nat:=(l.getD 0 0).toNat*65536+(l.getD 1 0).toNat*256+(l.getD 2 0).toNat
def sign4 (l:Str) (i:Nat):UInt8:=if min 3 l.length<i then 61 else b64L (v24 l / 2 ^ (18-6*i) % 64)
def quad (l:Str):Str:=[sign4 l 0,sign4 l 1,sign4 l 2,sign4 l 3]
theorem b64E_step:∀ (l:Str),l≠[]→b64E l=quad l++b64E (l.drop 3)
 | [],h=>absurd rfl h
 | [a],_=>by
  have ha:=a.toNat_lt
  have e0:v24 [a]=a.toNat*65536:=by simp [v24]
  have h0:v24 [a] / 2 ^ (18-6*0) % 64=a.toNat / 4:=by rw [e0];omega
  have h1:v24 [a] / 2 ^ (18-6*1) % 64=a.toNat % 4*16:=by rw [e0];omega
  show _=[sign4 [a] 0,sign4 [a] 1,sign4 [a] 2,sign4 [a] 3]++b64E []
  unfold sign4
  rw [if_neg (by simp),if_neg (by simp),if_pos (by simp),if_pos (by simp),h0,h1]
  rfl
 | [a,b],_=>by
  have ha:=a.toNat_lt
  have hb:=b.toNat_lt
  have e0:v24 [a,b]=a.toNat*65536+b.toNat*256:=by simp [v24]
  have h0:v24 [a,b] / 2 ^ (18-6*0) % 64=a.toNat / 4:=by rw [e0];omega
  have h1:v24 [a,b] / 2 ^ (18-6*1) % 64=a.toNat % 4*16+b.toNat / 16:=by rw [e0];omega
  have h2:v24 [a,b] / 2 ^ (18-6*2) % 64=b.toNat % 16*4:=by rw [e0];omega
  show _=[sign4 [a,b] 0,sign4 [a,b] 1,sign4 [a,b] 2,sign4 [a,b] 3]++b64E []
  unfold sign4
  rw [if_neg (by simp),if_neg (by simp),if_neg (by simp),if_pos (by simp),h0,h1,h2]
  rfl
 | a::b::c::t,_=>by
  have ha:=a.toNat_lt
  have hb:=b.toNat_lt
  have hc:=c.toNat_lt
  have e0:v24 (a::b::c::t)=a.toNat*65536+b.toNat*256+c.toNat:=by simp [v24]
  have h0:v24 (a::b::c::t) / 2 ^ (18-6*0) % 64=a.toNat / 4:=by rw [e0];omega
  have h1:v24 (a::b::c::t) / 2 ^ (18-6*1) % 64=a.toNat % 4*16+b.toNat / 16:=by rw [e0];omega
  have h2:v24 (a::b::c::t) / 2 ^ (18-6*2) % 64=b.toNat % 16*4+c.toNat / 64:=by rw [e0];omega
  have h3:v24 (a::b::c::t) / 2 ^ (18-6*3) % 64=c.toNat % 64:=by rw [e0];omega
  have hl:min 3 (a::b::c::t).length=3:=by simp only [List.length_cons];omega
  show _=[sign4 (a::b::c::t) 0,sign4 (a::b::c::t) 1,sign4 (a::b::c::t) 2,sign4 (a::b::c::t) 3]++b64E t
  unfold sign4
  rw [hl,if_neg (by decide),if_neg (by decide),if_neg (by decide),if_neg (by decide),h0,h1,h2,h3]
  rfl
end Go.Proofs.YtihdndaibmgoiaaGreatDoor.Pz
namespace Go.Proofs.YtihdndaibmgoiaaGreatDoor.Pz
open Go.RowKit
theorem wraps_i64 (n:Int) (h₀:0≤n) (h₁:n<2 ^ 63):IntKind.i64.wrap n=n:=by rw [IntKind.wrap_i64];omega
theorem i64_and_nat (a b:Nat) (ha:a<9223372036854775808) (hb:b<9223372036854775808):Go.bits .and .i64 (a:Int) (b:Int)=((a &&& b:Nat):Int):=(Go.bits_nat .i64 63 (by decide) wraps_i64 a b ha hb).1
theorem i64_or_nat (a b:Nat) (ha:a<9223372036854775808) (hb:b<9223372036854775808):Go.bits .or .i64 (a:Int) (b:Int)=((a ||| b:Nat):Int):=(Go.bits_nat .i64 63 (by decide) wraps_i64 a b ha hb).2
theorem i64_mask1 (a:Nat) (ha:a<9223372036854775808):Go.bits .and .i64 (a:Int) 1=((a % 2:Nat):Int):=by
 have h:=i64_and_nat a 1 ha (by decide)
 rw [nat_mask1] at h
 exact h
theorem i64_mask4 (a:Nat) (ha:a<9223372036854775808):Go.bits .and .i64 (a:Int) 15=((a % 16:Nat):Int):=by
 have h:=i64_and_nat a 15 ha (by decide)
 rw [nat_mask4] at h
 exact h
theorem i64_mask6 (a:Nat) (ha:a<9223372036854775808):Go.bits .and .i64 (a:Int) 63=((a % 64:Nat):Int):=by
 have h:=i64_and_nat a 63 ha (by decide)
 rw [nat_mask6] at h
 exact h
theorem i64_or8 (a b:Nat) (ha:a<1000000000000) (hb:b<256):Go.bits .or .i64 ((a:Int)*256) (b:Int)=((a*256+b:Nat):Int):=by
 have h:=i64_or_nat (a*256) b (by omega) (by omega)
 rw [nat_join 8 (a*256) b (by omega) hb] at h
 rw [← h,Int.natCast_mul]
 rfl
theorem u64_or8 (a b:Nat) (ha:a<72057594037927936) (hb:b<256):Go.bits .or .u64 ((a:Int)*256) (b:Int)=((a*256+b:Nat):Int):=by
 have h:=u64_or_nat (a*256) b (by omega) (by omega)
 rw [nat_join 8 (a*256) b (by omega) hb] at h
 rw [← h,Int.natCast_mul]
 rfl
end Go.Proofs.YtihdndaibmgoiaaGreatDoor.Pz
namespace Go.Proofs.YtihdndaibmgoiaaGreatDoor.Pz
open Go.RowKit
theorem At.here {s:Str} {J:Nat} (h:J<s.length):At s (s[J]::s.drop (J+1)) J:=
 ⟨by simp only [List.length_cons,List.length_drop];omega,List.drop_eq_getElem_cons h⟩
theorem tellE_snoc (c:UInt8) (s:Str) (n:Nat):tellE c s (n+1)=tellE c s n++[hexD ((s.getD (n*bitsL c / 8) 0).toNat / 2 ^ shiftL c n (bitsL c) % 2 ^ bitsL c)]:=by
 unfold tellE
 rw [List.range_succ,List.map_append]
 rfl
theorem tellE_len (c:UInt8) (s:Str) (n:Nat):(tellE c s n).length=n:=by
 unfold tellE
 rw [List.length_map,List.length_range]
theorem shr_in (x:UInt8) (sh:Nat):((x.toNat:Int) / 2 ^ sh)=((x.toNat / 2 ^ sh:Nat):Int):=by
 rw [Int.natCast_ediv,Int.natCast_pow]
 rfl
set_option maxRecDepth 100000 in
set_option maxHeartbeats 4000000 in
theorem digits4_fn (c:UInt8) (p:Bool) (n:Int) (hbits:bitsL c=4) (s:Str) (hs:s.length≤100000) (N:Nat) (hroom:∀ i,i<N→i*4 / 8<s.length) (hN:N≤800000) (w:World) :
  Calls Tryz.prog 126 #[.agg #[.int .u8 (c.toNat:Nat),.bool p,.int .i64 n],.string ⟨s.toArray⟩,.int .i64 (N:Nat)] w fun e w'=>e=.returned (.string ⟨(tellE c s N).toArray⟩)∧Below w.heap.size w w':=by
 have hsz:(⟨s.toArray⟩:ByteArray).size=s.length:=Lib.size_mk _
 obtain ⟨w0,hw0⟩:∃ w0,w0=w.alloc (.cells #[.int .u8 (c.toNat:Nat),.bool p,.int .i64 n] 79):=⟨_,rfl⟩
 have hF0:FBlk w.heap.size w0 ⟨c,p,n⟩:=⟨by rw [hw0];exact heap_alloc_new _ _⟩
 have hb0:Below w.heap.size w w0:=by rw [hw0];exact (Below.refl _ _).alloc (Nat.le_refl _) _
 have hz0:w0.heap.size=w.heap.size+1:=by rw [hw0];simp
 have HDG:=hid (show ∀ u,Calls Tryz.prog 125 #[.int .u8 (c.toNat:Nat)] u fun e w'=>e=.returned (.int .i64 4)∧w'=u from fun u=>by have h:=digitsOf_fn c u;rw [hbits] at h;exact h)
 have HSH:=hid (fun (i:Nat) (hi:i≤1000000) u=>shift4_fn c p n i hi u)
 have HROOM:=hid hroom
 have HW0:=hid hw0
 have HF0:=hid hF0
 have HB0:=hid hb0
 have HZ0:=hid hz0
 have HBN:=hid (Bld.new w0)
 have c0:=hF0.c0
 have HBITS:=hid hbits
 obtain ⟨R,hR⟩:∃ R,R=tellE c s N:=⟨_,rfl⟩
 rw [← hR]
 have HR:=hid hR
 clear hw0 hF0 hb0 hz0 hroom hbits hR
 go_enter Tryz.func126,Tryz.ntmps126
 go_wp2_with (first|(rw [← HW0.out];(with_reducible refine (HDG.out _).mono ?_);rintro e w1 ⟨rfl,rfl⟩))
 obtain ⟨b,hb⟩:∃ b,b=w1.heap.size:=⟨_,rfl⟩
 obtain ⟨W,hW⟩:∃ W,W=w1.alloc (.cells #[.pointer none,.slice none 0 0] 88):=⟨_,rfl⟩
 have HB:Hid (Bld W b []):=hid (by rw [hW,hb];exact HBN.out)
 have HFW:Hid (FBlk w.heap.size W ⟨c,p,n⟩):=hid (HF0.out.on (by rw [hW];exact belowA _ _))
 have HBW:Hid (Below w.heap.size w W):=hid (HB0.out.trans (by rw [hW];exact (belowA _ _).mono HB0.out.size))
 have hwb:w.heap.size<b:=by rw [hb];have:=HZ0.out;omega
 rw [← hW,← hb]
 clear hW hb HBN HF0 HB0 HZ0 HW0 c0
 go_loopg [15] N (fun k iv wr=>∃ (i:Nat),iv=.int .i64 (i:Nat)∧i≤N∧Bld wr b (tellE c s i)∧FBlk w.heap.size wr ⟨c,p,n⟩∧Below w.heap.size w wr∧k=N-i)
 case atStart=>exact ⟨0,rfl,Nat.zero_le _,HB.out,HFW.out,HBW.out,rfl⟩
 case round=>
  obtain ⟨i,rfl,hiN,hbd,hF,hbl,rfl⟩:=hrel
  have HBD:=hid hbd
  have HFF:=hid hF
  have HBL:=hid hbl
  clear hbd hF hbl HB HFW HBW
  rcases Nat.lt_or_ge i N with hlt | hge
  ·have hltI:(i:Int)<(N:Int):=by omega
   have hc0:=HFF.out.c0
   have hc1:=HFF.out.c1
   have hc2:=HFF.out.c2
   have hJ:i*4 / 8<s.length:=HROOM.out i hlt
   obtain ⟨J,hJe⟩:∃ J,J=i*4 / 8:=⟨_,rfl⟩
   rw [← hJe] at hJ
   have hJI:(i:Int)*4 / 8=(J:Int):=by omega
   have haJ:=At.here hJ
   have hbyte:=haJ.byte
   have hJs:(J:Int)<(s.length:Int):=by omega
   obtain ⟨x,hx⟩:∃ x,x=s[J]:=⟨_,rfl⟩
   have hgd:(s.getD J 0)=x:=by rw [hx,List.getD_eq_getElem?_getD,List.getElem?_eq_getElem hJ];rfl
   rw [← hx] at hbyte
   have HGD:=hid hgd
   have hxl:=x.toNat_lt
   clear hx hgd haJ
   have S0:Hid ((fun u:World=>u.cell? ⟨w.heap.size,0,none⟩=some (.int .u8 (c.toNat:Nat))∧u.cell? ⟨w.heap.size,1,none⟩=some (.bool p)∧u.cell? ⟨w.heap.size,2,none⟩=some (.int .i64 n)) wr.drew):=hid ⟨hc0,hc1,hc2⟩
   obtain ⟨sh,hsh⟩:∃ sh,sh=shiftL c i 4:=⟨_,rfl⟩
   have hsf:=HSH.out i (by omega)
   rw [← hsh] at hsf
   have HSF:=hid hsf
   have HSHE:=hid hsh
   have HSB:=hid (show sh≤7 by rw [hsh];exact shiftL_le4 c i)
   have HJE:=hid hJe
   obtain ⟨z,hz⟩:∃ z,z=x.toNat / 2 ^ sh:=⟨_,rfl⟩
   have hzl:z<256:=by rw [hz];exact Nat.lt_of_le_of_lt (Nat.div_le_self _ _) hxl
   have hzI:((x.toNat:Int) / 2 ^ sh)=(z:Int):=by rw [shr_in,hz]
   have HZI:=hid hzI
   have HZ:=hid hz
   have hand:=i64_mask4 z (by omega)
   obtain ⟨d,hd⟩:∃ d,d=z % 2 ^ 4:=⟨_,rfl⟩
   rw [show z % 16=d from hd.symm] at hand
   have hdl:d<16:=by rw [hd];exact Nat.lt_of_lt_of_le (Nat.mod_lt _ (by decide)) (by decide)
   have HAND:=hid hand
   have HD:=hid hd
   have hq2:(0:Int)≤(d:Int)∧(d:Int)<16:=by omega
   clear hJe hc0 hc1 hc2 hsf hsh hzI hz hand hd
   go_upto_region 6 with fail
   refine U_begin (late:=fun k=>decide (17≤k)) (S:=fun u:World=>u.cell? ⟨w.heap.size,0,none⟩=some (.int .u8 (c.toNat:Nat))∧u.cell? ⟨w.heap.size,1,none⟩=some (.bool p)∧u.cell? ⟨w.heap.size,2,none⟩=some (.int .i64 n)) (by kernel_rfl) ?_
   refine U_take2 8 (i:=0) (v:=.string ⟨s.toArray⟩) rfl (by kernel_rfl) (by kernel_rfl) (by kernel_rfl) (by kernel_rfl) (by kernel_rfl) (fun _ _ _ h=>h) (.inl ⟨rfl,fun u hu=>(by go_simp)⟩) S0.out ?_
   refine U_take2 8 (i:=1) (v:=.int .i64 (i:Nat)) rfl (by kernel_rfl) (by kernel_rfl) (by kernel_rfl) (by kernel_rfl) (by kernel_rfl) (fun _ _ _ h=>h) (.inl ⟨rfl,fun u hu=>(by go_simp)⟩) S0.out ?_
   refine U_take2 8 (i:=2) (v:=.int .i64 4) rfl (by kernel_rfl) (by kernel_rfl) (by kernel_rfl) (by kernel_rfl) (by kernel_rfl) (fun _ _ _ h=>h) (.inl ⟨rfl,fun u hu=>(by go_simp)⟩) S0.out ?_
   refine U_take2 8 (i:=3) (v:=.int .i64 ((i:Int)*4)) rfl (by kernel_rfl) (by kernel_rfl) (by kernel_rfl) (by kernel_rfl) (by kernel_rfl) (fun _ _ _ h=>h) (.inl ⟨rfl,fun u hu=>(by go_simp<;>exact IntWalk.i64_in _ (by omega))⟩) S0.out ?_
   refine U_take2 8 (i:=4) (v:=.int .i64 (J:Nat)) rfl (by kernel_rfl) (by kernel_rfl) (by kernel_rfl) (by kernel_rfl) (by kernel_rfl) (fun _ _ _ h=>h) (.inl ⟨rfl,fun u hu=>(by go_simp<;>first|(rw [Int.tdiv_eq_ediv_of_nonneg (by omega)];rw [IntWalk.i64_in _ (by omega)];exact hJI)|(rw [IntWalk.i64_in _ (by omega)];omega))⟩) S0.out ?_
   refine U_take2 8 (i:=5) (v:=.int .u8 (x.toNat:Nat)) rfl (by kernel_rfl) (by kernel_rfl) (by kernel_rfl) (by kernel_rfl) (by kernel_rfl) (fun _ _ _ h=>h) (.inl ⟨rfl,fun u hu=>(by go_simp)⟩) S0.out ?_
   refine U_take2 8 (i:=6) (v:=.int .i64 (x.toNat:Nat)) rfl (by kernel_rfl) (by kernel_rfl) (by kernel_rfl) (by kernel_rfl) (by kernel_rfl) (fun _ _ _ h=>h) (.inl ⟨rfl,fun u hu=>(by go_simp<;>exact IntWalk.i64_in _ (by omega))⟩) S0.out ?_
   refine U_take2 8 (i:=7) (v:=.agg #[.int .u8 (c.toNat:Nat),.bool p,.int .i64 n]) rfl (by kernel_rfl) (by kernel_rfl) (by kernel_rfl) (by kernel_rfl) (by kernel_rfl) (fun _ _ _ h=>h) (.inl ⟨rfl,fun u hu=>(by obtain ⟨h1,h2,h3⟩:=hu;go_simp)⟩) S0.out ?_
   refine U_take2 8 (i:=8) (v:=.int .i64 (i:Nat)) rfl (by kernel_rfl) (by kernel_rfl) (by kernel_rfl) (by kernel_rfl) (by kernel_rfl) (fun _ _ _ h=>h) (.inl ⟨rfl,fun u hu=>(by go_simp)⟩) S0.out ?_
   refine U_take2 8 (i:=9) (v:=.int .i64 4) rfl (by kernel_rfl) (by kernel_rfl) (by kernel_rfl) (by kernel_rfl) (by kernel_rfl) (fun _ _ _ h=>h) (.inl ⟨rfl,fun u hu=>(by go_simp)⟩) S0.out ?_
   refine U_take2 8 (i:=12) (v:=.int .i64 4) rfl (by kernel_rfl) (by kernel_rfl) (by kernel_rfl) (by kernel_rfl) (by kernel_rfl) (fun _ _ _ h=>h) (.inl ⟨rfl,fun u hu=>(by go_simp)⟩) S0.out ?_
   refine U_take2 8 (i:=13) (v:=.int .i64 16) rfl (by kernel_rfl) (by kernel_rfl) (by kernel_rfl) (by kernel_rfl) (by kernel_rfl) (fun _ _ _ h=>h) (.inl ⟨rfl,fun u hu=>(by go_simp<;>exact IntWalk.i64_in _ (by omega))⟩) S0.out ?_
   refine U_take2 8 (i:=14) (v:=.int .i64 15) rfl (by kernel_rfl) (by kernel_rfl) (by kernel_rfl) (by kernel_rfl) (by kernel_rfl) (fun _ _ _ h=>h) (.inl ⟨rfl,fun u hu=>(by go_simp<;>exact IntWalk.i64_in _ (by omega))⟩) S0.out ?_
   refine U_step (j:=10) (by kernel_rfl) rfl (fun K hK=>?_)
   go_simp
   (with_reducible refine (HSF.out _).mono ?_);rintro e w6 ⟨rfl,hb6⟩
   have S6:Hid ((fun u:World=>u.cell? ⟨w.heap.size,0,none⟩=some (.int .u8 (c.toNat:Nat))∧u.cell? ⟨w.heap.size,1,none⟩=some (.bool p)∧u.cell? ⟨w.heap.size,2,none⟩=some (.int .i64 n)) w6):=by
    have hlw:=HFF.out.lt
    have hk:∀ (a:Addr),a.block<wr.heap.size→w6.cell? a=wr.drew.cell? a:=fun a ha=>hb6.cell (p:=a) ha
    exact hid ⟨(hk ⟨w.heap.size,0,none⟩ hlw).trans S0.out.1,(hk ⟨w.heap.size,1,none⟩ hlw).trans S0.out.2.1,(hk ⟨w.heap.size,2,none⟩ hlw).trans S0.out.2.2⟩
   refine hK.out _ _ (.inr S6.out) ?_
   clear hK K S0
   have HB6:=hid (show Below wr.heap.size wr w6 from (Below.refl _ wr).drew.trans hb6)
   clear hb6
   refine U_take2 8 (i:=11) (v:=.int .i64 (z:Nat)) rfl (by kernel_rfl) (by kernel_rfl) (by kernel_rfl) (by kernel_rfl) (by kernel_rfl) (fun _ _ _ h=>h) (.inl ⟨rfl,fun u hu=>(by go_simp<;>first | exact HZI.out|(rw [Nat.min_eq_left (by have:=HSB.out;omega)];exact HZI.out))⟩) S6.out ?_
   refine U_take2 8 (i:=15) (v:=.int .i64 (d:Nat)) rfl (by kernel_rfl) (by kernel_rfl) (by kernel_rfl) (by kernel_rfl) (by kernel_rfl) (fun _ _ _ h=>h) (.inl ⟨rfl,fun u hu=>(by go_simp<;>exact HAND.out)⟩) S6.out ?_
   refine U_take2 8 (i:=16) (v:=.int .i64 (d:Nat)) rfl (by kernel_rfl) (by kernel_rfl) (by kernel_rfl) (by kernel_rfl) (by kernel_rfl) (fun _ _ _ h=>h) (.inl ⟨rfl,fun u hu=>(by go_simp)⟩) S6.out ?_
   refine U_done (by kernel_rfl) ?_ _
   clear S6
   have HB7:=hid (HBD.out.of (w':=w6) fun k _ hk=>HB6.out.block k hk)
   have HF6:=hid (HFF.out.on HB6.out)
   have hsn:=tellE_snoc c s i
   rw [HBITS.out,← HSHE.out,← HJE.out,HGD.out,← HZ.out,← HD.out] at hsn
   have HSN:=hid hsn
   clear hsn
   go_wp2_with (go_at_call 91;rw [hexdig];refine (wbyte_fn HB7.out _ (by rw [tellE_len];omega)).mono ?_;rintro e w7 ⟨rfl,hb7,hk7⟩;have HB8:=hid hb7;have HK7:=hid hk7;clear hb7 hk7)
   go_roundg (N-(i+1))
   case measure=>omega
   case rel=>exact ⟨i+1,by go_num,hlt,by rw [HSN.out];exact HB8.out,HF6.out.below HK7.out.1 hwb,HBL.out.trans ((HB6.out.mono HBL.out.size).trans (HK7.out.1.mono (by omega))),rfl⟩
  ·obtain rfl:i=N:=by omega
   have HST:=hid (str_fn HBD.out)
   go_wp2_with (go_at_call 78;refine HST.out.mono ?_;rintro e w5 ⟨rfl,hb5,hk5⟩;have HK5:=hid hk5;clear hb5 hk5)
   go_ret
   exact ⟨by rw [HR.out];rfl,HBL.out.trans (HK5.out.1.mono (by omega))⟩
set_option maxRecDepth 100000 in
set_option maxHeartbeats 4000000 in
theorem digits1_fn (c:UInt8) (p:Bool) (n:Int) (hbits:bitsL c=1) (s:Str) (_hs:s.length≤100000) (N:Nat) (hroom:∀ i,i<N→i*1 / 8<s.length) (hN:N≤800000) (w:World) :
  Calls Tryz.prog 126 #[.agg #[.int .u8 (c.toNat:Nat),.bool p,.int .i64 n],.string ⟨s.toArray⟩,.int .i64 (N:Nat)] w fun e w'=>e=.returned (.string ⟨(tellE c s N).toArray⟩)∧Below w.heap.size w w':=by
 have hsz:(⟨s.toArray⟩:ByteArray).size=s.length:=Lib.size_mk _
 obtain ⟨w0,hw0⟩:∃ w0,w0=w.alloc (.cells #[.int .u8 (c.toNat:Nat),.bool p,.int .i64 n] 79):=⟨_,rfl⟩
 have hF0:FBlk w.heap.size w0 ⟨c,p,n⟩:=⟨by rw [hw0];exact heap_alloc_new _ _⟩
 have hb0:Below w.heap.size w w0:=by rw [hw0];exact (Below.refl _ _).alloc (Nat.le_refl _) _
 have hz0:w0.heap.size=w.heap.size+1:=by rw [hw0];simp
 have HDG:=hid (show ∀ u,Calls Tryz.prog 125 #[.int .u8 (c.toNat:Nat)] u fun e w'=>e=.returned (.int .i64 1)∧w'=u from fun u=>by have h:=digitsOf_fn c u;rw [hbits] at h;exact h)
 have HSH:=hid (fun (i:Nat) (hi:i≤1000000) u=>shift1_fn c p n i hi u)
 have HROOM:=hid hroom
 have HW0:=hid hw0
 have HF0:=hid hF0
 have HB0:=hid hb0
 have HZ0:=hid hz0
 have HBN:=hid (Bld.new w0)
 have c0:=hF0.c0
 have HBITS:=hid hbits
 obtain ⟨R,hR⟩:∃ R,R=tellE c s N:=⟨_,rfl⟩
 rw [← hR]
 have HR:=hid hR
 clear hw0 hF0 hb0 hz0 hroom hbits hR
 go_enter Tryz.func126,Tryz.ntmps126
 go_wp2_with (first|(rw [← HW0.out];(with_reducible refine (HDG.out _).mono ?_);rintro e w1 ⟨rfl,rfl⟩))
 obtain ⟨b,hb⟩:∃ b,b=w1.heap.size:=⟨_,rfl⟩
 obtain ⟨W,hW⟩:∃ W,W=w1.alloc (.cells #[.pointer none,.slice none 0 0] 88):=⟨_,rfl⟩
 have HB:Hid (Bld W b []):=hid (by rw [hW,hb];exact HBN.out)
 have HFW:Hid (FBlk w.heap.size W ⟨c,p,n⟩):=hid (HF0.out.on (by rw [hW];exact belowA _ _))
 have HBW:Hid (Below w.heap.size w W):=hid (HB0.out.trans (by rw [hW];exact (belowA _ _).mono HB0.out.size))
 have hwb:w.heap.size<b:=by rw [hb];have:=HZ0.out;omega
 rw [← hW,← hb]
 clear hW hb HBN HF0 HB0 HZ0 HW0 c0
 go_loopg [15] N (fun k iv wr=>∃ (i:Nat),iv=.int .i64 (i:Nat)∧i≤N∧Bld wr b (tellE c s i)∧FBlk w.heap.size wr ⟨c,p,n⟩∧Below w.heap.size w wr∧k=N-i)
 case atStart=>exact ⟨0,rfl,Nat.zero_le _,HB.out,HFW.out,HBW.out,rfl⟩
 case round=>
  obtain ⟨i,rfl,hiN,hbd,hF,hbl,rfl⟩:=hrel
  have HBD:=hid hbd
  have HFF:=hid hF
  have HBL:=hid hbl
  clear hbd hF hbl HB HFW HBW
  rcases Nat.lt_or_ge i N with hlt | hge
  ·have hltI:(i:Int)<(N:Int):=by omega
   have hc0:=HFF.out.c0
   have hc1:=HFF.out.c1
   have hc2:=HFF.out.c2
   have hJ:i*1 / 8<s.length:=HROOM.out i hlt
   obtain ⟨J,hJe⟩:∃ J,J=i*1 / 8:=⟨_,rfl⟩
   rw [← hJe] at hJ
   have hJI:(i:Int)*1 / 8=(J:Int):=by omega
   have haJ:=At.here hJ
   have hbyte:=haJ.byte
   have hJs:(J:Int)<(s.length:Int):=by omega
   obtain ⟨x,hx⟩:∃ x,x=s[J]:=⟨_,rfl⟩
   have hgd:(s.getD J 0)=x:=by rw [hx,List.getD_eq_getElem?_getD,List.getElem?_eq_getElem hJ];rfl
   rw [← hx] at hbyte
   have HGD:=hid hgd
   have hxl:=x.toNat_lt
   clear hx hgd haJ
   have S0:Hid ((fun u:World=>u.cell? ⟨w.heap.size,0,none⟩=some (.int .u8 (c.toNat:Nat))∧u.cell? ⟨w.heap.size,1,none⟩=some (.bool p)∧u.cell? ⟨w.heap.size,2,none⟩=some (.int .i64 n)) wr.drew):=hid ⟨hc0,hc1,hc2⟩
   obtain ⟨sh,hsh⟩:∃ sh,sh=shiftL c i 1:=⟨_,rfl⟩
   have hsf:=HSH.out i (by omega)
   rw [← hsh] at hsf
   have HSF:=hid hsf
   have HSHE:=hid hsh
   have HSB:=hid (show sh≤7 by rw [hsh];exact shiftL_le1 c i)
   have HJE:=hid hJe
   obtain ⟨z,hz⟩:∃ z,z=x.toNat / 2 ^ sh:=⟨_,rfl⟩
   have hzl:z<256:=by rw [hz];exact Nat.lt_of_le_of_lt (Nat.div_le_self _ _) hxl
   have hzI:((x.toNat:Int) / 2 ^ sh)=(z:Int):=by rw [shr_in,hz]
   have HZI:=hid hzI
   have HZ:=hid hz
   have hand:=i64_mask1 z (by omega)
   obtain ⟨d,hd⟩:∃ d,d=z % 2 ^ 1:=⟨_,rfl⟩
   rw [show z % 2=d from hd.symm] at hand
   have hdl:d<16:=by rw [hd];exact Nat.lt_of_lt_of_le (Nat.mod_lt _ (by decide)) (by decide)
   have HAND:=hid hand
   have HD:=hid hd
   have hq2:(0:Int)≤(d:Int)∧(d:Int)<16:=by omega
   clear hJe hc0 hc1 hc2 hsf hsh hzI hz hand hd
   go_upto_region 6 with fail
   refine U_begin (late:=fun k=>decide (17≤k)) (S:=fun u:World=>u.cell? ⟨w.heap.size,0,none⟩=some (.int .u8 (c.toNat:Nat))∧u.cell? ⟨w.heap.size,1,none⟩=some (.bool p)∧u.cell? ⟨w.heap.size,2,none⟩=some (.int .i64 n)) (by kernel_rfl) ?_
   refine U_take2 8 (i:=0) (v:=.string ⟨s.toArray⟩) rfl (by kernel_rfl) (by kernel_rfl) (by kernel_rfl) (by kernel_rfl) (by kernel_rfl) (fun _ _ _ h=>h) (.inl ⟨rfl,fun u hu=>(by go_simp)⟩) S0.out ?_
   refine U_take2 8 (i:=1) (v:=.int .i64 (i:Nat)) rfl (by kernel_rfl) (by kernel_rfl) (by kernel_rfl) (by kernel_rfl) (by kernel_rfl) (fun _ _ _ h=>h) (.inl ⟨rfl,fun u hu=>(by go_simp)⟩) S0.out ?_
   refine U_take2 8 (i:=2) (v:=.int .i64 1) rfl (by kernel_rfl) (by kernel_rfl) (by kernel_rfl) (by kernel_rfl) (by kernel_rfl) (fun _ _ _ h=>h) (.inl ⟨rfl,fun u hu=>(by go_simp)⟩) S0.out ?_
   refine U_take2 8 (i:=3) (v:=.int .i64 ((i:Int)*1)) rfl (by kernel_rfl) (by kernel_rfl) (by kernel_rfl) (by kernel_rfl) (by kernel_rfl) (fun _ _ _ h=>h) (.inl ⟨rfl,fun u hu=>(by go_simp<;>exact IntWalk.i64_in _ (by omega))⟩) S0.out ?_
   refine U_take2 8 (i:=4) (v:=.int .i64 (J:Nat)) rfl (by kernel_rfl) (by kernel_rfl) (by kernel_rfl) (by kernel_rfl) (by kernel_rfl) (fun _ _ _ h=>h) (.inl ⟨rfl,fun u hu=>(by go_simp<;>first|(rw [Int.tdiv_eq_ediv_of_nonneg (by omega)];rw [IntWalk.i64_in _ (by omega)];exact hJI)|(rw [IntWalk.i64_in _ (by omega)];omega))⟩) S0.out ?_
   refine U_take2 8 (i:=5) (v:=.int .u8 (x.toNat:Nat)) rfl (by kernel_rfl) (by kernel_rfl) (by kernel_rfl) (by kernel_rfl) (by kernel_rfl) (fun _ _ _ h=>h) (.inl ⟨rfl,fun u hu=>(by go_simp)⟩) S0.out ?_
   refine U_take2 8 (i:=6) (v:=.int .i64 (x.toNat:Nat)) rfl (by kernel_rfl) (by kernel_rfl) (by kernel_rfl) (by kernel_rfl) (by kernel_rfl) (fun _ _ _ h=>h) (.inl ⟨rfl,fun u hu=>(by go_simp<;>exact IntWalk.i64_in _ (by omega))⟩) S0.out ?_
   refine U_take2 8 (i:=7) (v:=.agg #[.int .u8 (c.toNat:Nat),.bool p,.int .i64 n]) rfl (by kernel_rfl) (by kernel_rfl) (by kernel_rfl) (by kernel_rfl) (by kernel_rfl) (fun _ _ _ h=>h) (.inl ⟨rfl,fun u hu=>(by obtain ⟨h1,h2,h3⟩:=hu;go_simp)⟩) S0.out ?_
   refine U_take2 8 (i:=8) (v:=.int .i64 (i:Nat)) rfl (by kernel_rfl) (by kernel_rfl) (by kernel_rfl) (by kernel_rfl) (by kernel_rfl) (fun _ _ _ h=>h) (.inl ⟨rfl,fun u hu=>(by go_simp)⟩) S0.out ?_
   refine U_take2 8 (i:=9) (v:=.int .i64 1) rfl (by kernel_rfl) (by kernel_rfl) (by kernel_rfl) (by kernel_rfl) (by kernel_rfl) (fun _ _ _ h=>h) (.inl ⟨rfl,fun u hu=>(by go_simp)⟩) S0.out ?_
   refine U_take2 8 (i:=12) (v:=.int .i64 1) rfl (by kernel_rfl) (by kernel_rfl) (by kernel_rfl) (by kernel_rfl) (by kernel_rfl) (fun _ _ _ h=>h) (.inl ⟨rfl,fun u hu=>(by go_simp)⟩) S0.out ?_
   refine U_take2 8 (i:=13) (v:=.int .i64 2) rfl (by kernel_rfl) (by kernel_rfl) (by kernel_rfl) (by kernel_rfl) (by kernel_rfl) (fun _ _ _ h=>h) (.inl ⟨rfl,fun u hu=>(by go_simp<;>exact IntWalk.i64_in _ (by omega))⟩) S0.out ?_
   refine U_take2 8 (i:=14) (v:=.int .i64 1) rfl (by kernel_rfl) (by kernel_rfl) (by kernel_rfl) (by kernel_rfl) (by kernel_rfl) (fun _ _ _ h=>h) (.inl ⟨rfl,fun u hu=>(by go_simp<;>exact IntWalk.i64_in _ (by omega))⟩) S0.out ?_
   refine U_step (j:=10) (by kernel_rfl) rfl (fun K hK=>?_)
   go_simp
   (with_reducible refine (HSF.out _).mono ?_);rintro e w6 ⟨rfl,hb6⟩
   have S6:Hid ((fun u:World=>u.cell? ⟨w.heap.size,0,none⟩=some (.int .u8 (c.toNat:Nat))∧u.cell? ⟨w.heap.size,1,none⟩=some (.bool p)∧u.cell? ⟨w.heap.size,2,none⟩=some (.int .i64 n)) w6):=by
    have hlw:=HFF.out.lt
    have hk:∀ (a:Addr),a.block<wr.heap.size→w6.cell? a=wr.drew.cell? a:=fun a ha=>hb6.cell (p:=a) ha
    exact hid ⟨(hk ⟨w.heap.size,0,none⟩ hlw).trans S0.out.1,(hk ⟨w.heap.size,1,none⟩ hlw).trans S0.out.2.1,(hk ⟨w.heap.size,2,none⟩ hlw).trans S0.out.2.2⟩
   refine hK.out _ _ (.inr S6.out) ?_
   clear hK K S0
   have HB6:=hid (show Below wr.heap.size wr w6 from (Below.refl _ wr).drew.trans hb6)
   clear hb6
   refine U_take2 8 (i:=11) (v:=.int .i64 (z:Nat)) rfl (by kernel_rfl) (by kernel_rfl) (by kernel_rfl) (by kernel_rfl) (by kernel_rfl) (fun _ _ _ h=>h) (.inl ⟨rfl,fun u hu=>(by go_simp<;>first | exact HZI.out|(rw [Nat.min_eq_left (by have:=HSB.out;omega)];exact HZI.out))⟩) S6.out ?_
   refine U_take2 8 (i:=15) (v:=.int .i64 (d:Nat)) rfl (by kernel_rfl) (by kernel_rfl) (by kernel_rfl) (by kernel_rfl) (by kernel_rfl) (fun _ _ _ h=>h) (.inl ⟨rfl,fun u hu=>(by go_simp<;>exact HAND.out)⟩) S6.out ?_
   refine U_take2 8 (i:=16) (v:=.int .i64 (d:Nat)) rfl (by kernel_rfl) (by kernel_rfl) (by kernel_rfl) (by kernel_rfl) (by kernel_rfl) (fun _ _ _ h=>h) (.inl ⟨rfl,fun u hu=>(by go_simp)⟩) S6.out ?_
   refine U_done (by kernel_rfl) ?_ _
   clear S6
   have HB7:=hid (HBD.out.of (w':=w6) fun k _ hk=>HB6.out.block k hk)
   have HF6:=hid (HFF.out.on HB6.out)
   have hsn:=tellE_snoc c s i
   rw [HBITS.out,← HSHE.out,← HJE.out,HGD.out,← HZ.out,← HD.out] at hsn
   have HSN:=hid hsn
   clear hsn
   go_wp2_with (go_at_call 91;rw [hexdig];refine (wbyte_fn HB7.out _ (by rw [tellE_len];omega)).mono ?_;rintro e w7 ⟨rfl,hb7,hk7⟩;have HB8:=hid hb7;have HK7:=hid hk7;clear hb7 hk7)
   go_roundg (N-(i+1))
   case measure=>omega
   case rel=>exact ⟨i+1,by go_num,hlt,by rw [HSN.out];exact HB8.out,HF6.out.below HK7.out.1 hwb,HBL.out.trans ((HB6.out.mono HBL.out.size).trans (HK7.out.1.mono (by omega))),rfl⟩
  ·obtain rfl:i=N:=by omega
   have HST:=hid (str_fn HBD.out)
   go_wp2_with (go_at_call 78;refine HST.out.mono ?_;rintro e w5 ⟨rfl,hb5,hk5⟩;have HK5:=hid hk5;clear hb5 hk5)
   go_ret
   exact ⟨by rw [HR.out];rfl,HBL.out.trans (HK5.out.1.mono (by omega))⟩
theorem digits_fn (c:UInt8) (p:Bool) (n:Int) (s:Str) (hs:s.length≤100000) (N:Nat) (hroom:∀ i,i<N→i*bitsL c / 8<s.length) (hN:N≤800000) (w:World) :
  Calls Tryz.prog 126 #[.agg #[.int .u8 (c.toNat:Nat),.bool p,.int .i64 n],.string ⟨s.toArray⟩,.int .i64 (N:Nat)] w fun e w'=>e=.returned (.string ⟨(tellE c s N).toArray⟩)∧Below w.heap.size w w':=by
 rcases bitsL_cases c with h | h
 ·rw [h] at hroom
  exact digits1_fn c p n h s hs N hroom hN w
 ·rw [h] at hroom
  exact digits4_fn c p n h s hs N hroom hN w
end Go.Proofs.YtihdndaibmgoiaaGreatDoor.Pz
namespace Go.Proofs.YtihdndaibmgoiaaGreatDoor.Pz
open Go.Shelf
def Tryz.laysM173_ren:Go.Shelf.Ren:=⟨fun | 173=>156 | 246=>147 | 283=>174 | 284=>175 | 285=>176 | 286=>177 | 129=>192 | 317=>191 | 318=>193 | 319=>194 | 320=>195 | 337=>212 | 338=>213 | n=>n,fun | 2=>2 | 3=>3 | 9=>9 | 4=>4 | 171=>180 | 0=>0 | 53=>44 | 37=>46 | 5=>5 | 173=>183 | 212=>195 | 51=>97 | 20=>20 | 213=>196 | 46=>98 | 232=>231 | 233=>232 | n=>n,fun | 17=>4 | 18=>5 | 19=>6 | n=>n⟩
theorem Tryz.laysM173:Go.Proofs.LaysM.n173 Tryz.prog Tryz.laysM173_ren:={
 mixed:=by kernel_rfl
 f129:=Tryz.func192.trans (congrArg some (by kernel_rfl))
 f173:=Tryz.func156.trans (congrArg some (by kernel_rfl))
 f246:=Tryz.func147.trans (congrArg some (by kernel_rfl))
 f283:=Tryz.func174.trans (congrArg some (by kernel_rfl))
 f284:=Tryz.func175.trans (congrArg some (by kernel_rfl))
 f285:=Tryz.func176.trans (congrArg some (by kernel_rfl))
 f286:=Tryz.func177.trans (congrArg some (by kernel_rfl))
 f317:=Tryz.func191.trans (congrArg some (by kernel_rfl))
 f318:=Tryz.func193.trans (congrArg some (by kernel_rfl))
 f319:=Tryz.func194.trans (congrArg some (by kernel_rfl))
 f320:=Tryz.func195.trans (congrArg some (by kernel_rfl))
 f337:=Tryz.func212.trans (congrArg some (by kernel_rfl))
 f338:=Tryz.func213.trans (congrArg some (by kernel_rfl))
 t0:=Tryz.underlying0
 a0:=Tryz.isAgg0
 z0:=Tryz.sizeOf0
 v0:=Tryz.zeroValue0
 t2:=Tryz.underlying2
 a2:=Tryz.isAgg2
 z2:=Tryz.sizeOf2
 v2:=Tryz.zeroValue2
 t3:=Tryz.underlying3
 a3:=Tryz.isAgg3
 z3:=Tryz.sizeOf3
 v3:=Tryz.zeroValue3
 t4:=Tryz.underlying4
 a4:=Tryz.isAgg4
 z4:=Tryz.sizeOf4
 v4:=Tryz.zeroValue4
 t5:=Tryz.underlying5
 a5:=Tryz.isAgg5
 z5:=Tryz.sizeOf5
 v5:=Tryz.zeroValue5
 t9:=Tryz.underlying9
 a9:=Tryz.isAgg9
 z9:=Tryz.sizeOf9
 v9:=Tryz.zeroValue9
 t20:=Tryz.underlying20
 a20:=Tryz.isAgg20
 z20:=Tryz.sizeOf20
 v20:=Tryz.zeroValue20
 t37:=Tryz.underlying46
 a37:=Tryz.isAgg46
 z37:=Tryz.sizeOf46
 v37:=Tryz.zeroValue46
 t46:=Tryz.underlying98
 a46:=Tryz.isAgg98
 z46:=Tryz.sizeOf98
 v46:=Tryz.zeroValue98
 t51:=Tryz.underlying97
 a51:=Tryz.isAgg97
 z51:=Tryz.sizeOf97
 v51:=Tryz.zeroValue97
 t53:=Tryz.underlying44
 a53:=Tryz.isAgg44
 z53:=Tryz.sizeOf44
 v53:=Tryz.zeroValue44
 t171:=Tryz.underlying180
 a171:=Tryz.isAgg180
 z171:=Tryz.sizeOf180
 v171:=Tryz.zeroValue180
 t173:=Tryz.underlying183
 a173:=Tryz.isAgg183
 z173:=Tryz.sizeOf183
 v173:=Tryz.zeroValue183
 t212:=Tryz.underlying195
 a212:=Tryz.isAgg195
 z212:=Tryz.sizeOf195
 v212:=Tryz.zeroValue195
 t213:=Tryz.underlying196
 a213:=Tryz.isAgg196
 z213:=Tryz.sizeOf196
 t232:=Tryz.underlying231
 a232:=Tryz.isAgg231
 z232:=Tryz.sizeOf231
 v232:=Tryz.zeroValue231
 t233:=Tryz.underlying232
 a233:=Tryz.isAgg232
 z233:=Tryz.sizeOf232
 v233:=Tryz.zeroValue232
 g17:=by kernel_rfl
 g18:=by kernel_rfl
 g19:=by kernel_rfl
 i0:=by kernel_rfl
 i2:=by kernel_rfl
 i3:=by kernel_rfl
 i4:=by kernel_rfl
 i5:=by kernel_rfl
 i9:=by kernel_rfl
 i20:=by kernel_rfl
 i37:=by kernel_rfl
 i46:=by kernel_rfl
 i51:=by kernel_rfl
 i53:=by kernel_rfl
 i171:=by kernel_rfl
 i173:=by kernel_rfl
 i212:=by kernel_rfl
 i232:=by kernel_rfl
 i233:=by kernel_rfl
 m17:=by kernel_rfl
 m18:=by kernel_rfl
 m19:=by kernel_rfl }
open Go.RowKit Go.Sort Go.Lib in
theorem Tryz.strconv_FormatInt_10 (n:Int) (h0:-9223372036854775808≤n) (h1:n≤9223372036854775807) (w:World) (htab:Lib.TabIs Tryz.prog w "internal/strconv.uint64pow10" .u64 Lib.pow10Tab) :
  Calls Tryz.prog 156 #[.int .i64 n,.int .i64 10] w fun e w'=>e=.returned (.string ⟨(Lib.itoa n).toArray⟩)∧∃ k os,w'=grow (w.drewN k) os:=Any.strconv_FormatInt_10 Tryz.laysM173 n h0 h1 w htab
def Tryz.lays283_ren:Go.Shelf.Ren:=⟨fun | 283=>174 | n=>n,fun | 3=>3 | 9=>9 | 4=>4 | n=>n,fun | n=>n⟩
theorem Tryz.lays283:Go.Proofs.Lays.n283 Tryz.prog Tryz.lays283_ren:={
 mixed:=by kernel_rfl
 f283:=Tryz.func174.trans (congrArg some (by kernel_rfl))
 t3:=Tryz.underlying3
 a3:=Tryz.isAgg3
 z3:=Tryz.sizeOf3
 v3:=Tryz.zeroValue3
 t4:=Tryz.underlying4
 a4:=Tryz.isAgg4
 z4:=Tryz.sizeOf4
 v4:=Tryz.zeroValue4
 t9:=Tryz.underlying9
 a9:=Tryz.isAgg9
 z9:=Tryz.sizeOf9
 v9:=Tryz.zeroValue9 }
open Go.Lib in
theorem Tryz.internal_strconv_small (i:Nat) (h:i<100) (w:World) :
  Calls Tryz.prog 174 #[.int .i64 i] w fun e w'=>e=.returned (.string ⟨(Lib.decDigits i).toArray⟩)∧w'=w:=Any.internal_strconv_small Tryz.lays283 i h w
def Tryz.laysM284_ren:Go.Shelf.Ren:=⟨fun | 284=>175 | 129=>192 | 317=>191 | 318=>193 | n=>n,fun | 53=>44 | 3=>3 | 212=>195 | 0=>0 | 4=>4 | 46=>98 | 5=>5 | 9=>9 | n=>n,fun | 17=>4 | n=>n⟩
theorem Tryz.laysM284:Go.Proofs.LaysM.n284 Tryz.prog Tryz.laysM284_ren:={
 mixed:=by kernel_rfl
 f129:=Tryz.func192.trans (congrArg some (by kernel_rfl))
 f284:=Tryz.func175.trans (congrArg some (by kernel_rfl))
 f317:=Tryz.func191.trans (congrArg some (by kernel_rfl))
 f318:=Tryz.func193.trans (congrArg some (by kernel_rfl))
 t0:=Tryz.underlying0
 a0:=Tryz.isAgg0
 z0:=Tryz.sizeOf0
 v0:=Tryz.zeroValue0
 t3:=Tryz.underlying3
 a3:=Tryz.isAgg3
 z3:=Tryz.sizeOf3
 v3:=Tryz.zeroValue3
 t4:=Tryz.underlying4
 a4:=Tryz.isAgg4
 z4:=Tryz.sizeOf4
 v4:=Tryz.zeroValue4
 t5:=Tryz.underlying5
 a5:=Tryz.isAgg5
 z5:=Tryz.sizeOf5
 v5:=Tryz.zeroValue5
 t9:=Tryz.underlying9
 a9:=Tryz.isAgg9
 z9:=Tryz.sizeOf9
 v9:=Tryz.zeroValue9
 t46:=Tryz.underlying98
 a46:=Tryz.isAgg98
 z46:=Tryz.sizeOf98
 v46:=Tryz.zeroValue98
 t53:=Tryz.underlying44
 a53:=Tryz.isAgg44
 z53:=Tryz.sizeOf44
 v53:=Tryz.zeroValue44
 t212:=Tryz.underlying195
 a212:=Tryz.isAgg195
 z212:=Tryz.sizeOf195
 v212:=Tryz.zeroValue195
 g17:=by kernel_rfl
 i0:=by kernel_rfl
 i3:=by kernel_rfl
 i4:=by kernel_rfl
 i5:=by kernel_rfl
 i9:=by kernel_rfl
 i46:=by kernel_rfl
 i53:=by kernel_rfl
 i212:=by kernel_rfl
 m17:=by kernel_rfl }
open Go.Lib in
theorem Tryz.internal_strconv_numDigits (u:Nat) (h1:1≤u) (h2:u<18446744073709551616) (w:World) (htab:Lib.TabIs Tryz.prog w "internal/strconv.uint64pow10" .u64 Lib.pow10Tab) :
  Calls Tryz.prog 175 #[.int .u64 u] w fun e w'=>e=.returned (.int .i64 (Lib.nDigits u))∧w'=w:=Any.internal_strconv_numDigits Tryz.laysM284 u h1 h2 w htab
def Tryz.lays285_ren:Go.Shelf.Ren:=⟨fun | 285=>176 | n=>n,fun | 37=>46 | 53=>44 | 3=>3 | 4=>4 | 51=>97 | 9=>9 | 5=>5 | 0=>0 | n=>n,fun | n=>n⟩
theorem Tryz.lays285:Go.Proofs.Lays.n285 Tryz.prog Tryz.lays285_ren:={
 mixed:=by kernel_rfl
 f285:=Tryz.func176.trans (congrArg some (by kernel_rfl))
 t0:=Tryz.underlying0
 a0:=Tryz.isAgg0
 z0:=Tryz.sizeOf0
 v0:=Tryz.zeroValue0
 t3:=Tryz.underlying3
 a3:=Tryz.isAgg3
 z3:=Tryz.sizeOf3
 v3:=Tryz.zeroValue3
 t4:=Tryz.underlying4
 a4:=Tryz.isAgg4
 z4:=Tryz.sizeOf4
 v4:=Tryz.zeroValue4
 t5:=Tryz.underlying5
 a5:=Tryz.isAgg5
 z5:=Tryz.sizeOf5
 v5:=Tryz.zeroValue5
 t9:=Tryz.underlying9
 a9:=Tryz.isAgg9
 z9:=Tryz.sizeOf9
 v9:=Tryz.zeroValue9
 t37:=Tryz.underlying46
 a37:=Tryz.isAgg46
 z37:=Tryz.sizeOf46
 v37:=Tryz.zeroValue46
 t51:=Tryz.underlying97
 a51:=Tryz.isAgg97
 z51:=Tryz.sizeOf97
 v51:=Tryz.zeroValue97
 t53:=Tryz.underlying44
 a53:=Tryz.isAgg44
 z53:=Tryz.sizeOf44
 v53:=Tryz.zeroValue44 }
open Go.RowKit Go.Sort Go.Lib in
theorem Tryz.internal_strconv_formatBase10 (blk off cap:Nat) (u:Nat) (d:Array UInt8) (w:World) (hH:Holds (fun (b:UInt8)=>Value.int .u8 (b.toNat:Int)) w blk off d) (hu:u<10 ^ d.size) (hu64:u<18446744073709551616) (hsz:d.size<4611686018427387904) :
  Calls Tryz.prog 176 #[.slice (some ⟨blk,off,none⟩) d.size cap,.int .u64 u] w fun e w'=>
   e=.returned (.tuple #[])∧∃ (n v':Nat) (dk:Array UInt8),w'=(putRow (fun (b:UInt8)=>Value.int .u8 (b.toNat:Int)) w blk off dk).drewN n∧FmtInv d.size u 0 v' dk:=Any.internal_strconv_formatBase10 Tryz.lays285 blk off cap u d w hH hu hu64 hsz
end Go.Proofs.YtihdndaibmgoiaaGreatDoor.Pz
namespace Go.Proofs.YtihdndaibmgoiaaGreatDoor
open Go.RowKit Go.Shelf
theorem nDig (u:Nat) (h:0<u):Lib.nDigits u=dlen 10 u:=by
 have hp:=(lt_dlen_iff 10 u 0 (by decide)).2 (by rw [Nat.pow_zero];exact h)
 have h1:=(lt_dlen_iff 10 u (dlen 10 u-1) (by decide)).1 (by omega)
 have h2:=dlen_lt 10 u (by decide)
 rw [Lib.nDigits_unique (dlen 10 u-1) u h1 (by rw [Nat.sub_add_cancel (by omega)];exact h2)]
 omega
theorem dec_str (u:Nat) (h:0<u):Lib.decDigits u=strOf 10 u:=by
 rw [Lib.decDigits_eq,nDig u h]
 unfold strOf
 apply List.map_congr_left
 intro t _
 unfold Lib.dg chN
 rw [if_pos (dgt_lt 10 u _ (by decide))]
 rfl
theorem itoa_num (n:Int):Lib.itoa n=numText 10 n.natAbs (decide (n<0)):=by
 unfold Lib.itoa numText
 by_cases hn:n<0
 ·rw [if_pos hn,if_neg (show ¬ n.natAbs=0 by omega),decide_eq_true hn,if_pos rfl,dec_str _ (by omega)]
 ·rw [if_neg hn,decide_eq_false hn]
  by_cases h0:n=0
  ·subst h0
   rw [if_pos (show Int.natAbs 0=0 from rfl)]
   show Lib.decDigits 0=[48]
   rw [Lib.decDigits,dif_pos (by decide)]
   rfl
  ·rw [if_neg (show ¬ n.natAbs=0 by omega),if_neg (by decide),show n.toNat=n.natAbs by omega,dec_str _ (by omega)]
theorem below_grows (w:World) (os:Array Obj):Below w.heap.size w (Sort.grow w os):=
 ⟨rfl,rfl,rfl,by simp [Sort.grow],fun k hk=>by simp only [Sort.grow];exact Array.getElem?_append_left hk⟩
theorem tabIs_below {P:Program} {w w':World} {name:String} {k:IntKind} {zs:List Int} (h:Lib.TabIs P w name k zs) (hb:Below w.heap.size w w'):Lib.TabIs P w' name k zs:=by
 unfold Lib.TabIs World.var? at *
 cases hg:P.globalNamed name with
 | none=>simp [hg] at h
 | some g=>
  simp only [hg,Option.bind_some] at h ⊢
  have hlt:g<w.heap.size:=by
   rcases Nat.lt_or_ge g w.heap.size with h' | h'
   ·exact h'
   ·rw [Array.getElem?_eq_none h'] at h;simp at h
  rw [hb.block g hlt]
  exact h
end Go.Proofs.YtihdndaibmgoiaaGreatDoor
namespace Go.Proofs.YtihdndaibmgoiaaGreatDoor.Pz
open Go.RowKit Go.Shelf Go.Sort Go.Lib
def Tab (w:World):Prop:=Lib.TabIs Tryz.prog w "internal/strconv.uint64pow10" .u64 Lib.pow10Tab
theorem Tab.below {w w':World} (h:Tab w) (hb:Below w.heap.size w w'):Tab w':=tabIs_below h hb
theorem below_grow (w:World) (k:Nat) (os:Array Obj):Below w.heap.size w (Sort.grow (w.drewN k) os):=by
 have hs:(w.drewN k).heap.size=w.heap.size:=by first | rfl | simp [World.drewN]
 have hg:=below_grows (w.drewN k) os
 rw [hs] at hg
 exact (below_drewN (Below.refl w.heap.size w) k).trans hg
theorem holds_zero0 (w:World) (T:TypeId) (nd:Nat) (hs:nd≤24):Holds (fun (b:UInt8)=>Value.int .u8 (b.toNat:Int)) (w.alloc (.cells Lib.zeros24 T)) w.heap.size 0 (Array.replicate nd (0:UInt8)):=fun j hj=>by
 have hj':j<nd:=by simpa using hj
 refine ⟨?_,World.frozen?_alloc_new _ _ _ _⟩
 rw [World.cell?_alloc_new,Lib.zeros24_at _ (by omega),getElem!_pos _ j hj]
 simp
theorem fin_pos0 (w:World) (o:Obj) (dk:Array UInt8) (k:Nat):∃ os,(putRow (fun (b:UInt8)=>Value.int .u8 (b.toNat:Int)) (w.alloc o) w.heap.size 0 dk).drewN k=Sort.grow (w.drewN k) os:=by
 rw [alloc_eq_grow]
 obtain ⟨os',_,e⟩:=putRow_grow_new (fun (b:UInt8)=>Value.int .u8 (b.toNat:Int)) w #[o] w.heap.size 0 dk (Nat.le_refl _)
 exact ⟨os',by rw [e];rfl⟩
set_option maxHeartbeats 6400000 in
set_option maxRecDepth 100000 in
theorem fuintI_fn (u:Nat) (hu64:u<18446744073709551616) (w:World) (htab:Tab w) :
  Calls Tryz.prog 181 #[.int .u64 (u:Nat),.int .i64 10] w fun e w'=>e=.returned (.string ⟨(Lib.decDigits u).toArray⟩)∧Below w.heap.size w w':=by
 by_cases hs:u<100
 ·have HS:=hid (fun w=>Tryz.internal_strconv_small u hs w)
  go_enter Tryz.func181,Tryz.ntmps181
  go_wp2_with (go_at_call 174;refine (HS.out _).mono ?_;rintro e w' ⟨rfl,rfl⟩)
  go_ret
  exact ⟨rfl,Below.refl _ _⟩
 ·have hu1:1≤u:=by omega
  have hnd20:Lib.nDigits u≤20:=by have:=Lib.numDigits_eq u hu1 hu64;split at this<;>omega
  have hb3:Lib.nDigits u≤24:=by omega
  have hal:Tryz.prog.arrayLen 180=24:=by simp [Program.arrayLen,Tryz.underlying180]
  have hsl1:∀ W,(Instr.sliceAt 180 (.pointer (some ⟨w.heap.size,0,none⟩)) none (some (.int .i64 (Lib.nDigits u:Int))) none).run Tryz.prog W=.ok (.slice (some ⟨w.heap.size,0,none⟩) (Lib.nDigits u) 24) W:=fun W=>by
   rw [run_sliceAt_array_h W 180 ⟨w.heap.size,0,none⟩ (by simp [Program.arrayLen,Program.elem,Tryz.underlying180]) .i64 (Lib.nDigits u:Int) (by omega) (by rw [hal];omega)]
   go_simp
  have hH0:=holds_zero0 w 180 (Lib.nDigits u) hb3
  have hfmt:=Tryz.internal_strconv_formatBase10 w.heap.size 0 24 u (Array.replicate (Lib.nDigits u) 0) (w.alloc (.cells Lib.zeros24 180)) hH0 (by rw [Array.size_replicate];exact Lib.lt_pow_nDigits u) hu64 (by rw [Array.size_replicate];omega)
  rw [Array.size_replicate] at hfmt
  have HND:=hid (Tryz.internal_strconv_numDigits u hu1 hu64 (w.alloc (.cells Lib.zeros24 180)) (htab.below (belowA' _ _)))
  have HH0:=hid hH0
  have HFM:=hid hfmt
  clear hH0 hal hfmt htab
  go_enter Tryz.func181,Tryz.ntmps181
  go_wp2_with (go_at_call 175;refine HND.out.mono ?_;rintro e w' ⟨rfl,rfl⟩)
  go_at_call 176
  refine HFM.out.mono ?_
  rintro e w' ⟨rfl,k,v',dk,rfl,hF⟩
  have hcv:(convert 46 9 (.slice (some ⟨w.heap.size,0,none⟩) (Lib.nDigits u) 24)).run Tryz.prog ((putRow (fun (b:UInt8)=>Value.int .u8 (b.toNat:Int)) (w.alloc (.cells Lib.zeros24 180)) w.heap.size 0 dk).drewN k)=.ok (.string ⟨(Lib.decDigits u).toArray⟩) ((putRow (fun (b:UInt8)=>Value.int .u8 (b.toNat:Int)) (w.alloc (.cells Lib.zeros24 180)) w.heap.size 0 dk).drewN k):=by
   have h:=run_convert_bytes_back (P:=Tryz.prog) ((putRow (fun (b:UInt8)=>Value.int .u8 (b.toNat:Int)) (w.alloc (.cells Lib.zeros24 180)) w.heap.size 0 dk).drewN k) 46 9 5 ⟨w.heap.size,0,none⟩ 24 (Lib.decDigits u) Tryz.underlying46 Tryz.underlying5 Tryz.underlying9 (fun j hj=>by
    rw [Lib.row_is_numeral hF j hj,Lib.add_plain,World.cell?_drewN]
    exact cell?_putRow (fun (b:UInt8)=>Value.int .u8 (b.toNat:Int)) _ w.heap.size 0 _ dk HH0.out (by rw [hF.size,Array.size_replicate]) j (by rw [hF.size];rw [Lib.decDigits_length] at hj;exact hj))
   rw [Lib.decDigits_length] at h
   exact h
  obtain ⟨os,eo⟩:=fin_pos0 w (.cells Lib.zeros24 180) dk k
  have HEO:=hid eo
  clear eo
  go_wp2
  go_ret
  refine ⟨rfl,?_⟩
  rw [HEO.out]
  exact below_grow w k os
theorem dec_num (u:Nat):Lib.decDigits u=numText 10 u false:=by
 unfold numText
 by_cases h:u=0
 ·subst h
  rw [if_pos rfl,Lib.decDigits,dif_pos (by decide)]
  rfl
 ·rw [if_neg h,if_neg (by decide),dec_str u (by omega)]
theorem fuint_fn (u:Nat) (hu64:u<18446744073709551616) (w:World) (htab:Tab w) :
  Calls Tryz.prog 155 #[.int .u64 (u:Nat),.int .i64 10] w fun e w'=>e=.returned (.string ⟨(numText 10 u false).toArray⟩)∧Below w.heap.size w w':=by
 have HF:=hid (fuintI_fn u hu64 w htab)
 rw [dec_num] at HF
 clear htab
 go_enter Tryz.func155,Tryz.ntmps155
 go_wp2_with (go_at_call 181;refine HF.out.mono ?_;rintro e w' ⟨rfl,hb⟩;have HB:=hid hb;clear hb)
 go_ret
 exact ⟨rfl,HB.out⟩
theorem fint_fn (n:Int) (h0:-9223372036854775808≤n) (h1:n≤9223372036854775807) (w:World) (htab:Tab w) :
  Calls Tryz.prog 156 #[.int .i64 n,.int .i64 10] w fun e w'=>e=.returned (.string ⟨(numText 10 n.natAbs (decide (n<0))).toArray⟩)∧Below w.heap.size w w':=by
 refine (Tryz.strconv_FormatInt_10 n h0 h1 w htab).mono ?_
 rintro e w' ⟨rfl,k,os,rfl⟩
 rw [itoa_num]
 exact ⟨rfl,below_grow w k os⟩
end Go.Proofs.YtihdndaibmgoiaaGreatDoor.Pz
namespace Go.Proofs.YtihdndaibmgoiaaGreatDoor.Pz
open Go.RowKit
set_option maxRecDepth 100000 in
set_option maxHeartbeats 2000000 in
theorem ordered2_fn {w:World} {g0 n c:Nat} {l:Str} (high:Bool) (hn:n=l.length) (hg0:g0<w.heap.size) (hv:∀ i (h:i<l.length),w.cell? ⟨g0,i,none⟩=some (.int .u8 (l[i].toNat:Nat))) (hl:l.length≤1000000) :
    Calls Tryz.prog 151 #[.slice (some ⟨g0,0,none⟩) n c,.bool high] w fun e w'=>∃ v',e=.returned v'∧RowY w.heap.size w' v' (ordE high l)∧Below w.heap.size w w':=by
  have HV:=hid hv
  have HN:=hid hn
  rw [← hn] at hl
  clear hv hn
  go_enter Tryz.func151,Tryz.ntmps151
  go_wp2_with (at_make;refine mk_zero _ rfl _ _ rfl n _ _ rfl rfl rfl rfl (by omega) ?_;intro w2 hr2 hb2;have HR2:=hid hr2;have HB2:=hid hb2;clear hr2 hb2)
  go_loopg [13] n (fun k iv wr=>∃ (i:Nat) (o:Str),iv=.int .i64 (i:Nat)∧i≤n∧RowY w.heap.size wr (.slice (some ⟨w.heap.size,0,none⟩) n n) o∧o.length=n∧(∀ j (hj:j<l.length),j<i→o[ordP high n j]? = some l[j])∧Below w.heap.size w wr∧k=n-i)
  case atStart=>exact ⟨0,_,rfl,Nat.zero_le _,HR2.out,by simp,fun j _ h=>absurd h (by omega),HB2.out,rfl⟩
  case round=>
    obtain ⟨i,o,rfl,hin,hr,hol,hoc,hbl,rfl⟩:=hrel
    have HR:=hid hr
    have HOC:=hid hoc
    have HBL:=hid hbl
    clear hr hoc hbl
    rcases Nat.lt_or_ge i n with hlt | hge
    · have hltI:(i:Int)<(n:Int):=by omega
      have hil:i<l.length:=by rw [← HN.out];exact hlt
      have hcell:=HV.out i hil
      have hc0:wr.cell? ⟨g0,i,none⟩=some (.int .u8 (l[i].toNat:Nat)):=by rw [HBL.out.cell (p:=⟨g0,i,none⟩) hg0];exact hcell
      obtain ⟨x,hx⟩:∃ x,x=l[i]:=⟨_,rfl⟩
      rw [← hx] at hc0
      have HX:=hid hx
      have hnext:∀ q,q=ordP high n i→∀ j (hj:j<l.length),j<i+1→(o.set q x)[ordP high n j]? = some l[j]:=by
        intro q hq j hj hji
        by_cases he:j=i
        · subst he
          rw [← hq,List.getElem?_set_self (by rw [hol,hq];unfold ordP;split<;>omega),HX.out]
        · have hne : q ≠ ordP high n j := by
            rw [hq]
            unfold ordP
            split<;>omega
          rw [List.getElem?_set_ne hne]
          exact HOC.out j hj (by omega)
      have HNX:=hid hnext
      clear hnext hcell hx
      cases high with
      | true=>
        have fr:=HR.out.free (n-1-i)
        have hcc:∃ u,wr.cell? ⟨w.heap.size,n-1-i,none⟩=some (.int .u8 u):=⟨_,HR.out.cellI (i:=n-1-i) (by omega)⟩
        obtain ⟨oq,hcc⟩:=hcc
        obtain ⟨q,hq⟩:∃ q,n-1-i=q:=⟨_,rfl⟩
        rw [hq] at fr hcc
        have hqI:(n:Int)-1-(i:Int)=(q:Int):=by omega
        have hqn:(q:Int)<(n:Int):=by omega
        have HQ:=hid hq
        clear hq
        go_wp2
        go_roundg (n-(i+1))
        case measure=>omega
        case rel=>exact ⟨i+1,o.set q x,by go_num,by omega,HR.out.set q x,by rw [List.length_set];exact hol,HNX.out q (by have:=HQ.out;unfold ordP;rw [if_pos rfl];omega),HBL.out.setCell (Nat.le_refl _) _,rfl⟩
      | false=>
        have fr:=HR.out.free i
        have hcc:∃ u,wr.cell? ⟨w.heap.size,i,none⟩=some (.int .u8 u):=⟨_,HR.out.cellI (i:=i) (by omega)⟩
        obtain ⟨oq,hcc⟩:=hcc
        go_wp2
        go_roundg (n-(i+1))
        case measure=>omega
        case rel=>exact ⟨i+1,o.set i x,by go_num,by omega,HR.out.set i x,by rw [List.length_set];exact hol,HNX.out i rfl,HBL.out.setCell (Nat.le_refl _) _,rfl⟩
    · obtain rfl:i=n:=by omega
      have HE:=hid (ord_end (high:=high) (l:=l) (o:=o) (by rw [hol,HN.out]) (fun j hj=>by have:=HOC.out j hj (by rw [HN.out];exact hj);rw [HN.out] at this;exact this))
      go_wp2
      go_ret
      exact ⟨_,rfl,by rw [← HE.out];exact HR.out,HBL.out⟩
theorem ofLE_lt:∀ (l:Str),ofLE l<256 ^ l.length
 | []=>by simp [ofLE]
 | c::t=>by
  have:=ofLE_lt t
  have hc:=c.toNat_lt
  rw [ofLE,List.length_cons,Nat.pow_succ]
  omega
theorem sgn1 (V:Nat) (h:V<256 ^ 1):wrap64 (IntKind.u64.wrap ((V:Int)*72057594037927936)) / 72057594037927936=signedE 1 V:=by
 have h2:V<256:=h
 rw [IntKind.wrap_u64]
 unfold wrap64
 show _=if 128≤V then (V:Int)-((256:Nat):Int) else (V:Int)
 split<;>omega
theorem sgn2 (V:Nat) (h:V<256 ^ 2):wrap64 (IntKind.u64.wrap ((V:Int)*281474976710656)) / 281474976710656=signedE 2 V:=by
 have h2:V<65536:=h
 rw [IntKind.wrap_u64]
 unfold wrap64
 show _=if 32768≤V then (V:Int)-((65536:Nat):Int) else (V:Int)
 split<;>omega
theorem sgn4 (V:Nat) (h:V<256 ^ 4):wrap64 (IntKind.u64.wrap ((V:Int)*4294967296)) / 4294967296=signedE 4 V:=by
 have h2:V<4294967296:=h
 rw [IntKind.wrap_u64]
 unfold wrap64
 show _=if 2147483648≤V then (V:Int)-((4294967296:Nat):Int) else (V:Int)
 split<;>omega
theorem sgn8 (V:Nat) (h:V<256 ^ 8):wrap64 (V:Int)=signedE 8 V:=by
 have h2:V<18446744073709551616:=h
 unfold wrap64
 show _=if 9223372036854775808≤V then (V:Int)-((18446744073709551616:Nat):Int) else (V:Int)
 split<;>omega
theorem signedE_range (m V:Nat) (hm:m=1∨m=2∨m=4∨m=8) (h:V<256 ^ m):-9223372036854775808≤signedE m V∧signedE m V≤9223372036854775807:=by
 rcases hm with rfl | rfl | rfl | rfl
 ·have h2:V<256:=h
  show _≤(if 128≤V then (V:Int)-((256:Nat):Int) else (V:Int))∧(if 128≤V then (V:Int)-((256:Nat):Int) else (V:Int))≤_
  split<;>omega
 ·have h2:V<65536:=h
  show _≤(if 32768≤V then (V:Int)-((65536:Nat):Int) else (V:Int))∧(if 32768≤V then (V:Int)-((65536:Nat):Int) else (V:Int))≤_
  split<;>omega
 ·have h2:V<4294967296:=h
  show _≤(if 2147483648≤V then (V:Int)-((4294967296:Nat):Int) else (V:Int))∧(if 2147483648≤V then (V:Int)-((4294967296:Nat):Int) else (V:Int))≤_
  split<;>omega
 ·have h2:V<18446744073709551616:=h
  show _≤(if 9223372036854775808≤V then (V:Int)-((18446744073709551616:Nat):Int) else (V:Int))∧(if 9223372036854775808≤V then (V:Int)-((18446744073709551616:Nat):Int) else (V:Int))≤_
  split<;>omega
set_option maxRecDepth 100000 in
set_option maxHeartbeats 4000000 in
theorem number_fn (c:UInt8) (p:Bool) (n:Int) (s:Str) (hs:s.length=1∨s.length=2∨s.length=4∨s.length=8) (w:World) (htab:Tab w) :
  Calls Tryz.prog 127 #[.agg #[.int .u8 (c.toNat:Nat),.bool p,.int .i64 n],.string ⟨s.toArray⟩] w fun e w'=>e=.returned (.string ⟨(numberE c p s).toArray⟩)∧Below w.heap.size w w':=by
 have hsz:(⟨s.toArray⟩:ByteArray).size=s.length:=Lib.size_mk _
 obtain ⟨w0,hw0⟩:∃ w0,w0=w.alloc (.cells #[.int .u8 (c.toNat:Nat),.bool p,.int .i64 n] 79):=⟨_,rfl⟩
 have hF0:FBlk w.heap.size w0 ⟨c,p,n⟩:=⟨by rw [hw0];exact heap_alloc_new _ _⟩
 have hb0:Below w.heap.size w w0:=by rw [hw0];exact (Below.refl _ _).alloc (Nat.le_refl _) _
 obtain ⟨w1,hw1⟩:∃ w1,w1=Lib.bytesWorld w0 5 ⟨s.toArray⟩:=⟨_,rfl⟩
 have hb1:Below w0.heap.size w0 w1:=by rw [hw1];exact Lib.bytesWorld_below _ _ _
 have hF1:=hF0.on hb1
 have hcell:∀ i (h:i<s.length),w1.cell? ⟨w0.heap.size,i,none⟩=some (.int .u8 (s[i].toNat:Nat)):=fun i h=>by
  rw [hw1,Lib.bytesWorld_cell _ _ _ _ (by rw [hsz];exact h)]
  show some (Value.int .u8 ((s.getD i 0).toNat:Nat))=_
  rw [List.getD_eq_getElem?_getD,List.getElem?_eq_getElem h]
  rfl
 have hz1:w1.heap.size=w0.heap.size+1:=by rw [hw1];exact Lib.bytesWorld_size _ _ _
 have hcv:=Lib.run_convert_string_bytes (P:=Tryz.prog) w0 9 46 5 ⟨s.toArray⟩ Tryz.underlying9 Tryz.underlying46 Tryz.underlying5
 rw [← hw1,hsz,hw0] at hcv
 have c0:=hF1.c0
 have c1:=hF1.c1
 have c2:=hF1.c2
 have HHI:=hid (high_fn c p n w1)
 have HW0:=hid hw0
 have HW1:=hid hw1
 have HF1:=hid hF1
 have HBB:=hid (hb0.trans (hb1.mono hb0.size))
 have HZ1:=hid hz1
 have HCELL:=hid hcell
 have HT:=hid htab
 have hz0:w0.heap.size=w.heap.size+1:=by rw [hw0];simp
 have HZ0:=hid hz0
 obtain ⟨R,hR⟩:∃ R,R=numberE c p s:=⟨_,rfl⟩
 rw [← hR]
 have HR:=hid hR
 obtain ⟨m,hm⟩:∃ m,m=s.length:=⟨_,rfl⟩
 rw [← hm] at hcv hs hsz
 have HM:=hid hm
 have hm8:m≤8:=by omega
 have HS:=hid hs
 clear hw0 hF0 hb0 hw1 hb1 hF1 hcell hz1 htab hz0 hR hm hs
 go_enter Tryz.func127,Tryz.ntmps127
 go_wp2_with (first|(go_at_call 152;refine HHI.out.mono ?_;rintro e w2 ⟨rfl,hb2⟩;have HB2:=hid hb2;clear hb2) | fail)
 rw [← show w0.heap.size=w.heap.size+1 from HZ0.out]
 have hs2:=HB2.out.size
 obtain ⟨l,hl⟩:∃ l,l=ordE (highL c) s:=⟨_,rfl⟩
 have hll:l.length=m:=by
  rw [hl,HM.out]
  unfold ordE
  split
  ·exact List.length_reverse
  ·rfl
 (with_reducible refine (ordered2_fn (decide (c.toNat<97)) HM.out (by have:=HZ1.out;omega) (fun i h=>(HB2.out.cell (p:=⟨w0.heap.size,i,none⟩) (by have:=HZ1.out;show w0.heap.size<_;omega)).trans (HCELL.out i h)) (by have:=HM.out;omega)).mono ?_)
 rintro e w3 ⟨v3,rfl,hr3,hb3⟩
 have hl':ordE (decide (c.toNat<97)) s=l:=hl.symm
 rw [hl'] at hr3
 obtain ⟨a3,k3,rfl⟩:=hr3.shape
 rw [hll] at hr3 ⊢
 have HL:=hid hl
 have HLL:=hid hll
 have hF3:=(HF1.out.on HB2.out).on hb3
 have HF3:=hid hF3
 have HB3:=hid (show Below w.heap.size w w3 from HBB.out.trans ((HB2.out.mono HBB.out.size).trans (hb3.mono (Nat.le_trans HBB.out.size hs2))))
 have HR3:=hid hr3
 have d1:=hF3.c1
 clear hl hll hl' hF3 hr3 hb3 c0 c1 c2 hcv
 go_wp2_with fail
 go_loopg [5,7] m (fun k vv iv wr=>∃ (j:Nat) (z:Int),j≤m∧vv=.int .u64 (ofLE (l.drop j):Nat)∧iv=.int .i64 z∧z=(j:Int)-1∧wr=w3∧k=j)
 case atStart=>
  refine ⟨m,_,Nat.le_refl _,?_,rfl,rfl,rfl,rfl⟩
  rw [List.drop_eq_nil_of_le (by have:=HLL.out;omega)]
  rfl
 case round=>
  obtain ⟨j,z,hjm,rfl,rfl,hiv,hw,hk⟩:=hrel
  replace hk:=hk.symm
  subst hk
  replace hw:=hw.symm
  subst hw
  cases j with
  | succ k=>
   obtain rfl:z=(k:Int):=by omega
   have hkl:k<l.length:=by have:=HLL.out;omega
   obtain ⟨g,rfl,-,hcc⟩:=HR3.out.at hkl
   obtain ⟨x,hx⟩:∃ x,x=l[k]:=⟨_,rfl⟩
   rw [← hx] at hcc
   have hxl:=x.toNat_lt
   have hnx:ofLE (l.drop k)=ofLE (l.drop (k+1))*256+x.toNat:=by
    rw [List.drop_eq_getElem_cons hkl,ofLE,← hx]
    omega
   have hlt:ofLE (l.drop (k+1))<72057594037927936:=by
    have h1:=ofLE_lt (l.drop (k+1))
    have h2:(l.drop (k+1)).length≤7:=by rw [List.length_drop];have:=HLL.out;omega
    have h3:256 ^ (l.drop (k+1)).length≤256 ^ 7:=Nat.pow_le_pow_right (by decide) h2
    have h4:(256:Nat) ^ 7=72057594037927936:=by decide
    omega
   obtain ⟨V,hV⟩:∃ V,V=ofLE (l.drop (k+1)):=⟨_,rfl⟩
   rw [← hV] at hnx hlt ⊢
   have hor:=u64_or8 V x.toNat hlt hxl
   have hVI:(0:Int)≤(V:Int)∧(V:Int)<72057594037927936:=by omega
   have HNX:=hid hnx
   clear hnx hV hx hiv
   go_wp2
   go_roundg k
   case measure=>omega
   case rel=>exact ⟨k,_,by omega,by rw [HNX.out];go_num,rfl,rfl,rfl,rfl⟩
  | zero=>
   obtain rfl:z = -1:=by omega
   clear hiv hjm
   obtain ⟨V,hV⟩:∃ V,V=ofLE (l.drop 0):=⟨_,rfl⟩
   rw [← hV]
   rw [List.drop_zero] at hV
   have hVl:V<256 ^ m:=by rw [hV,← HLL.out];exact ofLE_lt l
   have hRV:R=numText 10 (if p then (V:Int) else signedE m V).natAbs (decide ((if p then (V:Int) else signedE m V)<0)):=by
    rw [HR.out]
    unfold numberE
    rw [← HL.out,← hV,← HM.out]
   have HRV:=hid hRV
   have HVL:=hid hVl
   clear hRV hVl hV HR
   have hT3:=hid (HT.out.below HB3.out)
   have hV64:V<18446744073709551616:=by
    have h1:=HVL.out
    have h3:256 ^ m≤256 ^ 8:=Nat.pow_le_pow_right (by decide) hm8
    have h4:(256:Nat) ^ 8=18446744073709551616:=by decide
    omega
   cases p with
   | true=>
    replace HRV:=hid (show R=numText 10 V false by
     have h9:=HRV.out
     rw [if_pos rfl,decide_eq_false (show ¬ (V:Int)<0 by omega)] at h9
     exact h9)
    go_wp2_with (go_at_call 155;refine (fuint_fn V hV64 _ hT3.out).mono ?_;rintro e w5 ⟨rfl,hb5⟩;have HB5:=hid hb5;clear hb5)
    go_ret
    refine ⟨?_,HB3.out.trans (HB5.out.mono HB3.out.size)⟩
    rw [HRV.out]
    rfl
   | false=>
    replace HRV:=hid (show R=numText 10 (signedE m V).natAbs (decide (signedE m V<0)) from HRV.out)
    have HFI:=hid (fint_fn (signedE m V) (signedE_range m V HS.out HVL.out).1 (signedE_range m V HS.out HVL.out).2 w3 hT3.out)
    have fin:∀ (e:Ending) (w5:World),e=.returned (.string ⟨(numText 10 (signedE m V).natAbs (decide (signedE m V<0))).toArray⟩)→Below w3.heap.size w3 w5→e=.returned (.string ⟨R.toArray⟩)∧Below w.heap.size w w5:=fun e w5 he hb=>⟨by rw [HRV.out];exact he,HB3.out.trans (hb.mono HB3.out.size)⟩
    have FIN:=hid fin
    clear fin
    rcases HS.out with rfl | rfl | rfl | rfl
    ·have HSG:=hid (sgn1 V HVL.out)
     go_wp2_with (go_at_call 156;rw [HSG.out];refine HFI.out.mono ?_;rintro e w5 ⟨rfl,hb5⟩;have HB5:=hid hb5;clear hb5)
     go_ret
     exact FIN.out _ _ rfl HB5.out
    ·have HSG:=hid (sgn2 V HVL.out)
     go_wp2_with (go_at_call 156;rw [HSG.out];refine HFI.out.mono ?_;rintro e w5 ⟨rfl,hb5⟩;have HB5:=hid hb5;clear hb5)
     go_ret
     exact FIN.out _ _ rfl HB5.out
    ·have HSG:=hid (sgn4 V HVL.out)
     go_wp2_with (go_at_call 156;rw [HSG.out];refine HFI.out.mono ?_;rintro e w5 ⟨rfl,hb5⟩;have HB5:=hid hb5;clear hb5)
     go_ret
     exact FIN.out _ _ rfl HB5.out
    ·have HSG:=hid (sgn8 V HVL.out)
     go_wp2_with (go_at_call 156;rw [HSG.out];refine HFI.out.mono ?_;rintro e w5 ⟨rfl,hb5⟩;have HB5:=hid hb5;clear hb5)
     go_ret
     exact FIN.out _ _ rfl HB5.out
end Go.Proofs.YtihdndaibmgoiaaGreatDoor.Pz
namespace Go.Proofs.YtihdndaibmgoiaaGreatDoor.Pz
open Go.RowKit
theorem strsAt_off {w:World} {v:Value} {l:List Str} (h:StrsAt w v l):∃ a c,v=.slice a l.length c∧∀ i (hi:i<l.length),∃ b o,a=some ⟨b,o,none⟩∧w.cell? ⟨b,o+i,none⟩=some (.string ⟨l[i].toArray⟩):=by
 obtain ⟨a,c,rfl,_,hcell⟩:=h
 refine ⟨a,c,rfl,fun i hi=>?_⟩
 obtain ⟨p,rfl,_,hc⟩:=hcell i hi
 obtain ⟨p0,e0,_,hc0⟩:=hcell 0 (by omega)
 simp only [Option.some.injEq] at e0
 subst e0
 obtain ⟨b,o,spot⟩:=p
 have hspot:spot=none:=by simpa [Addr.add] using World.cell?_spot hc0
 subst hspot
 rw [add_none] at hc
 exact ⟨b,o,rfl,hc⟩
theorem take_succ_eq {l m:List Str} {i:Nat} (h:l.take i=m.take i) (h1:i<l.length) (h2:i<m.length) (h3:l[i]=m[i]):l.take (i+1)=m.take (i+1):=by
 rw [List.take_add_one,List.take_add_one,h,List.getElem?_eq_getElem h1,List.getElem?_eq_getElem h2,h3]
set_option maxRecDepth 100000 in
theorem sameG_fn {w:World} {u v:Value} {l m:List Str} (hu:StrsAt w u l) (hv:StrsAt w v m) (_hl:l.length≤10000000) (hm:m.length≤10000000) :
    Calls Tryz.prog 23 #[u,v] w fun e w'=>e=.returned (.bool (decide (l=m)))∧Below w.heap.size w w':=by
  have HU:=hid hu
  have HV:=hid hv
  obtain ⟨a1,c1,rfl,_⟩:=strsAt_off hu
  obtain ⟨a2,c2,rfl,_⟩:=strsAt_off hv
  obtain ⟨R,hR⟩:∃ R,R=decide (l=m):=⟨_,rfl⟩
  rw [← hR]
  have HR:=hid hR
  clear hu hv hR
  by_cases hlm:l.length=m.length
  · obtain ⟨n,hn⟩:∃ n,n=m.length:=⟨_,rfl⟩
    have HN:=hid hn
    have HLN:=hid (hlm.trans hn.symm)
    rw [hlm,← hn]
    clear hn hlm _hl
    have hm:n≤10000000:=by rw [HN.out];exact hm
    go_enter Tryz.func23,Tryz.ntmps23
    go_wp2
    go_loopg [13] n (fun k iv wr=>∃ i:Nat,iv=.int .i64 (i:Nat)∧Below w.heap.size w wr∧i+k=n∧l.take i=m.take i)
    case atStart=>exact ⟨0,rfl,Below.refl _ _,by simp,by simp⟩
    case round=>
      obtain ⟨i,rfl,hbl,hk,ht⟩:=hrel
      have HT:=hid ht
      clear ht
      by_cases hi:i<n
      · have hil:i<l.length:=by rw [HLN.out];exact hi
        have him:i<m.length:=by rw [← HN.out];exact hi
        obtain ⟨_,_,e1,x1⟩:=strsAt_off (HU.out.below hbl)
        obtain ⟨_,_,e2,x2⟩:=strsAt_off (HV.out.below hbl)
        obtain ⟨b1,o1,f1,y1⟩:=x1 i hil
        obtain ⟨b2,o2,f2,y2⟩:=x2 i him
        simp only [Value.slice.injEq] at e1 e2
        rw [← e1.1] at f1
        rw [← e2.1] at f2
        subst f1
        subst f2
        obtain ⟨s,hs⟩:∃ s,s=l[i]:=⟨_,rfl⟩
        obtain ⟨t,ht⟩:∃ t,t=m[i]:=⟨_,rfl⟩
        rw [← hs] at y1
        rw [← ht] at y2
        have HS:=hid hs
        have HTT:=hid ht
        have hi1:(0:Int)≤(i:Int)∧(i:Int)<(n:Int):=by omega
        have hi2:(i:Int)<(n:Int):=by omega
        clear hs ht x1 x2 e1 e2
        by_cases hst:s=t
        · subst hst
          go_wp2
          go_quiet (fail)
          have hbl0:=hid (show Below w.heap.size w (wr.drewN nq) from hbl.trans ⟨rfl,rfl,rfl,Nat.le_refl _,fun _ _=>rfl⟩)
          clear hbl y1 y2
          go_wp2
          go_roundg (n-(i+1))
          case measure=>omega
          case rel=>exact ⟨i+1,by go_num,hbl0.out,by omega,take_succ_eq HT.out (by rw [HLN.out];exact hi) (by rw [← HN.out];exact hi) (HS.out.symm.trans HTT.out)⟩
        · have hst2:(s == t)=false:=by rw [beq_eq_false_iff_ne];exact hst
          have hRf:R=false:=by
            rw [HR.out,decide_eq_false_iff_not]
            intro h
            apply hst
            rw [HS.out,HTT.out]
            subst h
            rfl
          subst hRf
          go_wp2
          go_quiet (fail)
          have hbl0:=hid (show Below w.heap.size w (wr.drewN nq) from hbl.trans ⟨rfl,rfl,rfl,Nat.le_refl _,fun _ _=>rfl⟩)
          clear hbl y1 y2
          go_wp2
          go_ret
          exact ⟨rfl,hbl0.out⟩
      · have hie:i=n:=by omega
        have hRt:R=true:=by
          have h:=HT.out
          rw [HR.out,decide_eq_true_iff]
          rwa [List.take_of_length_le (by rw [HLN.out];omega),List.take_of_length_le (by rw [← HN.out];omega)] at h
        subst hRt
        have hi2:¬ (i:Int)<(n:Int):=by omega
        go_wp2
        go_ret
        exact ⟨rfl,hbl⟩
  · have hR2 : R = false := by
      rw [HR.out,decide_eq_false_iff_not]
      exact fun h=>hlm (by rw [h])
    subst hR2
    have hne:¬ ((l.length:Int)=(m.length:Int)):=by omega
    go_enter Tryz.func23,Tryz.ntmps23
    go_wp2
    go_ret
    exact ⟨rfl,Below.refl _ _⟩
end Go.Proofs.YtihdndaibmgoiaaGreatDoor.Pz
namespace Go.Proofs.YtihdndaibmgoiaaGreatDoor.Pz
open Go.RowKit
def sumT:List Str→Nat
 | []=>0
 | a::l=>a.length+sumT l
theorem sumT_drop (l:List Str) (i:Nat) (h:i<l.length):sumT (l.drop i)=l[i].length+sumT (l.drop (i+1)):=by
 rw [List.drop_eq_getElem_cons h,sumT]
theorem sumT_mem:∀ (l:List Str) (s:Str),s∈l→s.length≤sumT l
 | x::l,s,h=>by
  rw [sumT]
  rcases List.mem_cons.1 h with rfl | h
  ·omega
  ·have:=sumT_mem l s h
   omega
def lightB (z:Int) (l:List Str):Bool:=decide ((sumT l:Int)≤z) && decide (l.length≤60)
set_option maxRecDepth 100000 in
set_option maxHeartbeats 1000000 in
theorem light_fn (z:Int) {w:World} {v:Value} {l:List Str} (hv:StrsAt w v l) (hb:sumT l≤10000000) (hnb0:l.length≤10000000):Calls Tryz.prog 10 #[.int .i64 z,v] w fun e w'=>e=.returned (.bool (lightB z l))∧w'=w:=by
 obtain ⟨a,cap,rfl,hcap,hcell⟩:=hv
 obtain ⟨n,hn⟩:∃ n,n=l.length:=⟨_,rfl⟩
 have hnb:n≤10000000:=by rw [hn];exact hnb0
 have HN:=hid hn
 have HV:=hid hcell
 have HD:=hid (sumT_drop l)
 have HS:=hid hb
 obtain ⟨ans,hans⟩:∃ x,x=lightB z l:=⟨_,rfl⟩
 have HA:=hid hans
 rw [← hans,← hn]
 clear hcell hn hb hans hcap hnb0
 go_enter Tryz.func10,Tryz.ntmps10
 go_wp2
 go_loopg [5,10] n (fun k mv iv wr=>∃ (m i:Nat),mv=.int .i64 (m:Nat)∧iv=.int .i64 (i:Nat)∧i≤n∧m+sumT (l.drop i)=sumT l∧wr=w∧k=n-i)
 case atStart=>exact ⟨0,0,rfl,rfl,Nat.zero_le _,by simp,rfl,by simp⟩
 case round=>
  obtain ⟨m,i,rfl,rfl,hi,hms,hw,rfl⟩:=hrel
  replace hw:=hw.symm
  subst hw
  rcases Nat.lt_or_ge i n with hlt | hge
  ·have hlt':i<l.length:=by rw [← HN.out];exact hlt
   obtain ⟨p,rfl,hbb,hcw⟩:=HV.out i hlt'
   have hd:=HD.out i hlt'
   have hbm:=HS.out
   generalize l[i]=x at hcw hd
   have hsz:(⟨x.toArray⟩:ByteArray).size=x.length:=Lib.size_mk _
   have hms2:m+x.length+sumT (l.drop (i+1))=sumT l:=by omega
   have hbnd:m+x.length≤10000000:=by omega
   have HMS:=hid hms2
   clear hd hms hms2 hbm
   by_cases h0:i=0
   ·subst h0
    replace hcw:w.cell? p=some (.string ⟨x.toArray⟩):=hcw
    go_wp2
    go_roundg (n-(0+1))
    case measure=>omega
    case rel=>exact ⟨m+x.length,0+1,by go_num,by go_num,by omega,HMS.out,rfl,rfl⟩
   ·go_wp2
    go_roundg (n-(i+1))
    case measure=>omega
    case rel=>exact ⟨m+x.length,i+1,by go_num,by go_num,by omega,HMS.out,rfl,rfl⟩
  ·obtain rfl:i=n:=by omega
   have hm:m=sumT l:=by
    rw [List.drop_eq_nil_of_le (by rw [← HN.out];exact Nat.le_refl _),sumT] at hms
    omega
   have ha:ans=(decide ((m:Int)≤z) && decide (i≤60)):=by rw [hm,HA.out];unfold lightB;rw [HN.out]
   have HA2:=hid ha
   clear hm hms ha HA
   by_cases h1:(m:Int)≤z
   ·by_cases h2:i≤60
    ·have h3:(i:Int)≤60:=by omega
     go_wp2
     go_ret
     refine ⟨?_,rfl⟩
     rw [HA2.out]
     simp [h1,h2]
    ·have h3:¬ (i:Int)≤60:=by omega
     go_wp2
     go_ret
     refine ⟨?_,rfl⟩
     rw [HA2.out]
     simp [h1,h2]
   ·go_wp2
    go_ret
    refine ⟨?_,rfl⟩
    rw [HA2.out]
    have h1n:¬ (m:Int)≤z:=by omega
    simp [h1n]
end Go.Proofs.YtihdndaibmgoiaaGreatDoor.Pz
