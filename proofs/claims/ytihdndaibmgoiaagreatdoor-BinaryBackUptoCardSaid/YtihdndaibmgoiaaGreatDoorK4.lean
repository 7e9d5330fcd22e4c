/-
  Part K4 of the proofs of this seat, merged by a program out of 4 texts; remarks are struck.
-/
import Derived.WalkLawsBesides
import Derived.Deep.CutRange
import Derived.Deep.CutBlock
import Derived.Outline
import Derived.Lib.BufferWrite
import Derived.Laws.BitsAllLaws
import Derived.Maps.OwnOps
import Derived.Maps.Views
import Derived.Carry
import Derived.Lib.SlBytesConst
import Derived.Test.YtihdndaibmgoiaaGreatDoorK3
namespace Go.Proofs.YtihdndaibmgoiaaGreatDoor.Pz
open Go.RowKit
def fldV (f:Fld):Value:=.agg #[.int .u8 (f.letter.toNat:Nat),.bool f.plain,.int .i64 f.count]
theorem width_fn (c:UInt8) (p:Bool) (n:Int) (w:World):Calls Tryz.prog 121 #[.agg #[.int .u8 (c.toNat:Nat),.bool p,.int .i64 n]] w fun e w'=>e=.returned (.int .i64 (widthL c:Nat))∧Below w.heap.size w w':=by
 by_cases h99:c=99
 ·subst h99
  go_enter Tryz.func121,Tryz.ntmps121
  go_wp2
  go_ret
  exact ⟨rfl,(Below.refl _ _).alloc (Nat.le_refl _) _⟩
 have n99:=byte_ne 99 h99 rfl
 by_cases h115:c=115
 ·subst h115
  go_enter Tryz.func121,Tryz.ntmps121
  go_wp2
  go_ret
  exact ⟨rfl,(Below.refl _ _).alloc (Nat.le_refl _) _⟩
 have n115:=byte_ne 115 h115 rfl
 by_cases h83:c=83
 ·subst h83
  go_enter Tryz.func121,Tryz.ntmps121
  go_wp2
  go_ret
  exact ⟨rfl,(Below.refl _ _).alloc (Nat.le_refl _) _⟩
 have n83:=byte_ne 83 h83 rfl
 by_cases h105:c=105
 ·subst h105
  go_enter Tryz.func121,Tryz.ntmps121
  go_wp2
  go_ret
  exact ⟨rfl,(Below.refl _ _).alloc (Nat.le_refl _) _⟩
 have n105:=byte_ne 105 h105 rfl
 by_cases h73:c=73
 ·subst h73
  go_enter Tryz.func121,Tryz.ntmps121
  go_wp2
  go_ret
  exact ⟨rfl,(Below.refl _ _).alloc (Nat.le_refl _) _⟩
 have n73:=byte_ne 73 h73 rfl
 by_cases h119:c=119
 ·subst h119
  go_enter Tryz.func121,Tryz.ntmps121
  go_wp2
  go_ret
  exact ⟨rfl,(Below.refl _ _).alloc (Nat.le_refl _) _⟩
 have n119:=byte_ne 119 h119 rfl
 by_cases h87:c=87
 ·subst h87
  go_enter Tryz.func121,Tryz.ntmps121
  go_wp2
  go_ret
  exact ⟨rfl,(Below.refl _ _).alloc (Nat.le_refl _) _⟩
 have n87:=byte_ne 87 h87 rfl
 have hk:widthL c=0:=by
  unfold widthL
  simp [h99,h115,h83,h105,h73,h119,h87]
 rw [hk]
 clear hk h99 h115 h83 h105 h73 h119 h87
 go_enter Tryz.func121,Tryz.ntmps121
 go_wp2
 go_ret
 exact ⟨rfl,(Below.refl _ _).alloc (Nat.le_refl _) _⟩
theorem text_fn (c:UInt8) (p:Bool) (n:Int) (w:World):Calls Tryz.prog 122 #[.agg #[.int .u8 (c.toNat:Nat),.bool p,.int .i64 n]] w fun e w'=>e=.returned (.bool (textL c))∧Below w.heap.size w w':=by
 have hf:∀ w,Calls Tryz.prog 97 #[.string ⟨#[97,65,104,72,98,66]⟩,.int .u8 (c.toNat:Nat)] w fun e w'=>e=.returned (.int .i64 (Lib.indexByte [97,65,104,72,98,66] c))∧w'=w:=fun w=>by
  have h:=Tryz.strings_IndexByte ⟨#[97,65,104,72,98,66]⟩ (c.toNat:Int) w
  rw [show (c.toNat:Int).toNat.toUInt8=c by simp] at h
  exact h
 have HB:=hid (show decide ((0:Int)≤Lib.indexByte [97,65,104,72,98,66] c)=textL c by
  have h:(List.range 256).all (fun n=>decide ((0:Int)≤Lib.indexByte [97,65,104,72,98,66] (UInt8.ofNat n)) == textL (UInt8.ofNat n))=true:=by kernel_rfl
  have h2:=List.all_eq_true.1 h c.toNat (List.mem_range.2 c.toNat_lt)
  simpa using h2)
 generalize Lib.indexByte [97,65,104,72,98,66] c=m at *
 have HF:=hid hf
 clear hf
 go_enter Tryz.func122,Tryz.ntmps122
 go_wp2_with fail
 (with_reducible refine (HF.out _).mono ?_);rintro e w1 ⟨rfl,rfl⟩
 go_wp2
 go_ret
 exact ⟨by rw [HB.out];rfl,(Below.refl _ _).alloc (Nat.le_refl _) _⟩
theorem one_fldC (c:UInt8) (p:Bool) (n:Int) (w:World):Calls Tryz.prog 74 #[.agg #[.int .u8 (c.toNat:Nat),.bool p,.int .i64 n]] w fun e w'=>e=.returned (.int .i64 (oneC ⟨c,p,n⟩:Nat))∧Below w.heap.size w w':=by
 by_cases h:n<0
 ·have HO:=hid (show ((oneC ⟨c,p,n⟩:Nat):Int)=1 by unfold oneC;rw [if_pos h];rfl)
  go_enter Tryz.func74,Tryz.ntmps74
  go_wp2
  go_ret
  exact ⟨by rw [HO.out];rfl,(Below.refl _ _).alloc (Nat.le_refl _) _⟩
 ·have HO:=hid (show ((oneC ⟨c,p,n⟩:Nat):Int)=n by unfold oneC;rw [if_neg h];show ((n.toNat:Nat):Int)=n;omega)
  go_enter Tryz.func74,Tryz.ntmps74
  go_wp2
  go_ret
  exact ⟨by rw [HO.out];rfl,(Below.refl _ _).alloc (Nat.le_refl _) _⟩
theorem taking_fn (c:UInt8) (p:Bool) (n:Int) (w:World):Calls Tryz.prog 81 #[.agg #[.int .u8 (c.toNat:Nat),.bool p,.int .i64 n]] w fun e w'=>e=.returned (.bool (takesL c))∧Below w.heap.size w w':=by
 by_cases h120:c=120
 ·subst h120
  have hx:takesL 120=false:=by decide
  rw [hx]
  go_enter Tryz.func81,Tryz.ntmps81
  go_wp2
  go_ret
  exact ⟨rfl,(Below.refl _ _).alloc (Nat.le_refl _) _⟩
 have n120:=byte_ne' 120 h120 rfl
 by_cases h64:c=64
 ·subst h64
  have hx:takesL 64=false:=by decide
  rw [hx]
  go_enter Tryz.func81,Tryz.ntmps81
  go_wp2
  go_ret
  exact ⟨rfl,(Below.refl _ _).alloc (Nat.le_refl _) _⟩
 have n64:=byte_ne' 64 h64 rfl
 have hk:takesL c=true:=by
  unfold takesL
  simp [h120,h64]
 rw [hk]
 clear hk h120 h64
 go_enter Tryz.func81,Tryz.ntmps81
 go_wp2
 go_ret
 exact ⟨rfl,(Below.refl _ _).alloc (Nat.le_refl _) _⟩
theorem high_fn (c:UInt8) (p:Bool) (n:Int) (w:World):Calls Tryz.prog 152 #[.agg #[.int .u8 (c.toNat:Nat),.bool p,.int .i64 n]] w fun e w'=>e=.returned (.bool (decide (c.toNat<97)))∧Below w.heap.size w w':=by
 by_cases h:c.toNat<97
 ·rw [decide_eq_true h]
  go_enter Tryz.func152,Tryz.ntmps152
  go_wp2
  go_ret
  exact ⟨by simp;omega,(Below.refl _ _).alloc (Nat.le_refl _) _⟩
 ·rw [decide_eq_false h]
  go_enter Tryz.func152,Tryz.ntmps152
  go_wp2
  go_ret
  exact ⟨by simp;omega,(Below.refl _ _).alloc (Nat.le_refl _) _⟩
theorem digitsOf_fn (c:UInt8) (w:World):Calls Tryz.prog 125 #[.int .u8 (c.toNat:Nat)] w fun e w'=>e=.returned (.int .i64 (bitsL c:Nat))∧w'=w:=by
 by_cases h98:c=98
 ·subst h98
  go_enter Tryz.func125,Tryz.ntmps125
  go_wp2
  go_ret
  exact ⟨rfl,rfl⟩
 have n98:=byte_ne 98 h98 rfl
 by_cases h66:c=66
 ·subst h66
  go_enter Tryz.func125,Tryz.ntmps125
  go_wp2
  go_ret
  exact ⟨rfl,rfl⟩
 have n66:=byte_ne 66 h66 rfl
 have hk:bitsL c=4:=by
  unfold bitsL
  simp [h98,h66]
 rw [hk]
 clear hk h98 h66
 go_enter Tryz.func125,Tryz.ntmps125
 go_wp2
 go_ret
 exact ⟨rfl,rfl⟩
theorem value_fn (c:UInt8) (w:World):Calls Tryz.prog 95 #[.int .u8 (c.toNat:Nat)] w fun e w'=>e=.returned (.int .i64 (valH c:Nat))∧w'=w:=by
 have hc:=c.toNat_lt
 obtain ⟨m,hm⟩:∃ m,m=valH c:=⟨_,rfl⟩
 rw [← hm]
 unfold valH at hm
 have HM:=hid hm
 clear hm
 generalize c.toNat=d at *
 by_cases h1:48≤d∧d≤57
 ·replace HM:=hid (show m=d-48 by have:=HM.out;rw [if_pos h1] at this;exact this)
  obtain ⟨h2,h3⟩:=h1
  obtain ⟨k,rfl⟩:∃ k,d=48+k:=⟨d-48,by omega⟩
  have HK:=hid (show ((m:Nat):Int)=(k:Int) by have:=HM.out;omega)
  clear HM
  go_enter Tryz.func95,Tryz.ntmps95
  go_wp2
  go_ret
  exact ⟨by rw [HK.out];exact congrArg (fun z=>Ending.returned (Value.int .i64 z)) (show (48+(k:Int)-48)=(k:Int) by omega),rfl⟩
 replace HM:=hid (show m=if 97≤d∧d≤102 then d-87 else if 65≤d∧d≤70 then d-55 else 16 by have:=HM.out;rw [if_neg h1] at this;exact this)
 by_cases h2:97≤d∧d≤102
 ·replace HM:=hid (show m=d-87 by have:=HM.out;rw [if_pos h2] at this;exact this)
  obtain ⟨h3,h4⟩:=h2
  obtain ⟨k,rfl⟩:∃ k,d=97+k:=⟨d-97,by omega⟩
  have HK:=hid (show ((m:Nat):Int)=(k:Int)+10 by have:=HM.out;omega)
  clear HM h1
  go_enter Tryz.func95,Tryz.ntmps95
  go_wp2
  go_ret
  exact ⟨by rw [HK.out];exact congrArg (fun z=>Ending.returned (Value.int .i64 z)) (show (97+(k:Int)-97+10)=(k:Int)+10 by omega),rfl⟩
 replace HM:=hid (show m=if 65≤d∧d≤70 then d-55 else 16 by have:=HM.out;rw [if_neg h2] at this;exact this)
 by_cases h3:65≤d∧d≤70
 ·replace HM:=hid (show m=d-55 by have:=HM.out;rw [if_pos h3] at this;exact this)
  obtain ⟨h4,h5⟩:=h3
  obtain ⟨k,rfl⟩:∃ k,d=65+k:=⟨d-65,by omega⟩
  have HK:=hid (show ((m:Nat):Int)=(k:Int)+10 by have:=HM.out;omega)
  clear HM h1 h2
  go_enter Tryz.func95,Tryz.ntmps95
  go_wp2
  go_ret
  exact ⟨by rw [HK.out];exact congrArg (fun z=>Ending.returned (Value.int .i64 z)) (show (65+(k:Int)-65+10)=(k:Int)+10 by omega),rfl⟩
 replace HM:=hid (show m=16 by have:=HM.out;rw [if_neg h3] at this;exact this)
 have g1:(decide ((48:Int)≤(d:Int)) && decide ((d:Int)≤57))=false:=by simp only [Bool.and_eq_false_iff,decide_eq_false_iff_not];omega
 have g2:(decide ((97:Int)≤(d:Int)) && decide ((d:Int)≤102))=false:=by simp only [Bool.and_eq_false_iff,decide_eq_false_iff_not];omega
 have g3:(decide ((65:Int)≤(d:Int)) && decide ((d:Int)≤70))=false:=by simp only [Bool.and_eq_false_iff,decide_eq_false_iff_not];omega
 have HG:=hid (And.intro h1 (And.intro h2 h3))
 clear h1 h2 h3
 go_enter Tryz.func95,Tryz.ntmps95
 go_wp2
 all_goals first
  | (exfalso;obtain ⟨a1,a2,a3⟩:=HG.out;omega)
  | (go_ret;exact ⟨by rw [HM.out];rfl,rfl⟩)
theorem length_fn (c:UInt8) (p:Bool) (n:Int) (m:Nat) (hm:m≤1000000) (w:World):Calls Tryz.prog 101 #[.agg #[.int .u8 (c.toNat:Nat),.bool p,.int .i64 n],.int .i64 (m:Nat)] w fun e w'=>e=.returned (.int .i64 (lenL c m:Nat))∧Below w.heap.size w w':=by
 have HT:=hid (show ∀ k:Nat,k=(m+1) / 2→((k:Nat):Int)=((m:Int)+1) / 2 by omega)
 have HE:=hid (show ∀ k:Nat,k=(m+7) / 8→((k:Nat):Int)=((m:Int)+7) / 8 by omega)
 by_cases h104:c=104
 ·subst h104
  have HL:=hid (HT.out (lenL 104 m) rfl)
  go_enter Tryz.func101,Tryz.ntmps101
  go_wp2
  go_ret
  exact ⟨by rw [HL.out];rfl,(Below.refl _ _).alloc (Nat.le_refl _) _⟩
 have n104:=byte_ne 104 h104 rfl
 by_cases h72:c=72
 ·subst h72
  have HL:=hid (HT.out (lenL 72 m) rfl)
  go_enter Tryz.func101,Tryz.ntmps101
  go_wp2
  go_ret
  exact ⟨by rw [HL.out];rfl,(Below.refl _ _).alloc (Nat.le_refl _) _⟩
 have n72:=byte_ne 72 h72 rfl
 by_cases h98:c=98
 ·subst h98
  have HL:=hid (HE.out (lenL 98 m) rfl)
  go_enter Tryz.func101,Tryz.ntmps101
  go_wp2
  go_ret
  exact ⟨by rw [HL.out];rfl,(Below.refl _ _).alloc (Nat.le_refl _) _⟩
 have n98:=byte_ne 98 h98 rfl
 by_cases h66:c=66
 ·subst h66
  have HL:=hid (HE.out (lenL 66 m) rfl)
  go_enter Tryz.func101,Tryz.ntmps101
  go_wp2
  go_ret
  exact ⟨by rw [HL.out];rfl,(Below.refl _ _).alloc (Nat.le_refl _) _⟩
 have n66:=byte_ne 66 h66 rfl
 have hl:lenL c m=max 1 (widthL c)*m:=by
  unfold lenL
  simp [h104,h72,h98,h66]
 obtain ⟨k,hk⟩:∃ k,k=widthL c:=⟨_,rfl⟩
 have hk8:k≤8:=by rw [hk];unfold widthL;split<;>(try split)<;>(try split)<;>(try split)<;>omega
 have hwd:=fun w=>width_fn c p n w
 rw [← hk] at hl hwd
 obtain ⟨j,hj⟩:∃ j,j=max 1 k:=⟨_,rfl⟩
 have HJ:=hid (show max (1:Int) (k:Int)=(j:Int) by omega)
 have hjm:j*m≤8000000:=Nat.le_trans (Nat.mul_le_mul (show j≤8 by omega) hm) (by decide)
 have HL:=hid (show ((lenL c m:Nat):Int)=(j:Int)*(m:Int) by rw [hl,← hj];exact Int.natCast_mul _ _)
 have hb:(0:Int)≤(j:Int)*(m:Int)∧(j:Int)*(m:Int)≤8000000:=by rw [← Int.natCast_mul];omega
 have HW:=hid hwd
 clear hwd hk hl h104 h72 h98 h66 hj hjm
 go_enter Tryz.func101,Tryz.ntmps101
 go_wp2_with fail
 (with_reducible refine (HW.out _).mono ?_);rintro e w1 ⟨rfl,hb1⟩
 go_wp2_with fail
 rw [HJ.out]
 go_wp2
 go_ret
 exact ⟨by rw [HL.out];exact congrArg (fun z=>Ending.returned (Value.int .i64 z)) (IntWalk.wrap64_in ((j:Int)*(m:Int)) (by omega)),((Below.refl _ _).alloc (Nat.le_refl _) _).trans (hb1.mono (by simp))⟩
theorem shift4_fn (c:UInt8) (p:Bool) (n:Int) (i:Nat) (hi:i≤1000000) (w:World):Calls Tryz.prog 148 #[.agg #[.int .u8 (c.toNat:Nat),.bool p,.int .i64 n],.int .i64 (i:Nat),.int .i64 4] w fun e w'=>e=.returned (.int .i64 (shiftL c i 4:Nat))∧Below w.heap.size w w':=by
 have hm:(i:Int).tmod 2=(i:Int) % 2:=Int.tmod_eq_emod_of_nonneg (by omega)
 by_cases h72:c=72
 ·subst h72
  have HL:=hid (show ((shiftL 72 i 4:Nat):Int)=4*(1-(i:Int) % 2) by show ((4*(8 / 4-1-i % (8 / 4)):Nat):Int)=_;omega)
  go_enter Tryz.func148,Tryz.ntmps148
  go_wp2
  go_ret
  exact ⟨by rw [HL.out];rfl,(Below.refl _ _).alloc (Nat.le_refl _) _⟩
 have n72:=byte_ne 72 h72 rfl
 by_cases h66:c=66
 ·subst h66
  have HL:=hid (show ((shiftL 66 i 4:Nat):Int)=4*(1-(i:Int) % 2) by show ((4*(8 / 4-1-i % (8 / 4)):Nat):Int)=_;omega)
  go_enter Tryz.func148,Tryz.ntmps148
  go_wp2
  go_ret
  exact ⟨by rw [HL.out];rfl,(Below.refl _ _).alloc (Nat.le_refl _) _⟩
 have n66:=byte_ne 66 h66 rfl
 have HL:=hid (show ((shiftL c i 4:Nat):Int)=4*((i:Int) % 2) by
  unfold shiftL
  rw [if_neg (by simp [h72,h66])]
  show ((4*(i % (8 / 4)):Nat):Int)=_
  omega)
 clear h72 h66
 go_enter Tryz.func148,Tryz.ntmps148
 go_wp2
 go_ret
 exact ⟨by rw [HL.out];rfl,(Below.refl _ _).alloc (Nat.le_refl _) _⟩
theorem shift1_fn (c:UInt8) (p:Bool) (n:Int) (i:Nat) (hi:i≤1000000) (w:World):Calls Tryz.prog 148 #[.agg #[.int .u8 (c.toNat:Nat),.bool p,.int .i64 n],.int .i64 (i:Nat),.int .i64 1] w fun e w'=>e=.returned (.int .i64 (shiftL c i 1:Nat))∧Below w.heap.size w w':=by
 have hm:(i:Int).tmod 8=(i:Int) % 8:=Int.tmod_eq_emod_of_nonneg (by omega)
 by_cases h72:c=72
 ·subst h72
  have HL:=hid (show ((shiftL 72 i 1:Nat):Int)=7-(i:Int) % 8 by show ((1*(8 / 1-1-i % (8 / 1)):Nat):Int)=_;omega)
  go_enter Tryz.func148,Tryz.ntmps148
  go_wp2
  go_ret
  exact ⟨by rw [HL.out];rfl,(Below.refl _ _).alloc (Nat.le_refl _) _⟩
 have n72:=byte_ne 72 h72 rfl
 by_cases h66:c=66
 ·subst h66
  have HL:=hid (show ((shiftL 66 i 1:Nat):Int)=7-(i:Int) % 8 by show ((1*(8 / 1-1-i % (8 / 1)):Nat):Int)=_;omega)
  go_enter Tryz.func148,Tryz.ntmps148
  go_wp2
  go_ret
  exact ⟨by rw [HL.out];rfl,(Below.refl _ _).alloc (Nat.le_refl _) _⟩
 have n66:=byte_ne 66 h66 rfl
 have HL:=hid (show ((shiftL c i 1:Nat):Int)=(i:Int) % 8 by
  unfold shiftL
  rw [if_neg (by simp [h72,h66])]
  show ((1*(i % (8 / 1)):Nat):Int)=_
  omega)
 clear h72 h66
 go_enter Tryz.func148,Tryz.ntmps148
 go_wp2
 go_ret
 exact ⟨by rw [HL.out];rfl,(Below.refl _ _).alloc (Nat.le_refl _) _⟩
end Go.Proofs.YtihdndaibmgoiaaGreatDoor.Pz
namespace Go.Proofs.YtihdndaibmgoiaaGreatDoor.Pz
open Go.RowKit
def perr (r:Sum Int Str):Int:=match r with | .inl e=>e | .inr _=>0
def prow (r:Sum Int Str):Str:=match r with | .inl _=>[] | .inr x=>x
def PackP (r:Sum Int Str) (w:World) (e:Ending) (w':World):Prop:=∃ v,e=.returned (.tuple #[v,.int .i64 (perr r)])∧RowY w.heap.size w' v (prow r)∧Below w.heap.size w w'
theorem belowA' (w:World) (o:Obj):Below w.heap.size w (w.alloc o):=(Below.refl _ _).alloc (Nat.le_refl _) _
theorem strs_one (a:Str) (w:World):StrsAt (w.alloc (.cells #[.string ⟨a.toArray⟩] 9)) (.slice (some ⟨w.heap.size,0,none⟩) 1 1) [a]:=by
 refine ⟨_,1,rfl,Nat.le_refl _,fun i hi=>⟨_,rfl,by simp,?_⟩⟩
 obtain rfl:i=0:=by simp at hi;omega
 exact cell_one_new _ _ _ 0 _ rfl
structure FBlk (b:Nat) (wx:World) (f:Fld):Prop where
 blk:wx.heap[b]? = some (.cells #[.int .u8 (f.letter.toNat:Nat),.bool f.plain,.int .i64 f.count] 79 (0,0))
section
variable {b:Nat} {wx wy:World} {f:Fld}
theorem FBlk.lt (h:FBlk b wx f):b<wx.heap.size:=(Array.getElem?_eq_some_iff.1 h.blk).1
theorem FBlk.c0 (h:FBlk b wx f):wx.cell? ⟨b,0,none⟩=some (.int .u8 (f.letter.toNat:Nat)):=by rw [Lib.cell_of_heap h.blk];rfl
theorem FBlk.c1 (h:FBlk b wx f):wx.cell? ⟨b,1,none⟩=some (.bool f.plain):=by rw [Lib.cell_of_heap h.blk];rfl
theorem FBlk.c2 (h:FBlk b wx f):wx.cell? ⟨b,2,none⟩=some (.int .i64 f.count):=by rw [Lib.cell_of_heap h.blk];rfl
theorem FBlk.below {B:Nat} (h:FBlk b wx f) (hb:Below B wx wy) (hB:b<B):FBlk b wy f:=⟨(hb.block b hB).trans h.blk⟩
theorem FBlk.on (h:FBlk b wx f) (hb:Below wx.heap.size wx wy):FBlk b wy f:=h.below hb h.lt
end
theorem appB_oneZ {w:World} {N:Nat} (hN:w.heap.size=N) {ops:Array Oper} {rest:List Oper} {o:Oper} {a:Act} {Q:Exit→Act→World→Prop} (hgd:o.guard=none) (s x:Operand)
  (ho:o.op=.call { callee:=.builtin .append,args:=#[s,x],argTypes:=#[46,46] }) (B:Nat) (v:Value) (l:Str) (q:UInt8) (z:Int) (hz:z=((q.toNat:Nat):Int))
  (hs:a.eval s=v) (hown:RowY B w v l) (hx:a.eval x=.slice (some ⟨N,0,none⟩) 1 1) (hB:B≤w.heap.size) (hl:l.length≤1000000000)
  (h:∀ v' w',RowY B w' v' (l++[q])→w.grownBy w' v.ownBlock→(∀ g,v'.ownBlock=some g→v.ownBlock=some g∨w.heap.size≤g)→wpList Tryz.prog ops Q rest (a.put o.dst v') w') :
  wpList Tryz.prog ops Q (o::rest) a (w.alloc (.cells #[.int .u8 z] 5)):=by
 subst hz
 exact appB_one hN hgd s x ho B v l q hs hown hx hB hl h
theorem toNat_mod (v:Nat):(UInt8.ofNat (v % 256)).toNat=v % 256:=by simp
theorem wordsGo_bound:∀ (l p:Str),(wordsGo p l).length≤l.length+1∧∀ x∈wordsGo p l,x.length≤p.length+l.length
 | [],p=>by
  unfold wordsGo
  split<;>simp
 | c::t,p=>by
  rw [wordsGo_cons]
  have h1:=wordsGo_bound t []
  have h2:=wordsGo_bound t (p++[c])
  simp only [List.length_nil,List.length_append,List.length_cons] at h1 h2 ⊢
  split
  ·split
   ·exact ⟨by omega,fun x hx=>by have:=h1.2 x hx;omega⟩
   ·refine ⟨by simp only [List.length_cons];omega,fun x hx=>?_⟩
    rcases List.mem_cons.1 hx with rfl | hx
    ·omega
    ·have:=h1.2 x hx;omega
  ·exact ⟨by omega,fun x hx=>by have:=h2.2 x hx;omega⟩
set_option maxRecDepth 100000 in
set_option maxHeartbeats 4000000 in
theorem numbered_fn (c:UInt8) (p:Bool) (n:Int) (s:Str) (hs:s.length≤100000) (hn:-2≤n∧n≤9999) (w:World) :
  Calls Tryz.prog 119 #[.agg #[.int .u8 (c.toNat:Nat),.bool p,.int .i64 n],.string ⟨s.toArray⟩] w (PackP (numberedE ⟨c,p,n⟩ s) w):=by
 have hsz:(⟨s.toArray⟩:ByteArray).size=s.length:=Lib.size_mk _
 obtain ⟨w0,hw0⟩:∃ w0,w0=w.alloc (.cells #[.int .u8 (c.toNat:Nat),.bool p,.int .i64 n] 79):=⟨_,rfl⟩
 have hF0:FBlk w.heap.size w0 ⟨c,p,n⟩:=⟨by rw [hw0];exact heap_alloc_new _ _⟩
 have hb0:Below w.heap.size w w0:=by rw [hw0];exact (Below.refl _ _).alloc (Nat.le_refl _) _
 have hz0:w0.heap.size=w.heap.size+1:=by rw [hw0];simp
 have HWD:=hid (words_fn s (by omega) w0)
 have HW0:=hid hw0
 have HF0:=hid hF0
 have HB0:=hid hb0
 clear hw0 hF0 hb0
 go_enter Tryz.func119,Tryz.ntmps119
 have hwl:=(wordsGo_bound s []).1
 have hwx:=(wordsGo_bound s []).2
 change (wordsE s).length≤_ at hwl
 obtain ⟨m,hm⟩:∃ m,m=(wordsE s).length:=⟨_,rfl⟩
 rw [← hm] at hwl
 have HM:=hid hm
 have HWX:=hid hwx
 have hnE:numberedE ⟨c,p,n⟩ s=if n = -1 then numsGo c 1 0 [s] [] else if n = -2 then numsGo c m 0 (wordsE s) [] else if (m:Int)<n then .inl 11 else numsGo c n.toNat 0 (wordsE s) []:=by rw [hm];rfl
 have HNE:=hid hnE
 obtain ⟨R,hR⟩:∃ R,R=numberedE ⟨c,p,n⟩ s:=⟨_,rfl⟩
 rw [← hR] at HNE ⊢
 clear hm hwx hnE hR
 go_upto_block 0 with (rw [← HW0.out];(with_reducible refine HWD.out.mono ?_);rintro e w1 ⟨v1,rfl,hr1,hb1⟩;have hF1:=HF0.out.on hb1;have c2:=hF1.c2;have HF1:=hid hF1;have HB1:=hid (HB0.out.trans (hb1.mono (by omega)));obtain ⟨a1,k1,he⟩:=hr1.shape;rw [← HM.out] at he;subst he;have HR1:=hid hr1.strs;clear hF1 hr1 hb1)
 go_cut [6,7] from 14 to 70 (fun lv nv wx=>∃ (L:List Str) (k:Nat),nv=.int .i64 (k:Nat)∧StrsAt wx lv L∧R=numsGo c k 0 L []∧L.length≤100001∧(∀ x∈L,x.length≤100000)∧FBlk w.heap.size wx ⟨c,p,n⟩∧Below w.heap.size w wx)
 case first=>
  have hwb:∀ x∈wordsE s,x.length≤100000:=fun x hx=>by have:=HWX.out x hx;simp at this;omega
  have HWB:=hid hwb
  clear hwb
  by_cases h1:n = -1
  ·subst h1
   have HN1:=hid (show R=numsGo c 1 0 [s] [] from HNE.out)
   go_wp2
   go_meet
   case rel=>exact ⟨[s],1,rfl,strs_one s w1,HN1.out,by simp,fun x hx=>by rw [List.mem_singleton.1 hx];exact hs,HF1.out.on (belowA' _ _),HB1.out.trans ((belowA' _ _).mono HB1.out.size)⟩
  ·have e1:(n == -1)=false:=by simpa using h1
   by_cases h2:n = -2
   ·subst h2
    have HN1:=hid (show R=numsGo c m 0 (wordsE s) [] from HNE.out)
    go_wp2
    go_meet
    case rel=>exact ⟨_,m,rfl,HR1.out,HN1.out,by have:=HM.out;omega,HWB.out,HF1.out,HB1.out⟩
   ·have e2:(n == -2)=false:=by simpa using h2
    have hN:=HNE.out
    rw [if_neg h1,if_neg h2] at hN
    by_cases h3:(m:Int)<n
    ·rw [if_pos h3] at hN
     have HN1:=hid hN
     clear hN h1 h2
     go_wp2
     go_ret2
     exact ⟨_,by rw [HN1.out];rfl,by rw [HN1.out];exact RowY.nil _ _,HB1.out⟩
    ·rw [if_neg h3] at hN
     have HN1:=hid hN
     have h0:0≤n:=by omega
     have HZ:=hid (show n=((n.toNat:Nat):Int) by omega)
     clear hN h1 h2
     go_wp2
     go_meet
     case rel=>exact ⟨_,n.toNat,by rw [← HZ.out],HR1.out,HN1.out,by have:=HM.out;omega,HWB.out,HF1.out,HB1.out⟩
 obtain ⟨L,k,rfl,hst,hN,hll,hlx,hF,hB⟩:=hcut
 clear HM HWX HNE HF1 HB1 HR1 hwl m HW0 HF0 HB0 HWD c2
 have hbw:w.heap.size<wc.heap.size:=hF.lt
 obtain ⟨al,cl,he,hcap,hcell⟩:=id hst
 subst he
 have HST:=hid hst
 have HN:=hid hN
 have HLX:=hid hlx
 have HF:=hid hF
 have HB:=hid hB
 have HCELL:=hid hcell
 clear hst hN hlx hF hB hcell
 obtain ⟨m,hm⟩:∃ m,m=L.length:=⟨_,rfl⟩
 rw [← hm] at hll hcap HST
 rw [← hm]
 have HM:=hid hm
 clear hm
 go_wp2_with fail
 go_loopg [8,35] m (fun d ov iv wr=>∃ (i:Nat) (out:Str),iv=.int .i64 (i:Nat)∧i≤m∧RowY wc.heap.size wr ov out∧out.length≤8*i∧R=numsGo c k i (L.drop i) out∧Below wc.heap.size wc wr∧d=m-i)
 case atStart=>exact ⟨0,[],rfl,Nat.zero_le _,RowY.nil _ _,by simp,HN.out,Below.refl _ _,rfl⟩
 case round=>
  obtain ⟨i,out,rfl,him,hrow,hol,hN2,hbl,rfl⟩:=hrel
  obtain ⟨ao,co,he⟩:=hrow.shape
  obtain ⟨lo,hlo⟩:∃ lo,lo=out.length:=⟨_,rfl⟩
  rw [← hlo] at he hol
  subst he
  have HLO:=hid hlo
  have HROW:=hid hrow
  have HN2:=hid hN2
  have HBL:=hid hbl
  clear hrow hN2 hbl hlo
  rcases Nat.lt_or_ge i m with hlt | hge
  ·have hltI:(i:Int)<(m:Int):=by omega
   have hil:i<L.length:=by rw [← HM.out];exact hlt
   obtain ⟨q,rfl,hqb,hqc⟩:=HCELL.out i hil
   obtain ⟨x,hx⟩:∃ x,x=L[i]:=⟨_,rfl⟩
   rw [← hx] at hqc
   have hqc2:wr.cell? (q.add i)=some (.string ⟨x.toArray⟩):=by rw [HBL.out.cell (p:=q.add i) (by rw [add_block];exact hqb)];exact hqc
   have hxl:x.length≤100000:=by rw [hx];exact HLX.out _ (List.getElem_mem _)
   have hdr:L.drop i=x::L.drop (i+1):=by rw [hx];exact List.drop_eq_getElem_cons hil
   have hN3:=HN2.out
   rw [hdr] at hN3
   have HB64:=hid (bits64_fn x (by omega) wr)
   have HN3:=hid hN3
   clear hx hdr hqc hN3
   rcases v64_cases x with h | h | ⟨v,h,hv⟩
   ·have HR:=hid (show R=.inl 4 by rw [HN3.out,numsGo,h])
    have HC:=HB64.out
    rw [h] at HC
    have HC:=hid (show Calls Tryz.prog 150 #[.string ⟨x.toArray⟩] wr (fun e w'=>e=.returned (.tuple #[.int .u64 0,.int .i64 4])∧Below wr.heap.size wr w') from HC)
    clear h
    go_wp2_with ((with_reducible refine HC.out.mono ?_);rintro e w1 ⟨rfl,hb1⟩;have HB1:=hid hb1;clear hb1)
    go_ret2
    exact ⟨_,by rw [HR.out];rfl,by rw [HR.out];exact RowY.nil _ _,HB.out.trans ((HBL.out.mono (by omega)).trans (HB1.out.mono (by have:=HBL.out.size;omega)))⟩
   ·have HR:=hid (show R=.inl 11 by rw [HN3.out,numsGo,h])
    have HC:=HB64.out
    rw [h] at HC
    have HC:=hid (show Calls Tryz.prog 150 #[.string ⟨x.toArray⟩] wr (fun e w'=>e=.returned (.tuple #[.int .u64 0,.int .i64 11])∧Below wr.heap.size wr w') from HC)
    clear h
    go_wp2_with ((with_reducible refine HC.out.mono ?_);rintro e w1 ⟨rfl,hb1⟩;have HB1:=hid hb1;clear hb1)
    go_ret2
    exact ⟨_,by rw [HR.out];rfl,by rw [HR.out];exact RowY.nil _ _,HB.out.trans ((HBL.out.mono (by omega)).trans (HB1.out.mono (by have:=HBL.out.size;omega)))⟩
   ·have HC:=HB64.out
    rw [h] at HC
    have HC:=hid (show Calls Tryz.prog 150 #[.string ⟨x.toArray⟩] wr (fun e w'=>e=.returned (.tuple #[.int .u64 (v:Nat),.int .i64 0])∧Below wr.heap.size wr w') from HC)
    have hN4:=HN3.out
    rw [numsGo,h] at hN4
    dsimp only at hN4
    have HN4:=hid hN4
    clear h hN4
    by_cases hik:i<k
    ·have hikI:¬ ((k:Int)≤(i:Int)):=by omega
     have HN5:=hid (show R=numsGo c k (i+1) (L.drop (i+1)) (out++ordE (highL c) (bytesLE (widthL c) v)) by rw [HN4.out,if_pos hik])
     obtain ⟨W,hW⟩:∃ W,W=widthL c:=⟨_,rfl⟩
     have hwf:=fun u=>width_fn c p n u
     have hhf:=fun u=>high_fn c p n u
     rw [← hW] at hwf HN5
     have HWF:=hid hwf
     have HHF:=hid hhf
     have HWW:=hid hW
     clear hwf hhf hW
     go_upto_block 3 with (first|((with_reducible refine HC.out.mono ?_);rintro e w1 ⟨rfl,hb1⟩;have hF1:=HF.out.below (HBL.out.trans (hb1.mono HBL.out.size)) hbw;have c0:=hF1.c0;have c1:=hF1.c1;have c2:=hF1.c2;have HF1:=hid hF1;have HB1:=hid hb1;clear hb1 hF1)|((with_reducible refine (HWF.out _).mono ?_);rintro e w2 ⟨rfl,hb2⟩;have hF2:=HF1.out.on hb2;have d0:=hF2.c0;have d1:=hF2.c1;have d2:=hF2.c2;have HF2:=hid hF2;have HB2:=hid hb2;clear hb2 hF2))
     have hW8:W≤8:=by
      rw [HWW.out]
      unfold widthL
      split<;>(try split)<;>(try split)<;>(try split)<;>omega
     go_cut [13] from 37 to 69 (fun bv wx=>RowY w2.heap.size wx bv (bytesLE W v)∧Below w2.heap.size w2 wx)
     case first=>
      go_wp2_with fail
      go_loopg [11,13,53] W (fun d vv bv jv wx=>∃ (j v':Nat) (acc:Str),vv=.int .u64 (v':Nat)∧v'≤18446744073709551615∧jv=.int .i64 (j:Nat)∧j≤W∧RowY w2.heap.size wx bv acc∧acc.length=j∧acc++bytesLE (W-j) v'=bytesLE W v∧Below w2.heap.size w2 wx∧d=W-j)
      case atStart=>exact ⟨0,v,[],rfl,hv,rfl,Nat.zero_le _,RowY.nil _ _,rfl,rfl,Below.refl _ _,rfl⟩
      case round=>
       obtain ⟨j,v',acc,rfl,hv',rfl,hjW,hra,hal,hac,hba,rfl⟩:=hrel
       obtain ⟨aa,ca,he⟩:=hra.shape
       rw [hal] at he
       subst he
       have HRA:=hid hra
       have HAL:=hid hal
       have HAC:=hid hac
       have HBA:=hid hba
       clear hra hal hac hba
       rcases Nat.lt_or_ge j W with hjlt | hjge
       ·have hjI:(j:Int)<(W:Int):=by omega
        have hq:=toNat_mod v'
        have HQ:=hid (show (v':Int) % 256=(((UInt8.ofNat (v' % 256)).toNat:Nat):Int) by rw [hq];rfl)
        have hbz:w2.heap.size≤wr.heap.size:=HBA.out.size
        have hal2:acc.length≤1000000000:=by have:=HAL.out;omega
        clear hq
        go_wp2_with (at_builtin;refine appB_oneZ rfl rfl (.tmp 55) (.tmp 58) rfl w2.heap.size (.slice aa j ca) acc (UInt8.ofNat (v' % 256)) _ HQ.out rfl HRA.out rfl hbz hal2 ?_;intro v9 w9 hr9 hg9 hv9;have HR9:=hid hr9;have HG9:=hid hg9;clear hr9 hg9 hv9)
        go_roundg (W-(j+1))
        case measure=>omega
        case rel=>exact ⟨j+1,v' / 256,acc++[UInt8.ofNat (v' % 256)],by rfl,by omega,by go_num,by omega,HR9.out,by rw [List.length_append,HAL.out];rfl,by rw [← HAC.out,show W-j=W-(j+1)+1 by omega,bytesLE,List.append_assoc];rfl,HBA.out.grown HG9.out hbz (fun g hg=>(HRA.out.lt g hg).2),rfl⟩
       ·obtain rfl:j=W:=by omega
        have HE:=hid (show acc=bytesLE j v by have:=HAC.out;rwa [Nat.sub_self,bytesLE,List.append_nil] at this)
        go_wp2
        go_meet
        case rel=>exact ⟨by rw [← HE.out];exact HRA.out,HBA.out⟩
     obtain ⟨hrb,hb3⟩:=hcut
     obtain ⟨ab,cb,he⟩:=hrb.shape
     rw [bytesLE_len] at he
     subst he
     have hF3:=HF2.out.on hb3
     have e0:=hF3.c0
     have e1:=hF3.c1
     have e2:=hF3.c2
     have HF3:=hid hF3
     have HB3:=hid hb3
     have HRB:=hid hrb
     have hWl:(bytesLE W v).length≤1000000:=by rw [bytesLE_len];omega
     have HWL:=hid hWl
     clear hF3 hb3 hrb hWl c0 c1 c2 d0 d1 d2
     have HOL:=hid (show (ordE (decide (c.toNat<97)) (bytesLE W v)).length=W by
      unfold ordE
      split
      ·rw [List.length_reverse,bytesLE_len]
      ·exact bytesLE_len _ _)
     have HOB:=hid (show out.length+(ordE (decide (c.toNat<97)) (bytesLE W v)).length≤1000000000 by rw [HOL.out];have:=HLO.out;omega)
     have HBW:=hid (HB1.out.trans ((HB2.out.mono HB1.out.size).trans (HB3.out.mono (Nat.le_trans HB1.out.size HB2.out.size))))
     go_wp2_with (first|((with_reducible refine (HHF.out _).mono ?_);rintro e w4 ⟨rfl,hb4⟩;have HB4:=hid hb4;have HOR:=hid (ordered_fn (decide (c.toNat<97)) ((HRB.out.on hb4).mono (Nat.zero_le _)) HWL.out);clear hb4)|((with_reducible refine HOR.out.mono ?_);rintro e w5 ⟨v5,rfl,hr5,hb5⟩;have HB5:=hid (HBW.out.trans ((HB4.out.mono HBW.out.size).trans (hb5.mono (Nat.le_trans HBW.out.size HB4.out.size))));have HRO:=hid (HROW.out.on HB5.out);obtain ⟨a5,k5,he5⟩:=hr5.shape;rw [HOL.out] at he5;subst he5;have HR5:=hid hr5;have hz5:=HB5.out.size;have hz6:=HBL.out.size;clear hr5 hb5)|(at_builtin;refine appB_row rfl (.tmp 63) (.tmp 67) rfl _ _ (.slice ao lo co) (.slice a5 W k5) out _ rfl HRO.out rfl HR5.out (Nat.le_trans hz6 hz5) HOB.out ?_;intro v9 w9 hr9 hg9 hv9;have HR9:=hid hr9;have HG9:=hid hg9;clear hr9 hg9 hv9))
     go_roundg (m-(i+1))
     case measure=>omega
     case rel=>exact ⟨i+1,out++ordE (highL c) (bytesLE W v),by go_num,by omega,HR9.out,by
      have:=HLO.out
      have h9:(ordE (highL c) (bytesLE W v)).length=W:=HOL.out
      rw [List.length_append,h9]
      omega,HN5.out,(HBL.out.trans (HB5.out.mono hz6)).grown HG9.out (Nat.le_trans hz6 hz5) (fun g hg=>(HRO.out.lt g hg).2),rfl⟩
    ·have hikI:(k:Int)≤(i:Int):=by omega
     have HN5:=hid (show R=numsGo c k (i+1) (L.drop (i+1)) out by rw [HN4.out,if_neg hik])
     go_wp2_with ((with_reducible refine HC.out.mono ?_);rintro e w1 ⟨rfl,hb1⟩;have HB1:=hid hb1;clear hb1)
     go_roundg (m-(i+1))
     case measure=>omega
     case rel=>exact ⟨i+1,out,by go_num,by omega,HROW.out.on HB1.out,by have:=HLO.out;omega,HN5.out,HBL.out.trans (HB1.out.mono HBL.out.size),rfl⟩
  ·obtain rfl:i=m:=by omega
   have HR:=hid (show R=.inr out by rw [HN2.out,List.drop_of_length_le (by have:=HM.out;omega)];rfl)
   go_wp2
   go_ret2
   exact ⟨_,by rw [HR.out];rfl,by rw [HR.out];exact RowY.mono HROW.out (by omega),HB.out.trans (HBL.out.mono (by omega))⟩
end Go.Proofs.YtihdndaibmgoiaaGreatDoor.Pz
namespace Go.Proofs.YtihdndaibmgoiaaGreatDoor.Pz
open Go.RowKit
def optR (o:Option Str):Sum Int Str:=match o with | none=>.inl 11 | some x=>.inr x
theorem bitsL_cases (c:UInt8):bitsL c=1∨bitsL c=4:=by
 unfold bitsL
 split
 ·exact .inl rfl
 ·exact .inr rfl
theorem lenL_le (c:UInt8) (m:Nat) (h:m≤1000000):lenL c m≤10000000:=by
  unfold lenL
  split
  · omega
  · split
    · omega
    · have : widthL c ≤ 8 := by
        unfold widthL
        split<;>(try split)<;>(try split)<;>(try split)<;>omega
      exact Nat.le_trans (Nat.mul_le_mul (show max 1 (widthL c)≤8 by omega) h) (by decide)
theorem cntT_le (c:UInt8) (p:Bool) (n:Int) (s:Str) (hs:s.length≤100000) (hn:-2≤n∧n≤9999):cntT ⟨c,p,n⟩ s≤100000:=by
 unfold cntT oneC
 dsimp only
 split
 ·exact hs
 ·split<;>omega
theorem lenL_room4 {c:UInt8} {N:Nat} (h:bitsL c=4) (ht:textL c=true) (h97:c≠97) (h65:c≠65):∀ i,i<N→i*4 / 8<lenL c N:=by
 intro i hi
 have hc:c=104∨c=72:=by
  unfold textL at ht
  unfold bitsL at h
  simp only [Bool.or_eq_true,beq_iff_eq] at ht h
  rcases ht with ((((h1 | h1) | h1) | h1) | h1) | h1
  ·exact absurd h1 h97
  ·exact absurd h1 h65
  ·exact .inl h1
  ·exact .inr h1
  ·rw [if_pos (.inl h1)] at h;cases h
  ·rw [if_pos (.inr h1)] at h;cases h
 have:lenL c N=(N+1) / 2:=by
  unfold lenL
  rw [if_pos (by rcases hc with rfl | rfl<;>rfl)]
 rw [this]
 omega
theorem lenL_room1 {c:UInt8} {N:Nat} (h:bitsL c=1):∀ i,i<N→i*1 / 8<lenL c N:=by
 intro i hi
 have hc:c=98∨c=66:=by
  unfold bitsL at h
  split at h
  ·rename_i h1
   simp only [Bool.or_eq_true,beq_iff_eq] at h1
   exact h1
  ·cases h
 have:lenL c N=(N+7) / 8:=by
  unfold lenL
  rw [if_neg (by rcases hc with rfl | rfl<;>decide),if_pos (by rcases hc with rfl | rfl<;>rfl)]
 rw [this]
 omega
theorem splice_fill (N:Nat) (s:Str) (z:UInt8):splice (List.replicate N z) 0 (s.take N)=s.take N++List.replicate (N-s.length) z:=by
 unfold splice
 rw [List.take_zero,List.nil_append,List.drop_replicate,List.length_take]
 congr 2
 omega
theorem run_copy_str {P:Program} (w:World) (dT sT ty elem:TypeId) (g o dLen dCap:Nat) (s:ByteArray) (cur:Array Value) (t:TypeId)
  (hu:P.underlying dT=some (.slice elem)) (hs:(P.info? elem).map (·.size)=some 1) (hg:w.heap[g]? = some (.cells cur t (0,0))) (hfit:o+Nat.min s.size dLen≤cur.size) :
  (Builtin.copy_ #[dT,sT] ty #[.slice (some ⟨g,o,none⟩) dLen dCap,.string s]).run P w =
   .ok (goInt (Nat.min s.size dLen)) (w.setRow g (cur.toList.take o++(Lib.byteCells s.data.toList).take (Nat.min s.size dLen)++cur.toList.drop (o+Nat.min s.size dLen)).toArray):=by
 have hlen:((Lib.byteCells s.data.toList).take (Nat.min s.size dLen)).length=Nat.min s.size dLen:=by rw [List.length_take,Lib.byteCells_length,← Lib.size_eq];exact Nat.min_eq_left (Nat.min_le_left _ _)
 have hst:=run_storeCells_at P g o t ((Lib.byteCells s.data.toList).take (Nat.min s.size dLen)) 0 cur w hg (by rw [hlen];simpa using hfit) (fun v hv=>byteCells_one _ v (List.mem_of_mem_take hv))
 have htk:List.take (Nat.min s.size dLen) (List.map (fun b:UInt8=>Value.int IntKind.u8 (b.toNat:Int)) s.data.toList)=(Lib.byteCells s.data.toList).take (Nat.min s.size dLen):=rfl
 rw [hlen] at hst
 simp only [Nat.add_zero] at hst
 cases hq:P.info? elem with
 | none=>simp [hq] at hs
 | some i=>
  simp [Builtin.copy_,run_underlying hu,Builtin.lenOf,Builtin.firstCells,Go.sizeOf,typeInfo,hq]
  rw [htk,hst]
  simp [Result.andThen]
set_option maxRecDepth 100000 in
theorem copy_str {w:World} {ops:Array Oper} {rest:List Oper} {o:Oper} {a:Act} {Q:Exit→Act→World→Prop} (hgd:o.guard=none) (d s:Operand)
  (ho:o.op=.call { callee:=.builtin .copy,args:=#[d,s],argTypes:=#[46,9] }) (B g N c:Nat) (l x:Str)
  (hd:a.eval d=.slice (some ⟨g,0,none⟩) N c) (hrow:RowY B w (.slice (some ⟨g,0,none⟩) N c) l) (hs:a.eval s=.string ⟨x.toArray⟩)
  (h:∀ w' (z:Int),RowY B w' (.slice (some ⟨g,0,none⟩) N c) (splice l 0 (x.take N))→w.grownBy w' (some g)→wpList Tryz.prog ops Q rest (a.put o.dst (.int .i64 z)) w') :
  wpList Tryz.prog ops Q (o::rest) a w:=by
 have hn:=hrow.len
 subst hn
 have h9:=hrow
 rcases h9.2 with ⟨e,_⟩ | ⟨g',cap,cur,e,hBg,hgg,hnc,hmx,hcs,htk⟩
 ·cases e
 ·simp only [Value.slice.injEq,Option.some.injEq,Addr.mk.injEq] at e
  obtain ⟨⟨rfl,-⟩,-,rfl⟩:=e
  obtain ⟨i0,hi,hz0,hz1,hz2⟩:=info_parts Tryz.info5
  have hsz:(⟨x.toArray⟩:ByteArray).size=x.length:=Lib.size_mk _
  have hrun:=run_copy_str (P:=Tryz.prog) w 46 9 o.type 5 g 0 l.length c ⟨x.toArray⟩ cur 5 Tryz.underlying46 (by kernel_rfl) hgg (by rw [hsz,hcs];have:Nat.min x.length l.length≤l.length:=Nat.min_le_right _ _;omega)
  have hm:Nat.min x.length l.length=(x.take l.length).length:=by rw [List.length_take];exact Nat.min_comm _ _
  have hct:cur.toList.length=cur.size:=Array.length_toList
  have hcl:l.length≤cur.toList.length:=by omega
  have hsl:(splice l 0 (x.take l.length)).length=l.length:=length_splice _ _ _ (by rw [List.length_take];omega)
  have hrow':(cur.toList.take 0++(Lib.byteCells (⟨x.toArray⟩:ByteArray).data.toList).take (Nat.min (⟨x.toArray⟩:ByteArray).size l.length)++cur.toList.drop (0+Nat.min (⟨x.toArray⟩:ByteArray).size l.length))=splice cur.toList 0 (Lib.byteCells (x.take l.length)):=by
   rw [hsz,hm]
   unfold splice
   rw [Lib.byteCells_length,List.append_assoc]
   congr 2
   show (Lib.byteCells x).take _=_
   rw [← byteCells_take]
   congr 1
   rw [List.length_take]
   by_cases hx:l.length≤x.length
   ·rw [Nat.min_eq_left hx]
   ·rw [Nat.min_eq_right (by omega),List.take_length,List.take_of_length_le (by omega)]
  have hfin:RowY B (w.setRow g (splice cur.toList 0 (Lib.byteCells (x.take l.length))).toArray) (.slice (some ⟨g,0,none⟩) l.length c) (splice l 0 (x.take l.length)):=by
   refine ⟨by simp [Lib.byteCells_length],.inr ⟨g,c,_,by rw [hsl],hBg,setRow_heap w g _ _ _ _ hgg,by rw [hsl];exact hnc,hmx,?_,?_⟩⟩
   ·rw [List.size_toArray,length_splice _ _ _ (by rw [Lib.byteCells_length,List.length_take];omega),hct,hcs]
   ·rw [hsl,Nat.mul_one,byteCells_splice]
    show (splice cur.toList 0 (Lib.byteCells (x.take l.length))).take l.length=_
    rw [Nat.mul_one] at htk
    rw [splice_cut _ _ _ _ (by rw [Lib.byteCells_length,List.length_take];omega) hcl,htk]
  rw [hrow'] at hrun
  refine wpList_plain hgd fun K hK=>?_
  unfold Oper.wp
  simp [execOp,ho,resolve,invoke,builtin,hd,hs,hrun,Result.andThen]
  exact hK _ _ (h _ _ hfin ⟨rfl,rfl,rfl,by simp [World.setRow],fun k hk hn=>setRow_other w g k _ (fun e=>hn (by rw [e]))⟩)
theorem fill_set {i M:Nat} (h:i<M):(List.replicate i (32:UInt8)++List.replicate (M-i) 0).set i 32=List.replicate (i+1) 32++List.replicate (M-(i+1)) 0:=by
 obtain ⟨k,hk⟩:∃ k,M-i=k+1:=⟨M-i-1,by omega⟩
 rw [hk,show M-(i+1)=k by omega,List.replicate_succ,List.set_append_right _ _ (by simp),List.length_replicate,Nat.sub_self,List.set_cons_zero,List.replicate_succ',List.append_assoc]
 rfl
theorem shiftL_le4 (c:UInt8) (i:Nat):shiftL c i 4≤7:=by
 unfold shiftL
 split<;>omega
theorem shiftL_le1 (c:UInt8) (i:Nat):shiftL c i 1≤7:=by
 unfold shiftL
 split<;>omega
theorem shl_in {v sh:Nat} (hv:v<16) (hs:sh≤7):IntKind.i64.wrap ((v:Int)*2 ^ min sh 64)=(v:Int)*2 ^ sh:=by
 rw [Nat.min_eq_left (by omega)]
 have h1:(2:Nat) ^ sh≤2 ^ 7:=Nat.pow_le_pow_right (by decide) hs
 have h2:v*2 ^ sh≤16*2 ^ 7:=Nat.mul_le_mul (by omega) h1
 have h3:(v:Int)*2 ^ sh=((v*2 ^ sh:Nat):Int):=by rw [Int.natCast_mul,Int.natCast_pow];rfl
 rw [h3]
 exact IntWalk.i64_in _ (by omega)
theorem or_in (ob:UInt8) (v sh:Nat):bits BinOp.or IntKind.u8 (ob.toNat:Int) ((v:Int)*2 ^ sh % 256)=((ob.toNat ||| v*2 ^ sh % 256:Nat):Int):=by
 have h3:(v:Int)*2 ^ sh % 256=((v*2 ^ sh % 256:Nat):Int):=by rw [Int.natCast_emod,Int.natCast_mul,Int.natCast_pow];rfl
 rw [h3]
 exact u8_or_nat _ _ ob.toNat_lt (Nat.mod_lt _ (by decide))
theorem or_in2 {ob nb:UInt8} {v sh:Nat} (h:nb=ob ||| UInt8.ofNat (v*2 ^ sh % 256)):bits BinOp.or IntKind.u8 (ob.toNat:Int) ((v:Int)*2 ^ sh % 256)=((nb.toNat:Nat):Int):=by
 rw [or_in,h,UInt8.toNat_or,toNat_mod]
set_option maxRecDepth 100000 in
set_option maxHeartbeats 8000000 in
theorem texted_fn (c:UInt8) (p:Bool) (n:Int) (s:Str) (hs:s.length≤100000) (hn:-2≤n∧n≤9999) (htx:textL c=true) (w:World) :
  Calls Tryz.prog 118 #[.agg #[.int .u8 (c.toNat:Nat),.bool p,.int .i64 n],.string ⟨s.toArray⟩] w (PackP (optR (textedE ⟨c,p,n⟩ s)) w):=by
 have hsz:(⟨s.toArray⟩:ByteArray).size=s.length:=Lib.size_mk _
 obtain ⟨N,hN⟩:∃ N,N=cntT ⟨c,p,n⟩ s:=⟨_,rfl⟩
 obtain ⟨M,hM⟩:∃ M,M=lenL c N:=⟨_,rfl⟩
 have hNb:N≤100000:=by rw [hN];exact cntT_le c p n s hs hn
 have hMb:M≤10000000:=by rw [hM];exact lenL_le c N (by omega)
 obtain ⟨w0,hw0⟩:∃ w0,w0=w.alloc (.cells #[.int .u8 (c.toNat:Nat),.bool p,.int .i64 n] 79):=⟨_,rfl⟩
 have hF0:FBlk w.heap.size w0 ⟨c,p,n⟩:=⟨by rw [hw0];exact heap_alloc_new _ _⟩
 have hb0:Below w.heap.size w w0:=by rw [hw0];exact (Below.refl _ _).alloc (Nat.le_refl _) _
 have HONE:=hid (one_fldC c p n w0)
 have hlen:=fun u=>length_fn c p n N (by omega) u
 rw [← hM] at hlen
 have HLEN:=hid hlen
 have HW0:=hid hw0
 have HF0:=hid hF0
 have HB0:=hid hb0
 have c0:=hF0.c0
 have c1:=hF0.c1
 have c2:=hF0.c2
 have HN:=hid hN
 have HM:=hid hM
 clear hw0 hF0 hb0 hlen hN hM
 go_enter Tryz.func118,Tryz.ntmps118
 go_upto_if 16 with (rw [← HW0.out];(with_reducible refine HONE.out.mono ?_);rintro e w1 ⟨rfl,hb1⟩;have hF1:=HF0.out.on hb1;have d0:=hF1.c0;have d1:=hF1.c1;have d2:=hF1.c2;have HF1:=hid hF1;have HB1:=hid (HB0.out.trans (hb1.mono HB0.out.size));clear hF1 hb1)
 go_cut [6] from 12 to 83 (fun nv wx=>nv=.int .i64 (N:Nat)∧FBlk w.heap.size wx ⟨c,p,n⟩∧Below w.heap.size w wx)
 case first=>
  by_cases h2:n = -2
  ·subst h2
   have HN2:=hid (show N=s.length by rw [HN.out];rfl)
   go_wp2
   go_meet
   case rel=>exact ⟨by rw [HN2.out],HF1.out,HB1.out⟩
  ·have e2:(n == -2)=false:=by simpa using h2
   have HN2:=hid (show N=oneC ⟨c,p,n⟩ by rw [HN.out];unfold cntT;rw [if_neg h2])
   go_wp2
   go_meet
   case rel=>exact ⟨by rw [HN2.out],HF1.out,HB1.out⟩
 obtain ⟨rfl,hF2,hB2⟩:=hcut
 clear HF1 HB1 d0 d1 d2 HF0 HB0 HONE c0 c1 c2
 have c0:=hF2.c0
 have c1:=hF2.c1
 have c2:=hF2.c2
 have HF2:=hid hF2
 have HB2:=hid hB2
 clear hF2 hB2
 go_upto_region 5 with (first|((with_reducible refine (HLEN.out _).mono ?_);rintro e w3 ⟨rfl,hb3⟩;have hF3:=HF2.out.on hb3;have hlt3:=hF3.lt;have HF3:=hid hF3;have HBB:=hid (HB2.out.trans (hb3.mono HB2.out.size));clear hF3 hb3)|(at_make;refine mk_zero _ rfl _ _ rfl M _ _ rfl rfl rfl rfl (by omega) ?_;intro w4 hr4 hb4;have hF4:=HF3.out.on hb4;have d0:=hF4.c0;have d1:=hF4.c1;have d2:=hF4.c2;have HF4:=hid hF4;have HRO:=hid hr4;have HB4:=hid hb4;clear hr4 hb4 hF4))
 by_cases h97:c=97
 ·have y97:((c.toNat:Int) == 97)=true:=by rw [h97];rfl
  have hMN:M=N:=by rw [HM.out,h97];show max 1 0*N=N;rw [show max 1 0=1 from rfl,Nat.one_mul]
  have hE:textedE ⟨c,p,n⟩ s=some (splice (List.replicate M 0) 0 (s.take M)):=by
   unfold textedE
   rw [if_pos (by rw [h97];rfl)]
   dsimp only
   rw [← HN.out,hMN,splice_fill,h97]
   rfl
  have HE:=hid hE
  have n65:((c.toNat:Int) == 65)=false:=by rw [h97];rfl
  clear hMN hE h97
  go_wp2_with (refine copy_str rfl (.tmp 43) (.tmp 44) rfl _ _ M M _ s rfl HRO.out rfl ?_;intro w5 z hr5 hg5;have HR5:=hid hr5;have HG5:=hid hg5;clear hr5 hg5)
  go_ret2
  exact ⟨_,by rw [HE.out];rfl,by rw [HE.out];exact RowY.mono HR5.out (by omega),HBB.out.trans ((HB4.out.grown HG5.out (by have:=HB4.out.size;omega) (fun g hg=>by have:=Option.some.inj hg;omega)).mono (by omega))⟩
 have n97:=byte_ne 97 h97 rfl
 by_cases h65:c=65
 ·have y65:((c.toNat:Int) == 65)=true:=by rw [h65];rfl
  have hMN:M=N:=by rw [HM.out,h65];show max 1 0*N=N;rw [show max 1 0=1 from rfl,Nat.one_mul]
  have hE:textedE ⟨c,p,n⟩ s=some (splice (List.replicate M 32) 0 (s.take M)):=by
   unfold textedE
   rw [if_pos (by rw [h65];rfl)]
   dsimp only
   rw [← HN.out,hMN,splice_fill,h65]
   rfl
  have HE:=hid hE
  clear hMN hE h65 h97
  go_wp2_with fail
  go_loopg [36] M (fun k iv wr=>∃ (i:Nat),iv=.int .i64 (i:Nat)∧i≤M∧RowY w3.heap.size wr (.slice (some ⟨w3.heap.size,0,none⟩) M M) (List.replicate i 32++List.replicate (M-i) 0)∧Below w3.heap.size w3 wr∧k=M-i)
  case atStart=>exact ⟨0,rfl,Nat.zero_le _,HRO.out,HB4.out,rfl⟩
  case round=>
   obtain ⟨i,rfl,hiM,hro,hbl,rfl⟩:=hrel
   have HROW:=hid hro
   have HBL:=hid hbl
   clear hro hbl
   rcases Nat.lt_or_ge i M with hlt | hge
   ·have hltI:(i:Int)<(M:Int):=by omega
    have fr:=HROW.out.free i
    have hcc:∃ u,wr.cell? ⟨w3.heap.size,i,none⟩=some (.int .u8 u):=⟨_,HROW.out.cellI (i:=i) (by rw [List.length_append,List.length_replicate,List.length_replicate];omega)⟩
    obtain ⟨oq,hcc⟩:=hcc
    have HNX:=hid (show RowY w3.heap.size (wr.setCell ⟨w3.heap.size,i,none⟩ (.int .u8 32)) (.slice (some ⟨w3.heap.size,0,none⟩) M M) (List.replicate (i+1) 32++List.replicate (M-(i+1)) 0) by
     have h9:=HROW.out.set i 32
     rw [fill_set hlt] at h9
     exact h9)
    go_wp2
    go_roundg (M-(i+1))
    case measure=>omega
    case rel=>exact ⟨i+1,by go_num,by omega,HNX.out,HBL.out.setCell (Nat.le_refl _) _,rfl⟩
   ·obtain rfl:i=M:=by omega
    have HRF:=hid (show RowY w3.heap.size wr (.slice (some ⟨w3.heap.size,0,none⟩) i i) (List.replicate i 32) by have h9:=HROW.out;rw [Nat.sub_self] at h9;simpa using h9)
    go_wp2_with (refine copy_str rfl (.tmp 43) (.tmp 44) rfl _ _ i i _ s rfl HRF.out rfl ?_;intro w5 z hr5 hg5;have HR5:=hid hr5;have HG5:=hid hg5;clear hr5 hg5)
    go_ret2
    exact ⟨_,by rw [HE.out];rfl,by rw [HE.out];exact RowY.mono HR5.out (by omega),HBB.out.trans ((HBL.out.grown HG5.out (by have:=HBL.out.size;omega) (fun g hg=>by have:=Option.some.inj hg;omega)).mono (by omega))⟩
 have n65:=byte_ne 65 h65 rfl
 by_cases hb4:bitsL c=4
 ·have hbits:bitsL c=4:=by first | exact hb4|(rcases bitsL_cases c with h | h;exact h;exact absurd h hb4)
  have HDG:=hid (show ∀ u,Calls Tryz.prog 125 #[.int .u8 (c.toNat:Nat)] u fun e w'=>e=.returned (.int .i64 4)∧w'=u from fun u=>by have h:=digitsOf_fn c u;rw [hbits] at h;exact h)
  have HSH:=hid (fun (i:Nat) (hi:i≤1000000) u=>shift4_fn c p n i hi u)
  have hMJ:∀ i,i<N→i*4 / 8<M:=by rw [HM.out];exact lenL_room4 hbits htx h97 h65
  obtain ⟨R,hR⟩:∃ R,R=digE c N 0 s (List.replicate M 0):=⟨_,rfl⟩
  have hRR:textedE ⟨c,p,n⟩ s=R:=by
   unfold textedE
   rw [if_neg (by simp [h97,h65]),hR,← HN.out,HM.out]
  have HRR:=hid hRR
  have HR:=hid hR
  have HBITS:=hid hbits
  have HMJ:=hid hMJ
  clear hbits hMJ hR hRR h97 h65 hb4
  go_wp2_with ((with_reducible refine (HDG.out _).mono ?_);rintro e w4 ⟨rfl,rfl⟩)
  go_loopg [52] s.length (fun k iv wr=>∃ (i:Nat) (o l:Str),iv=.int .i64 (i:Nat)∧At s l i∧RowY w3.heap.size wr (.slice (some ⟨w3.heap.size,0,none⟩) M M) o∧o.length=M∧R=digE c N i l o∧FBlk w.heap.size wr ⟨c,p,n⟩∧Below w3.heap.size w3 wr∧k=l.length)
  case atStart=>exact ⟨0,_,s,rfl,At.start s,HRO.out,by simp,HR.out,HF4.out,HB4.out,rfl⟩
  case round=>
   obtain ⟨i,o,l,rfl,ha,hro,hol,hR2,hF,hbl,rfl⟩:=hrel
   have HROW:=hid hro
   have HR2:=hid hR2
   have HFF:=hid hF
   have HBL:=hid hbl
   have hlen:=ha.len
   have HA:=hid ha
   clear hro hR2 hF hbl ha
   cases l with
   | nil=>
    have hge:¬ ((i:Int)<(s.length:Int)):=by simp at hlen;omega
    have HO:=hid (show R=some o from HR2.out)
    go_wp2
    go_ret2
    exact ⟨_,by rw [HRR.out,HO.out];rfl,by rw [HRR.out,HO.out];exact RowY.mono HROW.out (by omega),HBB.out.trans (HBL.out.mono (by omega))⟩
   | cons d t=>
    have hlt:=HA.out.lt
    have hltI:(i:Int)<(s.length:Int):=by omega
    have hx:=HA.out.byte
    have hvf:=fun u=>value_fn d u
    have hR3:=HR2.out
    rw [digE,HBITS.out] at hR3
    obtain ⟨v,hv⟩:∃ v,v=valH d:=⟨_,rfl⟩
    rw [← hv] at hvf hR3
    have HVF:=hid hvf
    have HV:=hid hv
    clear hvf hv
    by_cases hbig:16≤v
    ·have HO:=hid (show R=none by rw [hR3,if_pos hbig])
     have hbI:(16:Int)≤(v:Int):=by omega
     clear hR3
     go_wp2_with ((with_reducible refine (HVF.out _).mono ?_);rintro e wr ⟨rfl,rfl⟩)
     go_ret2
     exact ⟨_,by rw [HRR.out,HO.out];rfl,by rw [HRR.out,HO.out];exact RowY.nil _ _,HBB.out.trans (HBL.out.mono (by omega))⟩
    ·rw [if_neg hbig] at hR3
     have hbI:¬ ((16:Int)≤(v:Int)):=by omega
     have hvl:v<16:=by omega
     have HO:=hid hR3
     clear hR3 hbig
     by_cases hiN:i<N
     ·have hiI:(i:Int)<(N:Int):=by omega
      have hc0:=HFF.out.c0
      have hc1:=HFF.out.c1
      have hc2:=HFF.out.c2
      go_wp2_with ((with_reducible refine (HVF.out _).mono ?_);rintro e wr ⟨rfl,rfl⟩)
      have hJ:i*4 / 8<M:=HMJ.out i hiN
      obtain ⟨J,hJe⟩:∃ J,J=i*4 / 8:=⟨_,rfl⟩
      rw [← hJe] at hJ
      have hJI:(i:Int)*4 / 8=(J:Int):=by omega
      have hJM:(J:Int)<(M:Int):=by omega
      obtain ⟨ob,hob⟩:∃ ob,o[J]? = some ob:=⟨_,List.getElem?_eq_getElem (by omega)⟩
      have hcJ:wr.cell? ⟨w3.heap.size,J,none⟩=some (.int .u8 (ob.toNat:Nat)):=by
       obtain ⟨hJl,hoe⟩:=List.getElem?_eq_some_iff.1 hob
       rw [← hoe]
       exact HROW.out.cellI hJl
      have S0:Hid ((fun u:World=>u.cell? ⟨w.heap.size,0,none⟩=some (.int .u8 (c.toNat:Nat))∧u.cell? ⟨w.heap.size,1,none⟩=some (.bool p)∧u.cell? ⟨w.heap.size,2,none⟩=some (.int .i64 n)∧u.cell? ⟨w3.heap.size,J,none⟩=some (.int .u8 (ob.toNat:Nat))) wr.drew):=hid ⟨hc0,hc1,hc2,hcJ⟩
      obtain ⟨sh,hsh⟩:∃ sh,sh=shiftL c i 4:=⟨_,rfl⟩
      have hsf:=HSH.out i (by omega)
      rw [← hsh] at hsf
      have HSF:=hid hsf
      have HSHE:=hid hsh
      obtain ⟨nb,hne⟩:∃ nb:UInt8,nb=ob ||| UInt8.ofNat (v*2 ^ sh % 256):=⟨_,rfl⟩
      have HNE:=hid hne
      clear hne
      have HSB:=hid (show sh≤7 by rw [hsh];exact shiftL_le4 c i)
      have HJE:=hid hJe
      have HOB:=hid hob
      clear hJe hob hcJ hc0 hc1 hc2 hsf hsh
      refine U_begin (late:=fun k=>decide (15≤k)) (S:=fun u:World=>u.cell? ⟨w.heap.size,0,none⟩=some (.int .u8 (c.toNat:Nat))∧u.cell? ⟨w.heap.size,1,none⟩=some (.bool p)∧u.cell? ⟨w.heap.size,2,none⟩=some (.int .i64 n)∧u.cell? ⟨w3.heap.size,J,none⟩=some (.int .u8 (ob.toNat:Nat))) (by kernel_rfl) ?_
      refine U_take2 8 (i:=0) (v:=.slice (some ⟨w3.heap.size,0,none⟩) M M) rfl (by kernel_rfl) (by kernel_rfl) (by kernel_rfl) (by kernel_rfl) (by kernel_rfl) (fun _ _ _ h=>h) (.inl ⟨rfl,fun u hu=>(by go_simp)⟩) S0.out ?_
      refine U_take2 8 (i:=1) (v:=.int .i64 (i:Nat)) rfl (by kernel_rfl) (by kernel_rfl) (by kernel_rfl) (by kernel_rfl) (by kernel_rfl) (fun _ _ _ h=>h) (.inl ⟨rfl,fun u hu=>(by go_simp)⟩) S0.out ?_
      refine U_take2 8 (i:=2) (v:=.int .i64 4) rfl (by kernel_rfl) (by kernel_rfl) (by kernel_rfl) (by kernel_rfl) (by kernel_rfl) (fun _ _ _ h=>h) (.inl ⟨rfl,fun u hu=>(by go_simp)⟩) S0.out ?_
      refine U_take2 8 (i:=3) (v:=.int .i64 ((i:Int)*4)) rfl (by kernel_rfl) (by kernel_rfl) (by kernel_rfl) (by kernel_rfl) (by kernel_rfl) (fun _ _ _ h=>h) (.inl ⟨rfl,fun u hu=>(by go_simp<;>exact IntWalk.i64_in _ (by omega))⟩) S0.out ?_
      refine U_take2 8 (i:=4) (v:=.int .i64 (J:Nat)) rfl (by kernel_rfl) (by kernel_rfl) (by kernel_rfl) (by kernel_rfl) (by kernel_rfl) (fun _ _ _ h=>h) (.inl ⟨rfl,fun u hu=>(by go_simp<;>first|(rw [Int.tdiv_eq_ediv_of_nonneg (by omega)];rw [IntWalk.i64_in _ (by omega)];exact hJI)|(rw [IntWalk.i64_in _ (by omega)];omega))⟩) S0.out ?_
      refine U_take2 8 (i:=5) (v:=.pointer (some ⟨w3.heap.size,J,none⟩)) rfl (by kernel_rfl) (by kernel_rfl) (by kernel_rfl) (by kernel_rfl) (by kernel_rfl) (fun _ _ _ h=>h) (.inl ⟨rfl,fun u hu=>(by go_simp)⟩) S0.out ?_
      refine U_take2 8 (i:=6) (v:=.int .u8 (ob.toNat:Nat)) rfl (by kernel_rfl) (by kernel_rfl) (by kernel_rfl) (by kernel_rfl) (by kernel_rfl) (fun _ _ _ h=>h) (.inl ⟨rfl,fun u hu=>(by obtain ⟨h1,h2,h3,h4⟩:=hu;go_simp)⟩) S0.out ?_
      refine U_take2 8 (i:=7) (v:=.int .i64 (v:Nat)) rfl (by kernel_rfl) (by kernel_rfl) (by kernel_rfl) (by kernel_rfl) (by kernel_rfl) (fun _ _ _ h=>h) (.inl ⟨rfl,fun u hu=>(by go_simp)⟩) S0.out ?_
      refine U_take2 8 (i:=8) (v:=.agg #[.int .u8 (c.toNat:Nat),.bool p,.int .i64 n]) rfl (by kernel_rfl) (by kernel_rfl) (by kernel_rfl) (by kernel_rfl) (by kernel_rfl) (fun _ _ _ h=>h) (.inl ⟨rfl,fun u hu=>(by obtain ⟨h1,h2,h3,h4⟩:=hu;go_simp)⟩) S0.out ?_
      refine U_take2 8 (i:=9) (v:=.int .i64 (i:Nat)) rfl (by kernel_rfl) (by kernel_rfl) (by kernel_rfl) (by kernel_rfl) (by kernel_rfl) (fun _ _ _ h=>h) (.inl ⟨rfl,fun u hu=>(by go_simp)⟩) S0.out ?_
      refine U_take2 8 (i:=10) (v:=.int .i64 4) rfl (by kernel_rfl) (by kernel_rfl) (by kernel_rfl) (by kernel_rfl) (by kernel_rfl) (fun _ _ _ h=>h) (.inl ⟨rfl,fun u hu=>(by go_simp)⟩) S0.out ?_
      refine U_step (j:=11) (by kernel_rfl) rfl (fun K hK=>?_)
      go_simp
      (with_reducible refine (HSF.out _).mono ?_);rintro e w6 ⟨rfl,hb6⟩
      have S6:Hid ((fun u:World=>u.cell? ⟨w.heap.size,0,none⟩=some (.int .u8 (c.toNat:Nat))∧u.cell? ⟨w.heap.size,1,none⟩=some (.bool p)∧u.cell? ⟨w.heap.size,2,none⟩=some (.int .i64 n)∧u.cell? ⟨w3.heap.size,J,none⟩=some (.int .u8 (ob.toNat:Nat))) w6):=by
       have hlw:=HFF.out.lt
       have hl3:=(HROW.out.lt w3.heap.size rfl).1
       have hk:∀ (a:Addr),a.block<wr.heap.size→w6.cell? a=wr.drew.cell? a:=fun a ha=>hb6.cell (p:=a) ha
       exact hid ⟨(hk ⟨w.heap.size,0,none⟩ hlw).trans S0.out.1,(hk ⟨w.heap.size,1,none⟩ hlw).trans S0.out.2.1,(hk ⟨w.heap.size,2,none⟩ hlw).trans S0.out.2.2.1,(hk ⟨w3.heap.size,J,none⟩ hl3).trans S0.out.2.2.2⟩
      refine hK.out _ _ (.inr S6.out) ?_
      clear hK K S0
      have HB6:=hid (show Below wr.heap.size wr w6 from (Below.refl _ wr).drew.trans hb6)
      clear hb6
      refine U_take2 8 (i:=12) (v:=.int .i64 ((v:Int)*2 ^ sh)) rfl (by kernel_rfl) (by kernel_rfl) (by kernel_rfl) (by kernel_rfl) (by kernel_rfl) (fun _ _ _ h=>h) (.inl ⟨rfl,fun u hu=>(by go_simp<;>exact shl_in (by omega) HSB.out)⟩) S6.out ?_
      refine U_take2 8 (i:=13) (v:=.int .u8 (((v*2 ^ sh % 256:Nat)):Int)) rfl (by kernel_rfl) (by kernel_rfl) (by kernel_rfl) (by kernel_rfl) (by kernel_rfl) (fun _ _ _ h=>h) (.inl ⟨rfl,fun u hu=>(by go_simp<;>exact IntKind.wrap_u8 _)⟩) S6.out ?_
      refine U_take2 8 (i:=14) (v:=.int .u8 (nb.toNat:Nat)) rfl (by kernel_rfl) (by kernel_rfl) (by kernel_rfl) (by kernel_rfl) (by kernel_rfl) (fun _ _ _ h=>h) (.inl ⟨rfl,fun u hu=>(by go_simp<;>exact or_in2 HNE.out)⟩) S6.out ?_
      have fr6:=(HROW.out.on HB6.out).free J
      have cJ6:=S6.out.2.2.2
      refine U_step (j:=15) (by kernel_rfl) rfl (fun K hK=>?_)
      go_simp
      refine hK.out _ _ (.inl rfl) ?_
      clear hK K
      refine U_step (j:=16) (by kernel_rfl) rfl (fun K hK=>?_)
      go_simp
      refine hK.out _ _ (.inl rfl) ?_
      clear hK K
      refine U_done (by kernel_rfl) ?_ _
      have hset:o.getD J 0=ob:=by rw [List.getD_eq_getElem?_getD,HOB.out];rfl
      have HNB:=hid (show R=digE c N (i+1) t (o.set J nb) by
       rw [HNE.out,HO.out,if_pos hiN,← HSHE.out,← HJE.out,hset,Nat.shiftLeft_eq])
      have hrow:=(HROW.out.on HB6.out).set J nb
      have HROW6:=hid hrow
      have HF6:=hid (HFF.out.on HB6.out)
      clear S6 fr6 cJ6 hset hrow
      go_wp2
      go_roundg t.length
      case measure=>first | omega | simp
      case rel=>exact ⟨i+1,o.set J nb,t,by go_num,HA.out.tail,HROW6.out,by rw [List.length_set];exact hol,HNB.out,⟨(Below.heap_setCell _ _ _ _ (by show w.heap.size≠w3.heap.size;omega)).trans HF6.out.blk⟩,(HBL.out.trans (HB6.out.mono HBL.out.size)).setCell (Nat.le_refl _) _,rfl⟩
     ·have hiI:¬ ((i:Int)<(N:Int)):=by omega
      go_wp2_with ((with_reducible refine (HVF.out _).mono ?_);rintro e wr ⟨rfl,rfl⟩)
      go_roundg t.length
      case measure=>first | omega | simp
      case rel=>exact ⟨i+1,o,t,by go_num,HA.out.tail,HROW.out,hol,by rw [HO.out,if_neg hiN],HFF.out,HBL.out,rfl⟩
 ·have hbits:bitsL c=1:=by first | exact hb4|(rcases bitsL_cases c with h | h;exact h;exact absurd h hb4)
  have HDG:=hid (show ∀ u,Calls Tryz.prog 125 #[.int .u8 (c.toNat:Nat)] u fun e w'=>e=.returned (.int .i64 1)∧w'=u from fun u=>by have h:=digitsOf_fn c u;rw [hbits] at h;exact h)
  have HSH:=hid (fun (i:Nat) (hi:i≤1000000) u=>shift1_fn c p n i hi u)
  have hMJ:∀ i,i<N→i*1 / 8<M:=by rw [HM.out];exact lenL_room1 hbits
  obtain ⟨R,hR⟩:∃ R,R=digE c N 0 s (List.replicate M 0):=⟨_,rfl⟩
  have hRR:textedE ⟨c,p,n⟩ s=R:=by
   unfold textedE
   rw [if_neg (by simp [h97,h65]),hR,← HN.out,HM.out]
  have HRR:=hid hRR
  have HR:=hid hR
  have HBITS:=hid hbits
  have HMJ:=hid hMJ
  clear hbits hMJ hR hRR h97 h65 hb4
  go_wp2_with ((with_reducible refine (HDG.out _).mono ?_);rintro e w4 ⟨rfl,rfl⟩)
  go_loopg [52] s.length (fun k iv wr=>∃ (i:Nat) (o l:Str),iv=.int .i64 (i:Nat)∧At s l i∧RowY w3.heap.size wr (.slice (some ⟨w3.heap.size,0,none⟩) M M) o∧o.length=M∧R=digE c N i l o∧FBlk w.heap.size wr ⟨c,p,n⟩∧Below w3.heap.size w3 wr∧k=l.length)
  case atStart=>exact ⟨0,_,s,rfl,At.start s,HRO.out,by simp,HR.out,HF4.out,HB4.out,rfl⟩
  case round=>
   obtain ⟨i,o,l,rfl,ha,hro,hol,hR2,hF,hbl,rfl⟩:=hrel
   have HROW:=hid hro
   have HR2:=hid hR2
   have HFF:=hid hF
   have HBL:=hid hbl
   have hlen:=ha.len
   have HA:=hid ha
   clear hro hR2 hF hbl ha
   cases l with
   | nil=>
    have hge:¬ ((i:Int)<(s.length:Int)):=by simp at hlen;omega
    have HO:=hid (show R=some o from HR2.out)
    go_wp2
    go_ret2
    exact ⟨_,by rw [HRR.out,HO.out];rfl,by rw [HRR.out,HO.out];exact RowY.mono HROW.out (by omega),HBB.out.trans (HBL.out.mono (by omega))⟩
   | cons d t=>
    have hlt:=HA.out.lt
    have hltI:(i:Int)<(s.length:Int):=by omega
    have hx:=HA.out.byte
    have hvf:=fun u=>value_fn d u
    have hR3:=HR2.out
    rw [digE,HBITS.out] at hR3
    obtain ⟨v,hv⟩:∃ v,v=valH d:=⟨_,rfl⟩
    rw [← hv] at hvf hR3
    have HVF:=hid hvf
    have HV:=hid hv
    clear hvf hv
    by_cases hbig:2≤v
    ·have HO:=hid (show R=none by rw [hR3,if_pos hbig])
     have hbI:(2:Int)≤(v:Int):=by omega
     clear hR3
     go_wp2_with ((with_reducible refine (HVF.out _).mono ?_);rintro e wr ⟨rfl,rfl⟩)
     go_ret2
     exact ⟨_,by rw [HRR.out,HO.out];rfl,by rw [HRR.out,HO.out];exact RowY.nil _ _,HBB.out.trans (HBL.out.mono (by omega))⟩
    ·rw [if_neg hbig] at hR3
     have hbI:¬ ((2:Int)≤(v:Int)):=by omega
     have hvl:v<2:=by omega
     have HO:=hid hR3
     clear hR3 hbig
     by_cases hiN:i<N
     ·have hiI:(i:Int)<(N:Int):=by omega
      have hc0:=HFF.out.c0
      have hc1:=HFF.out.c1
      have hc2:=HFF.out.c2
      go_wp2_with ((with_reducible refine (HVF.out _).mono ?_);rintro e wr ⟨rfl,rfl⟩)
      have hJ:i*1 / 8<M:=HMJ.out i hiN
      obtain ⟨J,hJe⟩:∃ J,J=i*1 / 8:=⟨_,rfl⟩
      rw [← hJe] at hJ
      have hJI:(i:Int)*1 / 8=(J:Int):=by omega
      have hJM:(J:Int)<(M:Int):=by omega
      obtain ⟨ob,hob⟩:∃ ob,o[J]? = some ob:=⟨_,List.getElem?_eq_getElem (by omega)⟩
      have hcJ:wr.cell? ⟨w3.heap.size,J,none⟩=some (.int .u8 (ob.toNat:Nat)):=by
       obtain ⟨hJl,hoe⟩:=List.getElem?_eq_some_iff.1 hob
       rw [← hoe]
       exact HROW.out.cellI hJl
      have S0:Hid ((fun u:World=>u.cell? ⟨w.heap.size,0,none⟩=some (.int .u8 (c.toNat:Nat))∧u.cell? ⟨w.heap.size,1,none⟩=some (.bool p)∧u.cell? ⟨w.heap.size,2,none⟩=some (.int .i64 n)∧u.cell? ⟨w3.heap.size,J,none⟩=some (.int .u8 (ob.toNat:Nat))) wr.drew):=hid ⟨hc0,hc1,hc2,hcJ⟩
      obtain ⟨sh,hsh⟩:∃ sh,sh=shiftL c i 1:=⟨_,rfl⟩
      have hsf:=HSH.out i (by omega)
      rw [← hsh] at hsf
      have HSF:=hid hsf
      have HSHE:=hid hsh
      obtain ⟨nb,hne⟩:∃ nb:UInt8,nb=ob ||| UInt8.ofNat (v*2 ^ sh % 256):=⟨_,rfl⟩
      have HNE:=hid hne
      clear hne
      have HSB:=hid (show sh≤7 by rw [hsh];exact shiftL_le1 c i)
      have HJE:=hid hJe
      have HOB:=hid hob
      clear hJe hob hcJ hc0 hc1 hc2 hsf hsh
      refine U_begin (late:=fun k=>decide (15≤k)) (S:=fun u:World=>u.cell? ⟨w.heap.size,0,none⟩=some (.int .u8 (c.toNat:Nat))∧u.cell? ⟨w.heap.size,1,none⟩=some (.bool p)∧u.cell? ⟨w.heap.size,2,none⟩=some (.int .i64 n)∧u.cell? ⟨w3.heap.size,J,none⟩=some (.int .u8 (ob.toNat:Nat))) (by kernel_rfl) ?_
      refine U_take2 8 (i:=0) (v:=.slice (some ⟨w3.heap.size,0,none⟩) M M) rfl (by kernel_rfl) (by kernel_rfl) (by kernel_rfl) (by kernel_rfl) (by kernel_rfl) (fun _ _ _ h=>h) (.inl ⟨rfl,fun u hu=>(by go_simp)⟩) S0.out ?_
      refine U_take2 8 (i:=1) (v:=.int .i64 (i:Nat)) rfl (by kernel_rfl) (by kernel_rfl) (by kernel_rfl) (by kernel_rfl) (by kernel_rfl) (fun _ _ _ h=>h) (.inl ⟨rfl,fun u hu=>(by go_simp)⟩) S0.out ?_
      refine U_take2 8 (i:=2) (v:=.int .i64 1) rfl (by kernel_rfl) (by kernel_rfl) (by kernel_rfl) (by kernel_rfl) (by kernel_rfl) (fun _ _ _ h=>h) (.inl ⟨rfl,fun u hu=>(by go_simp)⟩) S0.out ?_
      refine U_take2 8 (i:=3) (v:=.int .i64 ((i:Int)*1)) rfl (by kernel_rfl) (by kernel_rfl) (by kernel_rfl) (by kernel_rfl) (by kernel_rfl) (fun _ _ _ h=>h) (.inl ⟨rfl,fun u hu=>(by go_simp<;>exact IntWalk.i64_in _ (by omega))⟩) S0.out ?_
      refine U_take2 8 (i:=4) (v:=.int .i64 (J:Nat)) rfl (by kernel_rfl) (by kernel_rfl) (by kernel_rfl) (by kernel_rfl) (by kernel_rfl) (fun _ _ _ h=>h) (.inl ⟨rfl,fun u hu=>(by go_simp<;>first|(rw [Int.tdiv_eq_ediv_of_nonneg (by omega)];rw [IntWalk.i64_in _ (by omega)];exact hJI)|(rw [IntWalk.i64_in _ (by omega)];omega))⟩) S0.out ?_
      refine U_take2 8 (i:=5) (v:=.pointer (some ⟨w3.heap.size,J,none⟩)) rfl (by kernel_rfl) (by kernel_rfl) (by kernel_rfl) (by kernel_rfl) (by kernel_rfl) (fun _ _ _ h=>h) (.inl ⟨rfl,fun u hu=>(by go_simp)⟩) S0.out ?_
      refine U_take2 8 (i:=6) (v:=.int .u8 (ob.toNat:Nat)) rfl (by kernel_rfl) (by kernel_rfl) (by kernel_rfl) (by kernel_rfl) (by kernel_rfl) (fun _ _ _ h=>h) (.inl ⟨rfl,fun u hu=>(by obtain ⟨h1,h2,h3,h4⟩:=hu;go_simp)⟩) S0.out ?_
      refine U_take2 8 (i:=7) (v:=.int .i64 (v:Nat)) rfl (by kernel_rfl) (by kernel_rfl) (by kernel_rfl) (by kernel_rfl) (by kernel_rfl) (fun _ _ _ h=>h) (.inl ⟨rfl,fun u hu=>(by go_simp)⟩) S0.out ?_
      refine U_take2 8 (i:=8) (v:=.agg #[.int .u8 (c.toNat:Nat),.bool p,.int .i64 n]) rfl (by kernel_rfl) (by kernel_rfl) (by kernel_rfl) (by kernel_rfl) (by kernel_rfl) (fun _ _ _ h=>h) (.inl ⟨rfl,fun u hu=>(by obtain ⟨h1,h2,h3,h4⟩:=hu;go_simp)⟩) S0.out ?_
      refine U_take2 8 (i:=9) (v:=.int .i64 (i:Nat)) rfl (by kernel_rfl) (by kernel_rfl) (by kernel_rfl) (by kernel_rfl) (by kernel_rfl) (fun _ _ _ h=>h) (.inl ⟨rfl,fun u hu=>(by go_simp)⟩) S0.out ?_
      refine U_take2 8 (i:=10) (v:=.int .i64 1) rfl (by kernel_rfl) (by kernel_rfl) (by kernel_rfl) (by kernel_rfl) (by kernel_rfl) (fun _ _ _ h=>h) (.inl ⟨rfl,fun u hu=>(by go_simp)⟩) S0.out ?_
      refine U_step (j:=11) (by kernel_rfl) rfl (fun K hK=>?_)
      go_simp
      (with_reducible refine (HSF.out _).mono ?_);rintro e w6 ⟨rfl,hb6⟩
      have S6:Hid ((fun u:World=>u.cell? ⟨w.heap.size,0,none⟩=some (.int .u8 (c.toNat:Nat))∧u.cell? ⟨w.heap.size,1,none⟩=some (.bool p)∧u.cell? ⟨w.heap.size,2,none⟩=some (.int .i64 n)∧u.cell? ⟨w3.heap.size,J,none⟩=some (.int .u8 (ob.toNat:Nat))) w6):=by
       have hlw:=HFF.out.lt
       have hl3:=(HROW.out.lt w3.heap.size rfl).1
       have hk:∀ (a:Addr),a.block<wr.heap.size→w6.cell? a=wr.drew.cell? a:=fun a ha=>hb6.cell (p:=a) ha
       exact hid ⟨(hk ⟨w.heap.size,0,none⟩ hlw).trans S0.out.1,(hk ⟨w.heap.size,1,none⟩ hlw).trans S0.out.2.1,(hk ⟨w.heap.size,2,none⟩ hlw).trans S0.out.2.2.1,(hk ⟨w3.heap.size,J,none⟩ hl3).trans S0.out.2.2.2⟩
      refine hK.out _ _ (.inr S6.out) ?_
      clear hK K S0
      have HB6:=hid (show Below wr.heap.size wr w6 from (Below.refl _ wr).drew.trans hb6)
      clear hb6
      refine U_take2 8 (i:=12) (v:=.int .i64 ((v:Int)*2 ^ sh)) rfl (by kernel_rfl) (by kernel_rfl) (by kernel_rfl) (by kernel_rfl) (by kernel_rfl) (fun _ _ _ h=>h) (.inl ⟨rfl,fun u hu=>(by go_simp<;>exact shl_in (by omega) HSB.out)⟩) S6.out ?_
      refine U_take2 8 (i:=13) (v:=.int .u8 (((v*2 ^ sh % 256:Nat)):Int)) rfl (by kernel_rfl) (by kernel_rfl) (by kernel_rfl) (by kernel_rfl) (by kernel_rfl) (fun _ _ _ h=>h) (.inl ⟨rfl,fun u hu=>(by go_simp<;>exact IntKind.wrap_u8 _)⟩) S6.out ?_
      refine U_take2 8 (i:=14) (v:=.int .u8 (nb.toNat:Nat)) rfl (by kernel_rfl) (by kernel_rfl) (by kernel_rfl) (by kernel_rfl) (by kernel_rfl) (fun _ _ _ h=>h) (.inl ⟨rfl,fun u hu=>(by go_simp<;>exact or_in2 HNE.out)⟩) S6.out ?_
      have fr6:=(HROW.out.on HB6.out).free J
      have cJ6:=S6.out.2.2.2
      refine U_step (j:=15) (by kernel_rfl) rfl (fun K hK=>?_)
      go_simp
      refine hK.out _ _ (.inl rfl) ?_
      clear hK K
      refine U_step (j:=16) (by kernel_rfl) rfl (fun K hK=>?_)
      go_simp
      refine hK.out _ _ (.inl rfl) ?_
      clear hK K
      refine U_done (by kernel_rfl) ?_ _
      have hset:o.getD J 0=ob:=by rw [List.getD_eq_getElem?_getD,HOB.out];rfl
      have HNB:=hid (show R=digE c N (i+1) t (o.set J nb) by
       rw [HNE.out,HO.out,if_pos hiN,← HSHE.out,← HJE.out,hset,Nat.shiftLeft_eq])
      have hrow:=(HROW.out.on HB6.out).set J nb
      have HROW6:=hid hrow
      have HF6:=hid (HFF.out.on HB6.out)
      clear S6 fr6 cJ6 hset hrow
      go_wp2
      go_roundg t.length
      case measure=>first | omega | simp
      case rel=>exact ⟨i+1,o.set J nb,t,by go_num,HA.out.tail,HROW6.out,by rw [List.length_set];exact hol,HNB.out,⟨(Below.heap_setCell _ _ _ _ (by show w.heap.size≠w3.heap.size;omega)).trans HF6.out.blk⟩,(HBL.out.trans (HB6.out.mono HBL.out.size)).setCell (Nat.le_refl _) _,rfl⟩
     ·have hiI:¬ ((i:Int)<(N:Int)):=by omega
      go_wp2_with ((with_reducible refine (HVF.out _).mono ?_);rintro e wr ⟨rfl,rfl⟩)
      go_roundg t.length
      case measure=>first | omega | simp
      case rel=>exact ⟨i+1,o,t,by go_num,HA.out.tail,HROW.out,hol,by rw [HO.out,if_neg hiN],HFF.out,HBL.out,rfl⟩
end Go.Proofs.YtihdndaibmgoiaaGreatDoor.Pz
namespace Go.Proofs.YtihdndaibmgoiaaGreatDoor.Pz
open Go.RowKit
def rpk (v:Value):Option (DataW Unit×List MemPlace):=match v with
 | .agg a=>match a.toList with
  | [.func (.func n) f c]=>if f.size=0∧c.size=0 then some (.lit (.int .i64 (n:Nat)),[]) else none
  | [.nilFunc]=>some (.lit (.int .i64 (-1)),[])
  | _=>none
 | _=>none
theorem rpk_inv {v:Value} {n:Nat} {ps:List MemPlace} (h:rpk v=some (.lit (.int .i64 (n:Nat)),ps)):v=.agg #[.func (.func n) #[] #[]]:=by
 unfold rpk at h
 split at h
 ·rename_i a
  split at h
  ·rename_i m f c he
   split at h
   ·rename_i hs
    simp only [Option.some.injEq,Prod.mk.injEq,DataW.lit.injEq,Lit.int.injEq,true_and] at h
    have hm:m=n:=Int.ofNat_inj.1 h.1
    subst hm
    have e1:f=#[]:=Array.eq_empty_of_size_eq_zero hs.1
    have e2:c=#[]:=Array.eq_empty_of_size_eq_zero hs.2
    subst e1
    subst e2
    have:a=#[.func (.func m) #[] #[]]:=by
     apply Array.ext'
     exact he
    rw [this]
   ·cases h
  ·simp only [Option.some.injEq,Prod.mk.injEq,DataW.lit.injEq,Lit.int.injEq,true_and] at h
   have h1:(-1:Int)=(n:Int):=h.1
   omega
  ·cases h
 ·cases h
def lettersT:Str:=[97,65,104,72,98,66]
def lettersN:Str:=[99,115,83,105,73,119,87]
def pkV (i j:Nat) (c:UInt8):Int:=if c∈lettersN.take j then 119 else if c∈lettersT.take i then 118 else -1
def PkMap (w:World) (b:Nat) (i j:Nat):Prop:=∃ D:DataW Unit,w.ownsMap Tryz.prog 5 rpk b (i+j) D∧Maps.IsMap D∧
 ∀ c:UInt8,D.atKey (.int .u8 (c.toNat:Nat)) (.lit (.int .i64 (-1)))=.lit (.int .i64 (pkV i j c))
theorem Tryz.keyedB:Maps.Keyed Tryz.prog 5:=Maps.int_keyed Tryz.underlying5
theorem Tryz.zeroPk (w:World):(zeroValue 84).run Tryz.prog w=.ok (.agg #[.nilFunc]) w:=by kernel_rfl
theorem key_u8 (c:UInt8):keyOf Tryz.prog 5 (.int .u8 (c.toNat:Nat))=some (.int .u8 (c.toNat:Nat)):=by
 exact Maps.keyOf_int_mk Tryz.underlying5 (WalkArith.wf_u8 ⟨by omega,by have:=c.toNat_lt;omega⟩)
theorem key_ne {c d:UInt8} (h:c≠d):(Lit.int .u8 (c.toNat:Nat))≠Lit.int .u8 (d.toNat:Nat):=by
 intro e
 simp only [Lit.int.injEq,true_and] at e
 exact h (UInt8.toNat_inj.1 (by omega))
theorem PkMap.of {w w':World} {b i j:Nat} (h:PkMap w b i j) (hb:w'.heap[b]? = w.heap[b]?):PkMap w' b i j:=by
 obtain ⟨D,⟨es,clock,h1,h2⟩,h3⟩:=h
 exact ⟨D,⟨es,clock,hb.trans h1,h2⟩,h3⟩
theorem PkMap.look {w:World} {b:Nat} (h:PkMap w b 6 7) (c:UInt8) (F:Nat) (hF:pkV 6 7 c=(F:Int)) :
  (Instr.lookup 73 (.map (some b)) (.int .u8 (c.toNat:Nat)) false).run Tryz.prog w=.ok (.agg #[.func (.func F) #[] #[]]) w:=by
 obtain ⟨D,ho,_,hat⟩:=h
 obtain ⟨v,ps,hrun,hv⟩:=ho.lookup Tryz.keyedB Tryz.underlying73 (Tryz.zeroPk w) (show rpk (.agg #[.nilFunc])=some (.lit (.int .i64 (-1)),[]) from rfl) (key_u8 c)
 rw [hat c,hF] at hv
 rw [hrun,rpk_inv hv]
theorem mem_take_succ {l:Str} {i:Nat} (h:i<l.length) (c:UInt8):c∈l.take (i+1)↔c∈l.take i∨c=l[i]:=by
 rw [List.take_add_one,List.getElem?_eq_getElem h,List.mem_append]
 show _∨c∈[l[i]]↔_
 rw [List.mem_singleton]
theorem pkV_0 (i:Nat) (c:UInt8):pkV i 0 c=if c∈lettersT.take i then 118 else -1:=if_neg (show ¬ c∈lettersN.take 0 from List.not_mem_nil)
theorem pkV_T {i:Nat} (hi:i<lettersT.length) (c:UInt8):pkV (i+1) 0 c=if c=lettersT[i] then 118 else pkV i 0 c:=by
  rw [pkV_0,pkV_0]
  by_cases h:c=lettersT[i]
  · rw [if_pos ((mem_take_succ hi c).2 (.inr h)),if_pos h]
  · rw [if_neg h]
    by_cases h2:c∈lettersT.take i
    · rw [if_pos h2,if_pos ((mem_take_succ hi c).2 (.inl h2))]
    · rw [if_neg h2, if_neg fun h3 => by
        rcases (mem_take_succ hi c).1 h3 with h4 | h4
        · exact h2 h4
        · exact h h4]
theorem pkV_N {j:Nat} (hj:j<lettersN.length) (c:UInt8):pkV 6 (j+1) c=if c=lettersN[j] then 119 else pkV 6 j c:=by
  unfold pkV
  by_cases h:c=lettersN[j]
  · rw [if_pos ((mem_take_succ hj c).2 (.inr h)),if_pos h]
  · rw [if_neg h]
    by_cases h2:c∈lettersN.take j
    · rw [if_pos h2,if_pos ((mem_take_succ hj c).2 (.inl h2))]
    · rw [if_neg h2, if_neg fun h3 => by
        rcases (mem_take_succ hj c).1 h3 with h4 | h4
        · exact h2 h4
        · exact h h4]
theorem PkMap.addT {w:World} {b i:Nat} {D:DataW Unit} (hi:i<lettersT.length) (hm:Maps.IsMap D) (hat:∀ c:UInt8,D.atKey (.int .u8 (c.toNat:Nat)) (.lit (.int .i64 (-1)))=.lit (.int .i64 (pkV i 0 c)))
  {x:UInt8} (hx:x=lettersT[i]) (ho:w.ownsMap Tryz.prog 5 rpk b (i+0+1) (D.put (.int .u8 (x.toNat:Nat)) (.lit (.int .i64 118)))):PkMap w b (i+1) 0:=by
 refine ⟨_,ho,hm.put _ _,fun c=>?_⟩
 rw [pkV_T hi]
 by_cases h:c=x
 ·subst h
  rw [Maps.atKey_put_same hm (show WideAt.IsKeyLit (.int .u8 (c.toNat:Nat)) from trivial),if_pos hx]
 ·rw [Maps.atKey_put_other (key_ne h),hat c,if_neg (by rw [← hx];exact h)]
theorem PkMap.addN {w:World} {b j:Nat} {D:DataW Unit} (hj:j<lettersN.length) (hm:Maps.IsMap D) (hat:∀ c:UInt8,D.atKey (.int .u8 (c.toNat:Nat)) (.lit (.int .i64 (-1)))=.lit (.int .i64 (pkV 6 j c)))
  {x:UInt8} (hx:x=lettersN[j]) (ho:w.ownsMap Tryz.prog 5 rpk b (6+j+1) (D.put (.int .u8 (x.toNat:Nat)) (.lit (.int .i64 119)))):PkMap w b 6 (j+1):=by
 refine ⟨_,ho,hm.put _ _,fun c=>?_⟩
 rw [pkV_N hj]
 by_cases h:c=x
 ·subst h
  rw [Maps.atKey_put_same hm (show WideAt.IsKeyLit (.int .u8 (c.toNat:Nat)) from trivial),if_pos hx]
 ·rw [Maps.atKey_put_other (key_ne h),hat c,if_neg (by rw [← hx];exact h)]
theorem letter_cell {w:World} {g:Nat} {l:Str} {fr:Nat×Nat} (h:w.heap[g]? = some (.cells (Lib.byteCells l).toArray 5 fr)) {i:Nat} (hi:i<l.length):w.cell? ⟨g,i,none⟩=some (.int .u8 (l[i].toNat:Nat)):=by
 unfold World.cell?
 rw [h]
 simp [Lib.byteCells,hi]
set_option maxRecDepth 100000 in
set_option maxHeartbeats 2000000 in
theorem packers_fn (w:World):Calls Tryz.prog 72 #[] w fun e w'=>∃ b,e=.returned (.map (some b))∧PkMap w' b 6 7∧Below w.heap.size w w'∧w.heap.size≤b:=by
 have hmm:=@run_makeMap Tryz.prog
 have kc:=fun (w:World) (C:Array Value) (n c:Nat)=>Lib.run_convert_bytes_const (P:=Tryz.prog) w 46 5 C n c Tryz.underlying46 Tryz.underlying5
 obtain ⟨w1,hw1⟩:∃ w1,w1=w.alloc (.map #[] 0):=⟨_,rfl⟩
 have hs1:w1.heap.size=w.heap.size+1:=by rw [hw1];simp
 have hm1:PkMap w1 w.heap.size 0 0:=by
  rw [hw1]
  exact ⟨_,World.ownsMap_made _ _ _ _,⟨[],rfl⟩,fun c=>by rw [pkV_0,if_neg (show ¬ c∈lettersT.take 0 from List.not_mem_nil)];rfl⟩
 have hb1:Below w.heap.size w w1:=by rw [hw1];exact (Below.refl _ _).alloc (Nat.le_refl _) _
 have HW1:=hid hw1
 have HM1:=hid hm1
 have HB1:=hid hb1
 have HS1:=hid hs1
 clear hw1 hm1 hb1 hs1
 have kc1:=kc (w.alloc (.map #[] 0)) #[.int .u8 97,.int .u8 65,.int .u8 104,.int .u8 72,.int .u8 98,.int .u8 66] 6 6
 simp only [World.size_alloc] at kc1
 go_enter Tryz.func72,Tryz.ntmps72
 go_wp2_with fail
 rw [← HW1.out]
 clear kc1
 obtain ⟨w2,hw2⟩:∃ w2,w2=w1.alloc (.cells #[.int .u8 97,.int .u8 65,.int .u8 104,.int .u8 72,.int .u8 98,.int .u8 66] 5 (6,7)):=⟨_,rfl⟩
 have hm2:PkMap w2 w.heap.size 0 0:=HM1.out.of (by rw [hw2];exact Below.heap_alloc _ _ _ (by rw [HS1.out];omega))
 have hr2:w2.heap[w.heap.size+1]? = some (.cells (Lib.byteCells lettersT).toArray 5 (6,7)):=by
  rw [hw2,← HS1.out]
  exact heap_alloc_new _ _
 have hb2:Below w.heap.size w w2:=by rw [hw2];exact HB1.out.alloc (by rw [HS1.out];omega) _
 have hz2:w2.heap.size=w.heap.size+1+1:=by rw [hw2];simp [HS1.out]
 rw [← hw2]
 have HM2:=hid hm2
 have HR2:=hid hr2
 have HB2:=hid hb2
 have HZ2:=hid hz2
 clear hw2 hm2 hr2 hb2 hz2
 go_loopg [10] 6 (fun k iv wr=>∃ i:Nat,iv=.int .i64 (i:Nat)∧i≤6∧PkMap wr w.heap.size i 0∧wr.heap[w.heap.size+1]? = some (.cells (Lib.byteCells lettersT).toArray 5 (6,7))∧Below w.heap.size w wr∧k=6-i)
 case atStart=>exact ⟨0,rfl,Nat.zero_le _,HM2.out,HR2.out,HB2.out,rfl⟩
 case round=>
  obtain ⟨i,rfl,hi6,hmp,hr,hbl,rfl⟩:=hrel
  have HMP:=hid hmp
  have HRR:=hid hr
  have HBL:=hid hbl
  have hwz:w.heap.size≤wr.heap.size:=hbl.size
  clear hmp hr hbl
  rcases Nat.lt_or_ge i 6 with hlt | hge
  ·have hil:i<lettersT.length:=hlt
   have hc:=letter_cell HRR.out hil
   obtain ⟨x,hx⟩:∃ x,x=lettersT[i]:=⟨_,rfl⟩
   rw [← hx] at hc
   have hltI:(i:Int)<6:=by omega
   obtain ⟨D,hown,hmD,hat⟩:=HMP.out
   have HX:=hid hx
   have HAT:=hid hat
   have HMD:=hid hmD
   have hkx:=key_u8 x
   clear hx hat hmD
   go_wp2_with (at_mapUpdate;refine wpList_mapUpdate_own _ rfl (.tmp 14) (.tmp 15) (.tmp 16) 73 rfl 5 84 Tryz.keyedB Tryz.underlying73 rpk w.heap.size (i+0) D rfl hown (by unfold maxLen;omega) (.int .u8 (x.toNat:Nat)) (.agg #[.func (.func 118) #[] #[]]) (.int .u8 (x.toNat:Nat)) rfl rfl hkx (.lit (.int .i64 118)) [] rfl ?_;intro w5 ho5 hg5;have HO5:=hid ho5;have HG5:=hid hg5;clear ho5 hg5)
   go_roundg (6-(i+1))
   case measure=>omega
   case rel=>exact ⟨i+1,by go_num,by omega,PkMap.addT hil HMD.out HAT.out HX.out HO5.out,(HG5.out.block _ (Array.getElem?_eq_some_iff.1 HRR.out).1 (by intro e;have:=Option.some.inj e;omega)).trans HRR.out,HBL.out.grown HG5.out hwz (fun k e=>by have:=Option.some.inj e;omega),rfl⟩
  ·obtain rfl:i=6:=by omega
   clear hi6 hge
   have kc2:=kc wr #[.int .u8 99,.int .u8 115,.int .u8 83,.int .u8 105,.int .u8 73,.int .u8 119,.int .u8 87] 7 7
   go_wp2_with fail
   clear kc2
   obtain ⟨w3,hw3⟩:∃ w3,w3=wr.alloc (.cells #[.int .u8 99,.int .u8 115,.int .u8 83,.int .u8 105,.int .u8 73,.int .u8 119,.int .u8 87] 5 (7,8)):=⟨_,rfl⟩
   have hr3:w3.heap[wr.heap.size]? = some (.cells (Lib.byteCells lettersN).toArray 5 (7,8)):=by
    rw [hw3]
    exact heap_alloc_new _ _
   have hml:w.heap.size<wr.heap.size:=by
    have:=(Array.getElem?_eq_some_iff.1 HRR.out).1
    omega
   have hm3:PkMap w3 w.heap.size 6 0:=HMP.out.of (by rw [hw3];exact Below.heap_alloc _ _ _ hml)
   have hb3:Below w.heap.size w w3:=by rw [hw3];exact HBL.out.alloc hwz _
   rw [← hw3]
   have HM3:=hid hm3
   have HR3:=hid hr3
   have HB3:=hid hb3
   clear hw3 hm3 hr3 hb3
   go_loopg [21] 7 (fun k iv wx=>∃ i:Nat,iv=.int .i64 (i:Nat)∧i≤7∧PkMap wx w.heap.size 6 i∧wx.heap[wr.heap.size]? = some (.cells (Lib.byteCells lettersN).toArray 5 (7,8))∧Below w.heap.size w wx∧k=7-i)
   case atStart=>exact ⟨0,rfl,Nat.zero_le _,HM3.out,HR3.out,HB3.out,rfl⟩
   case round=>
    rename_i wy _
    obtain ⟨i,rfl,hi7,hmp,hr,hbl,rfl⟩:=hrel
    have HMP:=hid hmp
    have HRR:=hid hr
    have HBL:=hid hbl
    have hwz:=hbl.size
    clear hmp hr hbl
    rcases Nat.lt_or_ge i 7 with hlt | hge
    ·have hil:i<lettersN.length:=hlt
     have hc:=letter_cell HRR.out hil
     obtain ⟨x,hx⟩:∃ x,x=lettersN[i]:=⟨_,rfl⟩
     rw [← hx] at hc
     have hltI:(i:Int)<7:=by omega
     obtain ⟨D,hown,hmD,hat⟩:=HMP.out
     have HX:=hid hx
     have HAT:=hid hat
     have HMD:=hid hmD
     have hkx:=key_u8 x
     clear hx hat hmD
     go_wp2_with (at_mapUpdate;refine wpList_mapUpdate_own _ rfl (.tmp 25) (.tmp 26) (.tmp 27) 73 rfl 5 84 Tryz.keyedB Tryz.underlying73 rpk w.heap.size (6+i) D rfl hown (by unfold maxLen;omega) (.int .u8 (x.toNat:Nat)) (.agg #[.func (.func 119) #[] #[]]) (.int .u8 (x.toNat:Nat)) rfl rfl hkx (.lit (.int .i64 119)) [] rfl ?_;intro w5 ho5 hg5;have HO5:=hid ho5;have HG5:=hid hg5;clear ho5 hg5)
     go_roundg (7-(i+1))
     case measure=>omega
     case rel=>exact ⟨i+1,by go_num,by omega,PkMap.addN hil HMD.out HAT.out HX.out HO5.out,(HG5.out.block _ (Array.getElem?_eq_some_iff.1 HRR.out).1 (by intro e;have:=Option.some.inj e;omega)).trans HRR.out,HBL.out.grown HG5.out hwz (fun k e=>by have:=Option.some.inj e;omega),rfl⟩
    ·obtain rfl:i=7:=by omega
     clear hi7 hge
     go_wp2
     go_ret
     exact ⟨_,rfl,HMP.out,HBL.out,Nat.le_refl _⟩
end Go.Proofs.YtihdndaibmgoiaaGreatDoor.Pz
