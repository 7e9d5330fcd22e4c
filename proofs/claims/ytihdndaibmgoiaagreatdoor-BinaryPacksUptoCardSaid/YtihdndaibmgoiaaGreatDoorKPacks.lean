/-
  Part KPacks of the proofs of this seat, merged by a program out of 3 texts; remarks are struck.
-/
import Derived.Ground.MpProg
import Derived.Shelf.Strings.Search3
import Derived.Shelf.LaysM
import Derived.Test.YtihdndaibmgoiaaGreatDoorProg
import Derived.Test.YtihdndaibmgoiaaGreatDoorCards
import Derived.Test.YtihdndaibmgoiaaGreatDoorTie
import Derived.Deep.DeepHandedRow
import Derived.ProofKit
import Derived.OpenShut
import Derived.Lay
import Derived.Deep.DeepWitnessRowRef
import Derived.Stop.LaidErr
import Derived.Lib.LaidTab
import Derived.Lib.LaidU8T
import Derived.MakeChecks
import Derived.ChangeMaps5
import Derived.SliceStrings
import Derived.Carry
import Derived.Shelf.Vars
import Derived.Test.YtihdndaibmgoiaaGreatDoorK21
import Derived.Test.YtihdndaibmgoiaaGreatDoorK20
namespace Go.Proofs.YtihdndaibmgoiaaGreatDoor.Pz
open Go.Shelf
def Tryz.lays144_ren:Go.Shelf.Ren:=⟨fun | 144=>54 | 143=>102 | 219=>142 | 217=>139 | 225=>170 | 224=>171 | 267=>172 | 266=>167 | 314=>189 | n=>n,fun | 9=>9 | 4=>4 | 3=>3 | 5=>5 | 46=>98 | 146=>192 | 51=>97 | n=>n,fun | 1=>2 | n=>n⟩
theorem Tryz.lays144:Go.Proofs.Lays.n144 Tryz.prog Tryz.lays144_ren:={
 mixed:=by kernel_rfl
 f143:=Tryz.func102.trans (congrArg some (by kernel_rfl))
 f144:=Tryz.func54.trans (congrArg some (by kernel_rfl))
 f217:=Tryz.func139.trans (congrArg some (by kernel_rfl))
 f219:=Tryz.func142.trans (congrArg some (by kernel_rfl))
 f224:=Tryz.func171.trans (congrArg some (by kernel_rfl))
 f225:=Tryz.func170.trans (congrArg some (by kernel_rfl))
 f266:=Tryz.func167.trans (congrArg some (by kernel_rfl))
 f267:=Tryz.func172.trans (congrArg some (by kernel_rfl))
 f314:=Tryz.func189.trans (congrArg some (by kernel_rfl))
 t3:=Tryz.underlying3
 a3:=Tryz.isAgg3
 z3:=Tryz.sizeOf3
 v3:=Tryz.zeroValue3
 t4:=Tryz.underlying4
 a4:=Tryz.isAgg4
 z4:=Tryz.sizeOf4
 v4:=Tryz.zeroValue4
 t5:=Tryz.underlying5
 a5:=Tryz.isAgg5
 z5:=Tryz.sizeOf5
 v5:=Tryz.zeroValue5
 t9:=Tryz.underlying9
 a9:=Tryz.isAgg9
 z9:=Tryz.sizeOf9
 v9:=Tryz.zeroValue9
 t46:=Tryz.underlying98
 a46:=Tryz.isAgg98
 z46:=Tryz.sizeOf98
 v46:=Tryz.zeroValue98
 t51:=Tryz.underlying97
 a51:=Tryz.isAgg97
 z51:=Tryz.sizeOf97
 v51:=Tryz.zeroValue97
 t146:=Tryz.underlying192
 a146:=Tryz.isAgg192
 z146:=Tryz.sizeOf192
 v146:=Tryz.zeroValue192
 g1:=by kernel_rfl }
open Go.RowKit Go.Lib in
theorem Tryz.strings_Contains_one (s:ByteArray) (c:UInt8) (w:World) :
  Calls Tryz.prog 54 #[.string s,.string ⟨#[c]⟩] w fun e w'=>e=.returned (.bool (decide (0≤Lib.indexByte s.data.toList c)))∧w'=w:=Any.strings_Contains_one Tryz.lays144 s c w
end Go.Proofs.YtihdndaibmgoiaaGreatDoor.Pz
namespace Go.Proofs.YtihdndaibmgoiaaGreatDoor.Pz
open Go.RowKit
attribute [local go_sem] Oper.semAt_some
theorem RowS.new1 (w:World) (y:Str):RowS w.heap.size (w.alloc (.cells #[.string ⟨y.toArray⟩] 9)) (.slice (some ⟨w.heap.size,0,none⟩) 1 1) [y]:=by
 refine ⟨by simp [strCells],.inr ⟨w.heap.size,1,_,rfl,Nat.le_refl _,heap_alloc_new _ _,Nat.le_refl _,by unfold maxLen;omega,rfl,?_⟩⟩
 simp [strCells]
set_option maxRecDepth 100000 in
set_option maxHeartbeats 8000000 in
theorem binaryPacks_fn (y:Str) (args:List Str) (va:Value) (w:World) (hva:StrsAt w va args) (hnil:∀ n c,va=.slice none n c→c=0) (hy:y.length≤4000000) (hsum:sumT args≤4000000) (hal:args.length≤4000000) (htab:Tab w) :
  Calls Tryz.prog 8 #[.string ⟨y.toArray⟩,va] w fun e w'=>e=.returned (.bool true)∧Below w.heap.size w w':=by
 obtain ⟨w0,hw0⟩:∃ w0,w0=w.alloc (.cells #[.string ⟨y.toArray⟩] 9):=⟨_,rfl⟩
 have HB0:=hid (show Below w.heap.size w w0 by rw [hw0];exact belowA _ _)
 have HR0:=hid (show RowS w.heap.size w0 (.slice (some ⟨w.heap.size,0,none⟩) 1 1) [y] by rw [hw0];exact RowS.new1 w y)
 have HZ0:=hid (show w.heap.size≤w0.heap.size by rw [hw0];simp)
 have HW0:=hid hw0
 have HVA:=hid hva
 have HV0:=hid (show StrsAt w0 va args from hva.below HB0.out)
 have HNIL:=hid hnil
 obtain ⟨bl,hbl⟩:∃ bl,bl=lightB 2500 ([y]++args):=⟨_,rfl⟩
 have HL:=hid (fun (u:World) (v:Value) (h:StrsAt u v ([y]++args))=>show Calls Tryz.prog 10 #[.int .i64 2500,v] u fun e w'=>e=.returned (.bool bl)∧w'=u by
  rw [hbl]
  exact light_fn 2500 h (by show y.length+sumT args≤10000000;omega) (by show args.length+1≤10000000;omega))
 have HA:=hid (fun u (hu:Tab u)=>awake_fn u hu)
 have HT:=hid htab
 have HLEN:=hid (show ([y]:List Str).length+args.length≤10000000 by show 1+args.length≤_;omega)
 clear htab hw0 hva hnil
 cases bl with
 | false=>
  clear hbl hy hsum hal
  go_enter Tryz.func8,Tryz.ntmps8
  go_wp2_with (first|(at_builtin;rw [← HW0.out];refine app_any rfl (.tmp 18) (.tmp 19) rfl w.heap.size _ va [y] args rfl HR0.out rfl HV0.out HNIL.out HZ0.out HLEN.out ?_;intro v1 w1 hr1 hg1 hv1;have HR1:=hid hr1.strs;have HB1:=hid (HB0.out.grown hg1 HZ0.out (fun k hk=>(HR0.out.lt k hk).2));have HV1:=hid (HVA.out.below HB1.out);clear hr1 hg1 hv1)|(go_at_call 10;(with_reducible refine (HL.out _ _ HR1.out).mono ?_);rintro e w2 ⟨rfl,hw2⟩;replace hw2:=hw2.symm;subst hw2)|(go_at_call 11;(with_reducible refine (HA.out _ (HT.out.below HB1.out)).mono ?_);rintro e w3 ⟨rfl,hb3⟩;have HB3:=hid (HB1.out.trans (hb3.mono HB1.out.size));clear hb3))
  go_ret
  exact ⟨rfl,HB3.out⟩
 | true=>
  have hs2:y.length+sumT args≤2500:=by
   have h:=hbl.symm
   unfold lightB at h
   rw [Bool.and_eq_true] at h
   have h2:((sumT ([y]++args):Nat):Int)≤2500:=of_decide_eq_true h.1
   have h3:sumT ([y]++args)=y.length+sumT args:=rfl
   omega
  have hl2:args.length≤60:=by
   have h:=hbl.symm
   unfold lightB at h
   rw [Bool.and_eq_true] at h
   have h2:([y]++args).length≤60:=of_decide_eq_true h.2
   have h3:([y]++args).length=args.length+1:=rfl
   omega
  have hx:∀ x∈args,x.length≤100000:=fun x hx=>by have:=sumT_mem args x hx;omega
  have h1:=fun u hu=>pack_fn y (by omega) args va u hu hx (by omega)
  have h2:=fun u hu=>packR_fn y (by omega) args va u hu hx (by omega)
  unfold PackQ at h1 h2
  have h3:=fun u=>fieldsF_fn y (by omega) u
  have h4:=fun u=>fieldsR_fn y (by omega) u
  have h5:=fun u=>lengthP_fn y (by omega) u
  have h6:=fun u=>lengthR_fn y (by omega) u
  obtain ⟨a,ha⟩:∃ a,a=(packRes y args).1:=⟨_,rfl⟩
  obtain ⟨z1,hz1⟩:∃ z1,z1=(packRes y args).2:=⟨_,rfl⟩
  obtain ⟨c,hc⟩:∃ c,c=(fieldsN y).1:=⟨_,rfl⟩
  obtain ⟨z2,hz2⟩:∃ z2,z2=(fieldsN y).2:=⟨_,rfl⟩
  obtain ⟨k,hk⟩:∃ k,k=(lengthRes y).1:=⟨_,rfl⟩
  obtain ⟨z3,hz3⟩:∃ z3,z3=(lengthRes y).2:=⟨_,rfl⟩
  obtain ⟨cn,hcn⟩:∃ cn,cn=decide (0≤Lib.indexByte y 64):=⟨_,rfl⟩
  have HLK:=hid (show z1=0→z3=0→cn=false→(a.length:Int)=k from fun e1 e3 e4=>by
   have h9:(64:UInt8) ∉ y:=by
    rw [hcn] at e4
    have h8:=of_decide_eq_false e4
    have h7:=Lib.indexByte_ge y 64
    intro hm
    obtain ⟨i,hi⟩:=List.getElem?_of_mem hm
    exact Lib.indexByte_none (show Lib.indexByte y 64 = -1 by omega) i hi
   rw [ha]
   exact packed_length (hz1.symm.trans e1) (show lengthRes y=(k,0) by rw [hk,← e3,hz3]) h9)
  rw [← ha,← hz1] at h1 h2
  rw [← hc,← hz2] at h3 h4
  rw [← hk,← hz3] at h5 h6
  have H1:=hid h1
  have H2:=hid h2
  have H3:=hid h3
  have H4:=hid h4
  have H5:=hid h5
  have H6:=hid h6
  have H7:=hid (show ∀ u,Calls Tryz.prog 54 #[.string ⟨y.toArray⟩,.string ⟨#[64]⟩] u fun e w'=>e=.returned (.bool cn)∧w'=u from fun u=>by rw [hcn];exact Tryz.strings_Contains_one ⟨y.toArray⟩ 64 u)
  have hasz:(⟨a.toArray⟩:ByteArray).size=a.length:=Lib.size_mk _
  clear hbl hy hsum hal hs2 hl2 hx h1 h2 h3 h4 h5 h6 ha hz1 hc hz2 hk hz3 hcn
  by_cases e1:z1=0
  ·by_cases e3:z3=0
   ·cases cn with
    | false=>
     have hak:=HLK.out e1 e3 rfl
     have hakb:((a.length:Int) == k)=true:=beq_iff_eq.2 hak
     subst e1 e3
     clear hak
     go_enter Tryz.func8,Tryz.ntmps8
     go_wp2_with (first|(at_builtin;rw [← HW0.out];refine app_any rfl (.tmp 18) (.tmp 19) rfl w.heap.size _ va [y] args rfl HR0.out rfl HV0.out HNIL.out HZ0.out HLEN.out ?_;intro v1 w1 hr1 hg1 hv1;have HR1:=hid hr1.strs;have HB1:=hid (HB0.out.grown hg1 HZ0.out (fun k hk=>(HR0.out.lt k hk).2));have HV1:=hid (HVA.out.below HB1.out);clear hr1 hg1 hv1)|(go_at_call 10;(with_reducible refine (HL.out _ _ HR1.out).mono ?_);rintro e w2 ⟨rfl,hw2⟩;replace hw2:=hw2.symm;subst hw2)|(go_at_call 20;(with_reducible refine (H1.out _ (HVA.out.below HB1.out)).mono ?_);rintro e w3 ⟨rfl,hb2⟩;have HB2:=hid (HB1.out.trans (hb2.mono HB1.out.size));clear hb2)|(go_at_call 49;(with_reducible refine (H2.out _ (HVA.out.below HB2.out)).mono ?_);rintro e w4 ⟨rfl,hb3⟩;have HB3:=hid (HB2.out.trans (hb3.mono HB2.out.size));clear hb3)|(go_at_call 50;(with_reducible refine (H3.out _ ).mono ?_);rintro e w5 ⟨rfl,hb4⟩;have HB4:=hid (HB3.out.trans (hb4.mono HB3.out.size));clear hb4)|(go_at_call 51;(with_reducible refine (H4.out _ ).mono ?_);rintro e w6 ⟨rfl,hb5⟩;have HB5:=hid (HB4.out.trans (hb5.mono HB4.out.size));clear hb5)|(go_at_call 52;(with_reducible refine (H5.out _ ).mono ?_);rintro e w7 ⟨rfl,hb6⟩;have HB6:=hid (HB5.out.trans (hb6.mono HB5.out.size));clear hb6)|(go_at_call 53;(with_reducible refine (H6.out _ ).mono ?_);rintro e w8 ⟨rfl,hb7⟩;have HB7:=hid (HB6.out.trans (hb7.mono HB6.out.size));clear hb7)|(go_at_call 54;(with_reducible refine (H7.out _).mono ?_);rintro e w19 ⟨rfl,hw19⟩;replace hw19:=hw19.symm;subst hw19)|(go_at_call 11;(with_reducible refine (HA.out _ (HT.out.below HB7.out)).mono ?_);rintro e w20 ⟨rfl,hb20⟩;have HB20:=hid (HB7.out.trans (hb20.mono HB7.out.size));clear hb20))
     go_ret
     exact ⟨rfl,HB20.out⟩
    | true=>
     subst e1 e3
     go_enter Tryz.func8,Tryz.ntmps8
     go_wp2_with (first|(at_builtin;rw [← HW0.out];refine app_any rfl (.tmp 18) (.tmp 19) rfl w.heap.size _ va [y] args rfl HR0.out rfl HV0.out HNIL.out HZ0.out HLEN.out ?_;intro v1 w1 hr1 hg1 hv1;have HR1:=hid hr1.strs;have HB1:=hid (HB0.out.grown hg1 HZ0.out (fun k hk=>(HR0.out.lt k hk).2));have HV1:=hid (HVA.out.below HB1.out);clear hr1 hg1 hv1)|(go_at_call 10;(with_reducible refine (HL.out _ _ HR1.out).mono ?_);rintro e w2 ⟨rfl,hw2⟩;replace hw2:=hw2.symm;subst hw2)|(go_at_call 20;(with_reducible refine (H1.out _ (HVA.out.below HB1.out)).mono ?_);rintro e w3 ⟨rfl,hb2⟩;have HB2:=hid (HB1.out.trans (hb2.mono HB1.out.size));clear hb2)|(go_at_call 49;(with_reducible refine (H2.out _ (HVA.out.below HB2.out)).mono ?_);rintro e w4 ⟨rfl,hb3⟩;have HB3:=hid (HB2.out.trans (hb3.mono HB2.out.size));clear hb3)|(go_at_call 50;(with_reducible refine (H3.out _ ).mono ?_);rintro e w5 ⟨rfl,hb4⟩;have HB4:=hid (HB3.out.trans (hb4.mono HB3.out.size));clear hb4)|(go_at_call 51;(with_reducible refine (H4.out _ ).mono ?_);rintro e w6 ⟨rfl,hb5⟩;have HB5:=hid (HB4.out.trans (hb5.mono HB4.out.size));clear hb5)|(go_at_call 52;(with_reducible refine (H5.out _ ).mono ?_);rintro e w7 ⟨rfl,hb6⟩;have HB6:=hid (HB5.out.trans (hb6.mono HB5.out.size));clear hb6)|(go_at_call 53;(with_reducible refine (H6.out _ ).mono ?_);rintro e w8 ⟨rfl,hb7⟩;have HB7:=hid (HB6.out.trans (hb7.mono HB6.out.size));clear hb7)|(go_at_call 54;(with_reducible refine (H7.out _).mono ?_);rintro e w19 ⟨rfl,hw19⟩;replace hw19:=hw19.symm;subst hw19)|(go_at_call 11;(with_reducible refine (HA.out _ (HT.out.below HB7.out)).mono ?_);rintro e w20 ⟨rfl,hb20⟩;have HB20:=hid (HB7.out.trans (hb20.mono HB7.out.size));clear hb20))
     go_ret
     exact ⟨rfl,HB20.out⟩
   ·have n3:(z3 != 0)=true:=bne_iff_ne.2 e3
    have n33:(z3 == 0)=false:=beq_eq_false_iff_ne.2 e3
    subst e1
    clear e3
    go_enter Tryz.func8,Tryz.ntmps8
    go_wp2_with (first|(at_builtin;rw [← HW0.out];refine app_any rfl (.tmp 18) (.tmp 19) rfl w.heap.size _ va [y] args rfl HR0.out rfl HV0.out HNIL.out HZ0.out HLEN.out ?_;intro v1 w1 hr1 hg1 hv1;have HR1:=hid hr1.strs;have HB1:=hid (HB0.out.grown hg1 HZ0.out (fun k hk=>(HR0.out.lt k hk).2));have HV1:=hid (HVA.out.below HB1.out);clear hr1 hg1 hv1)|(go_at_call 10;(with_reducible refine (HL.out _ _ HR1.out).mono ?_);rintro e w2 ⟨rfl,hw2⟩;replace hw2:=hw2.symm;subst hw2)|(go_at_call 20;(with_reducible refine (H1.out _ (HVA.out.below HB1.out)).mono ?_);rintro e w3 ⟨rfl,hb2⟩;have HB2:=hid (HB1.out.trans (hb2.mono HB1.out.size));clear hb2)|(go_at_call 49;(with_reducible refine (H2.out _ (HVA.out.below HB2.out)).mono ?_);rintro e w4 ⟨rfl,hb3⟩;have HB3:=hid (HB2.out.trans (hb3.mono HB2.out.size));clear hb3)|(go_at_call 50;(with_reducible refine (H3.out _ ).mono ?_);rintro e w5 ⟨rfl,hb4⟩;have HB4:=hid (HB3.out.trans (hb4.mono HB3.out.size));clear hb4)|(go_at_call 51;(with_reducible refine (H4.out _ ).mono ?_);rintro e w6 ⟨rfl,hb5⟩;have HB5:=hid (HB4.out.trans (hb5.mono HB4.out.size));clear hb5)|(go_at_call 52;(with_reducible refine (H5.out _ ).mono ?_);rintro e w7 ⟨rfl,hb6⟩;have HB6:=hid (HB5.out.trans (hb6.mono HB5.out.size));clear hb6)|(go_at_call 53;(with_reducible refine (H6.out _ ).mono ?_);rintro e w8 ⟨rfl,hb7⟩;have HB7:=hid (HB6.out.trans (hb7.mono HB6.out.size));clear hb7)|(go_at_call 54;(with_reducible refine (H7.out _).mono ?_);rintro e w19 ⟨rfl,hw19⟩;replace hw19:=hw19.symm;subst hw19)|(go_at_call 11;(with_reducible refine (HA.out _ (HT.out.below HB7.out)).mono ?_);rintro e w20 ⟨rfl,hb20⟩;have HB20:=hid (HB7.out.trans (hb20.mono HB7.out.size));clear hb20))
    go_ret
    exact ⟨rfl,HB20.out⟩
  ·have n1:(z1 != 0)=true:=bne_iff_ne.2 e1
   have n11:(z1 == 0)=false:=beq_eq_false_iff_ne.2 e1
   clear e1
   go_enter Tryz.func8,Tryz.ntmps8
   go_wp2_with (first|(at_builtin;rw [← HW0.out];refine app_any rfl (.tmp 18) (.tmp 19) rfl w.heap.size _ va [y] args rfl HR0.out rfl HV0.out HNIL.out HZ0.out HLEN.out ?_;intro v1 w1 hr1 hg1 hv1;have HR1:=hid hr1.strs;have HB1:=hid (HB0.out.grown hg1 HZ0.out (fun k hk=>(HR0.out.lt k hk).2));have HV1:=hid (HVA.out.below HB1.out);clear hr1 hg1 hv1)|(go_at_call 10;(with_reducible refine (HL.out _ _ HR1.out).mono ?_);rintro e w2 ⟨rfl,hw2⟩;replace hw2:=hw2.symm;subst hw2)|(go_at_call 20;(with_reducible refine (H1.out _ (HVA.out.below HB1.out)).mono ?_);rintro e w3 ⟨rfl,hb2⟩;have HB2:=hid (HB1.out.trans (hb2.mono HB1.out.size));clear hb2)|(go_at_call 49;(with_reducible refine (H2.out _ (HVA.out.below HB2.out)).mono ?_);rintro e w4 ⟨rfl,hb3⟩;have HB3:=hid (HB2.out.trans (hb3.mono HB2.out.size));clear hb3)|(go_at_call 50;(with_reducible refine (H3.out _ ).mono ?_);rintro e w5 ⟨rfl,hb4⟩;have HB4:=hid (HB3.out.trans (hb4.mono HB3.out.size));clear hb4)|(go_at_call 51;(with_reducible refine (H4.out _ ).mono ?_);rintro e w6 ⟨rfl,hb5⟩;have HB5:=hid (HB4.out.trans (hb5.mono HB4.out.size));clear hb5)|(go_at_call 52;(with_reducible refine (H5.out _ ).mono ?_);rintro e w7 ⟨rfl,hb6⟩;have HB6:=hid (HB5.out.trans (hb6.mono HB5.out.size));clear hb6)|(go_at_call 53;(with_reducible refine (H6.out _ ).mono ?_);rintro e w8 ⟨rfl,hb7⟩;have HB7:=hid (HB6.out.trans (hb7.mono HB6.out.size));clear hb7)|(go_at_call 54;(with_reducible refine (H7.out _).mono ?_);rintro e w19 ⟨rfl,hw19⟩;replace hw19:=hw19.symm;subst hw19)|(go_at_call 11;(with_reducible refine (HA.out _ (HT.out.below HB7.out)).mono ?_);rintro e w20 ⟨rfl,hb20⟩;have HB20:=hid (HB7.out.trans (hb20.mono HB7.out.size));clear hb20))
   go_ret
   exact ⟨rfl,HB20.out⟩
end Go.Proofs.YtihdndaibmgoiaaGreatDoor.Pz
namespace Go.Proofs.YtihdndaibmgoiaaGreatDoor.binaryPacks
open Go.ChangeMaps Go.ChangeShapes Go.WideShapes Go.ChangeAt Go.RowKit
theorem own:ownKnob Tryz.prog.godebug=none:=by kernel_rfl
section
variable {H:Type} {enc:TypeId×Value→H}
theorem post_rows {f:Func} {s:ChangeSpec} {W W':World} {args:Array Value} {v:Value} {ds gs:List (DataW H)} {before pa:List MemPlace}
  (hW:DataW.Whole enc Tryz.prog f.params.toList s.vars false W args.toList ds gs before)
  (hres:∀ (b:Nat) (sp:Nat→Bool) (hd:Bool),DataW.TrodAll enc Tryz.prog W' b sp hd f.resultTypes.toList (v.resultList f.resultTypes.size) (s.fn H (ds++gs)).results [])
  (hargs:DataW.TrodAll enc Tryz.prog W' 0 (fun b=>decide (b<W.heap.size)) true f.params.toList args.toList (s.fn H (ds++gs)).args pa)
  (hvars:∀ sp:Nat→Bool,DataW.TrodVars enc Tryz.prog W' sp s.vars (s.fn H (ds++gs)).vars []) (hb:Below W.heap.size W W') :
  s.post enc Tryz.prog f false true false false W args v W':=
 ⟨ds,gs,before,[],pa,[],hW,hres _ _ _,hargs,hvars _,hb.frame _,fun h=>by cases h⟩
theorem laidOut:laidOutB Tryz.prog=true:=by kernel_rfl
end
theorem tab_of {W:World} (hl:laidMetH Tryz.prog Rows.binaryPacksUptoRow.laid W):Pz.Tab W:=by
 rw [MakeChecks.laidMetH_plain _ _ _ (by kernel_rfl)] at hl
 have h3:=hl.tail.tail
 have e:(Rows.laid_internal_strconv_uint64pow10:DataW Unit)=Lib.tabData .u64 Lib.pow10Tab:=by kernel_rfl
 have h4:laidMet Tryz.prog (("internal/strconv.uint64pow10",Lib.tabData .u64 Lib.pow10Tab)::[("unicode/utf8.acceptRanges",Rows.laid_unicode_utf8_acceptRanges),("strconv.ErrRange",Rows.laid_strconv_ErrRange),("strconv.ErrSyntax",Rows.laid_strconv_ErrSyntax),("unicode.CaseRanges",Rows.laid_unicode_CaseRanges),("unicode/utf8.first",Rows.laid_unicode_utf8_first)]) W:=by
  rw [← e];exact h3
 exact Lib.tabIs_of_head (g:=4) (t:=195) (e:=44) (n:=20) (by kernel_rfl) (by kernel_rfl) (by kernel_rfl) (by kernel_rfl) (by kernel_rfl) (by kernel_rfl) h4
theorem contract (H:Type) (enc:TypeId×Value→H) (W:World) (base:Nat) (args:Array Value) (ds gs:List (DataW H)) (before:List MemPlace)
  (hval:∀ (j:Nat) t v,Tryz.f8.params[j]? = some t→args[j]? = some v→Value.okWide Tryz.prog W .any base t v)
  (hW:DataW.Whole enc Tryz.prog Tryz.f8.params.toList Rows.binaryPacksSpec.vars false W args.toList ds gs before) (hk:Rows.uptoSmall H (ds++gs)=true) (hl:laidMetH Tryz.prog Rows.binaryPacksUptoRow.laid W) :
  Calls Tryz.prog 8 args W fun e W'=>∃ v,e=.returned v∧Rows.binaryPacksSpec.post enc Tryz.prog Tryz.f8 false true false false W args v W':=by
 have hW':=hW
 obtain ⟨p,q,hA0,hV,rfl,hfz,hnd⟩:=hW
 have hA:DataW.TrodAll enc Tryz.prog W 0 (fun _=>true) true Tryz.f8.params.toList args.toList ds p:=hA0
 rw [Tryz.params8] at hA hval
 obtain ⟨v0,vs0,d0,ds0,p0,q0,hargs,rfl,rfl,h0,r0⟩:=trodAll_cons hA
 obtain ⟨v1,vs1,d1,ds1,p1,q1,rfl,rfl,rfl,h1,r1⟩:=trodAll_cons r0
 obtain ⟨rfl,rfl,rfl⟩:=trodAll_nil r1
 obtain rfl:args=#[v0,v1]:=by cases args;simp_all
 obtain ⟨rfl,rfl⟩:=trodVars_none hV
 obtain ⟨s0,rfl,rfl,rfl,m0⟩:=open_string Tryz.underlying9 (by with_reducible exact hval 0 9 v0 (by simp) (by simp)) h0
 clear hA0
 simp only [List.append_nil,List.nil_append] at hW' hk
 have hlt1:∀ x∈p1,x.block<W.heap.size:=fun x hx=>by simpa using hW'.lt x (by simp [hx])
 obtain ⟨l1,hl1,hb1,hn1⟩:=Opn.opened_strs (P:=Tryz.prog) Tryz.underlying22 Tryz.underlying9 (by kernel_rfl) (by with_reducible exact hval 1 22 v1 (by simp) (by simp)) h1 hlt1
 have hz1:=Opn.opened_nil (P:=Tryz.prog) Tryz.underlying22 Tryz.underlying9 (by kernel_rfl) (by with_reducible exact hval 1 22 v1 (by simp) (by simp)) h1
 have e0:s0=⟨s0.data.toList.toArray⟩:=by cases s0;simp
 have q0:s0.data.toList.length≤9223372036854775807:=by
  have h1:s0.data.toList.length=s0.size:=by rw [Array.length_toList];rfl
  have h2:=m0
  unfold maxLen at h2
  omega
 have hk:=of_decide_eq_true hk
 simp only [Rows.uptoBulkAll,Rows.uptoBulk] at hk
 have htab:=tab_of hl
 have walk:=Pz.binaryPacks_fn s0.data.toList l1 _ W hl1 hz1 (by omega) (by omega) (by omega) htab
 rw [← e0] at walk
 refine walk.mono fun e W' ⟨he,hg⟩=>?_
 subst he
 exact ⟨_,rfl,post_rows hW' (fun _ _ _=>trodAll_cons_mk (shut_bool Tryz.underlying4 _) trodAll_mk0) (trodAll_cons_mk (shut_string Tryz.underlying9 m0) (trodAll_cons_mk (Below.trod laidOut (by kernel_rfl) (of_decide_eq_true (by kernel_rfl)) h1 hg hlt1) (trodAll_mk0))) (fun _=>rfl) hg⟩
theorem reads (os:Os) {H:Type} (enc:TypeId×Value→H):∃ places,DataW.whole enc Tryz.prog ((World.laidAll Tryz.prog os Rows.binaryPacksUptoRow.laid).forCall (fun _ _=>0) ⟨#[],#[.string .empty,.slice none 0 0],[]⟩).memory Tryz.f8.params.toList Rows.binaryPacksSpec.vars false (#[.string .empty,.slice none 0 0]:Array Value).toList 8=some ([.lit (.string []),.nil],[],places):=
 ⟨[],by kernel_rfl⟩
set_option maxRecDepth 100000 in
theorem lifted (os:Os) (started:os.Started) (H:Type) (enc:TypeId×Value→H) (F:Stop.Interp) :
  ReturnsInHanded {} Tryz.checked os 8 .any ((Rows.OpenSpec.upto Rows.binaryPacksSpec).preRow enc Tryz.prog Tryz.f8 Rows.binaryPacksUptoRow.domain false Rows.binaryPacksUptoRow.laid) (((Rows.OpenSpec.upto Rows.binaryPacksSpec).at F).post enc Tryz.prog Tryz.f8 false true false false):=by
 obtain ⟨places,hx⟩:=reads os enc
 have hl:laidMetH Tryz.prog Rows.binaryPacksUptoRow.laid ((World.laidAll Tryz.prog os Rows.binaryPacksUptoRow.laid).forCall (fun _ _=>0) ⟨#[],#[.string .empty,.slice none 0 0],[]⟩).memory:=by
  rw [MakeChecks.laidMetH_plain _ _ _ (by kernel_rfl)]
  exact laidMet_laidAll _ (by kernel_rfl) (by kernel_rfl)
 refine returnsInHanded_of_row (C:=Tryz.checked) (s:=(Rows.OpenSpec.upto Rows.binaryPacksSpec)) own started (by kernel_rfl) Tryz.func8
  (witness_row_atRef (enc:=enc) (C:=Tryz.checked) false (World.laidAll Tryz.prog os Rows.binaryPacksUptoRow.laid) #[.string .empty,.slice none 0 0] (World.laidAll_os _ _ _) (by kernel_rfl) (by kernel_rfl) (by kernel_rfl)
   (OpenSpec.preRow_of_cond 8 hx (by kernel_rfl) (fun k hk=>by cases hk;kernel_rfl) (by kernel_rfl) hl)) ?_
 intro W base args ds gs before hval hW _ hcond _ hlaid _ _
 exact contract H enc W base args ds gs before hval hW (hcond _ rfl) hlaid
theorem said:Rows.BinaryPacksUptoSaid:=
 OpenClaim.holds_of_cond 8 Tryz.f8 rfl rfl rfl rfl rfl rfl rfl ⟨rfl,rfl,rfl,rfl,rfl⟩ rfl rfl rfl rfl rfl (by kernel_rfl) Tryz.func8 (by kernel_rfl)
  (of_decide_eq_true (by kernel_rfl)) (by unfold Func.isWrapper;first|(rw [if_pos (by decide +kernel)];kernel_rfl)|(rw [if_neg (by decide +kernel)];exact ⟨rfl,rfl⟩))
  (fun os started H enc _ F=>by rw [OpenClaim.pre_eq_preRow];exact lifted os started H enc F)
theorem plain (f:FuncId) (fn:Func) (hf:Tryz.pinned.checked.prog.funcNamed "threadbare/threadbarelaw10.BinaryPacks" = some f) (hfn:Tryz.pinned.checked.prog.funcs[f]? = some fn) :
  true=Tryz.pinned.checked.prog.looks []∧∀ (j:Nat) t,fn.params[j]? = some t→Tryz.pinned.checked.prog.wantsStandIn t=false:=by
 obtain rfl:f=8:=Option.some.inj ((show Tryz.prog.funcNamed "threadbare/threadbarelaw10.BinaryPacks" = some 8 by kernel_rfl).symm.trans hf) |>.symm
 obtain rfl:fn=Tryz.f8:=(Option.some.inj (Tryz.func8.symm.trans hfn)).symm
 refine ⟨by kernel_rfl,fun j t ht=>?_⟩
 rw [Tryz.params8] at ht
 have ht:=Array.mem_of_getElem? ht
 simp at ht
 rcases ht with rfl | rfl
 ·exact (show Tryz.prog.wantsStandIn 9=false by kernel_rfl)
 ·exact (show Tryz.prog.wantsStandIn 22=false by kernel_rfl)
theorem card:Rows.BinaryPacksUptoCardSaid:=
 Claim7.holds_tied_plain_at .later [] _ _ _ _ said (fun _ h=>by cases h) (by kernel_rfl) (fun _ h=>by cases h) binaryPacksUpto_row_tie rfl ⟨rfl,rfl⟩ (by kernel_rfl) rfl plain (by kernel_rfl)
end Go.Proofs.YtihdndaibmgoiaaGreatDoor.binaryPacks
