/-
  Part K20 of the proofs of this seat, merged by a program out of 3 texts; remarks are struck.
-/
import Derived.Lib.Replace
import Derived.Test.YtbilphfbfnohmaaGreatDoorK19
import Derived.Test.YtbilphfbfnohmaaGreatDoorK17
import Derived.Test.YtbilphfbfnohmaaGreatDoorK11
namespace Go.Proofs.YtbilphfbfnohmaaGreatDoor.Pz
open Go.RowKit
def markE (mark:Str) (every:Int):Int:=if mark=[]∨0≤Lib.indexAny mark digC then 1 else if 1≤every∧every≤100 then 0 else 7
def grpD (mark:Str) (k:Nat):Bool→Str→Str
 | _,[]=>[]
 | first,c::t=>(if first=false∧(t.length+1) % k=0 then mark else [])++c::grpD mark k false t
def sgnG (s:Str):Str:=if s.head? = some 45 then [45] else []
def bodyG (s:Str):Str:=if s.head? = some 45 then s.tail else s
theorem sgn_body (s:Str):sgnG s++bodyG s=s:=by
 unfold sgnG bodyG
 split
 ·rename_i h
  cases s with
  | nil=>cases h
  | cons c t=>
   rw [Option.some.inj h]
   rfl
 ·rfl
def groupE (n mark:Str) (every:Int):Str×Int:=
 if markE mark every≠0 then ([],markE mark every) else if (canRes n).2≠0 then ([],(canRes n).2) else (sgnG (canRes n).1++grpD mark every.toNat true (bodyG (canRes n).1),0)
def ungE (s mark:Str) (every:Int):Str×Int:=
 if markE mark every≠0 then ([],markE mark every)
 else if canRes (Lib.replaceAll s mark [])=(Lib.replaceAll s mark [],0)∧(groupE (Lib.replaceAll s mark []) mark every).1=s then (Lib.replaceAll s mark [],0) else ([],2)
theorem markE_ok {mark:Str} {every:Int} (h:markE mark every=0):mark≠[]∧(∀ c∈mark,digC.contains c=false)∧1≤every∧every≤100:=by
 unfold markE at h
 split at h
 ·exact absurd h (by decide)
 ·rename_i h1
  split at h
  ·rename_i h2
   refine ⟨fun e=>h1 (.inl e),fun c hc=>?_,h2⟩
   obtain ⟨i,hi,e⟩:=List.getElem_of_mem hc
   cases hcon:digC.contains c with
   | false=>rfl
   | true=>
    exfalso
    apply h1
    right
    have h3:¬ Lib.indexAny mark digC = -1:=by
     intro h4
     have h5:∀ (l:Str),Lib.indexAny l digC = -1→∀ x∈l,digC.contains x=false:=by
      intro l
      induction l with
      | nil=>intro _ x hx;cases hx
      | cons y t ih=>
       intro h6 x hx
       rw [Lib.indexAny] at h6
       cases hy:digC.contains y with
       | true=>rw [hy,if_pos rfl] at h6;exact absurd h6 (by decide)
       | false=>
        rw [hy,if_neg (by decide)] at h6
        rcases List.mem_cons.1 hx with rfl | hx
        ·exact hy
        ·have h8:=Lib.indexAny_ge digC t
         by_cases h7:Lib.indexAny t digC = -1
         ·exact ih h7 x hx
         ·rw [if_neg (by rw [beq_iff_eq];exact h7)] at h6
          omega
     rw [h5 mark h4 c hc] at hcon
     cases hcon
    have:=Lib.indexAny_ge digC mark
    omega
  ·exact absurd h (by decide)
theorem markE_two (mark:Str) (every:Int):(markE mark every=1∧(mark=[]∨(mark≠[]∧0≤Lib.indexAny mark digC)))∨(mark≠[]∧¬ 0≤Lib.indexAny mark digC∧((markE mark every=7∧¬ (1≤every∧every≤100))∨(markE mark every=0∧1≤every∧every≤100))):=by
 unfold markE
 by_cases h0:mark=[]
 ·exact .inl ⟨if_pos (.inl h0),.inl h0⟩
 ·by_cases h1:0≤Lib.indexAny mark digC
  ·exact .inl ⟨if_pos (.inr h1),.inr ⟨h0,h1⟩⟩
  ·rw [if_neg (fun h=>h.elim h0 h1)]
   by_cases h2:1≤every∧every≤100
   ·exact .inr ⟨h0,h1,.inr ⟨if_pos h2,h2⟩⟩
   ·exact .inr ⟨h0,h1,.inl ⟨if_neg h2,h2⟩⟩
inductive Inter (mark:Str):Str→Str→Prop
 | nil:Inter mark [] []
 | dig {c:UInt8} {a b:Str} (hc:digC.contains c=true) (h:Inter mark a b):Inter mark (c::a) (c::b)
 | mrk {a b:Str} (h:Inter mark a b):Inter mark (mark++a) b
section
variable {mark:Str} (h0:mark≠[]) (hm:∀ c∈mark,digC.contains c=false)
include h0 hm
theorem inter_index {a b:Str} (h:Inter mark a b):(Lib.index a mark = -1∧a=b)∨∃ p r b',a=p++(mark++r)∧Lib.index a mark=(p.length:Nat)∧b=p++b'∧Inter mark r b':=by
 induction h with
 | nil=>
  refine .inl ⟨?_,rfl⟩
  rw [Lib.index]
  cases mark with
  | nil=>exact absurd rfl h0
  | cons x t=>rfl
 | dig hc h ih=>
  rename_i c a b
  have hp:mark.isPrefixOf (c::a)=false:=by
   cases hmm:mark with
   | nil=>exact absurd hmm h0
   | cons x t=>
    have hx:=hm x (by rw [hmm];simp)
    have:x≠c:=by rintro rfl;rw [hc] at hx;cases hx
    simp [List.isPrefixOf,this]
  rcases ih with ⟨h1,h2⟩ | ⟨p,r,b',h1,h2,h3,h4⟩
  ·exact .inl ⟨by rw [Lib.index,hp,h1];rfl,by rw [h2]⟩
  ·refine .inr ⟨c::p,r,b',by rw [h1];rfl,?_,by rw [h3];rfl,h4⟩
   rw [Lib.index,hp,h2,if_neg (by decide),if_neg (by rw [beq_iff_eq];omega),List.length_cons]
   omega
 | mrk h ih=>
  rename_i a b
  refine .inr ⟨[],a,b,rfl,?_,rfl,h⟩
  cases hmm:mark with
  | nil=>exact absurd hmm h0
  | cons x t=>
   show Lib.index (x::(t++a)) (x::t)=0
   rw [Lib.index,if_pos]
   rw [List.isPrefixOf_iff_prefix]
   exact ⟨a,rfl⟩
theorem inter_replace:∀ (f:Nat) {a b:Str},Inter mark a b→a.length<f→Lib.replaceK mark [] (Lib.countFrom mark f a) a=b
 | 0,_,_,_,h=>absurd h (Nat.not_lt_zero _)
 | f+1,a,b,h,hf=>by
  rw [Lib.countFrom]
  rcases inter_index h0 hm h with ⟨h1,h2⟩ | ⟨p,r,b',h1,h2,h3,h4⟩
  ·rw [h1,if_pos (by decide),Lib.replaceK,h2]
  ·rw [h2,if_neg (by rw [beq_iff_eq];omega),Nat.add_comm,Lib.replaceK_hit _ _ _ _ _ h2,Int.toNat_natCast]
   have hl:0<mark.length:=List.length_pos_iff.2 h0
   have hd:a.drop (p.length+mark.length)=r:=by
    rw [h1,← List.drop_drop,List.drop_left,List.drop_left]
   rw [hd,inter_replace f h4 (by rw [h1] at hf;simp only [List.length_append] at hf;omega),h3,h1,List.take_left,List.append_nil]
theorem inter_all {a b:Str} (h:Inter mark a b):Lib.replaceAll a mark []=b:=by
 unfold Lib.replaceAll Lib.replace
 rw [if_neg (by rw [beq_iff_eq];exact h0)]
 have:Lib.replaceNum a mark (-1)=Lib.count a mark:=by
  unfold Lib.replaceNum
  rw [if_pos (.inl (by omega))]
 rw [this]
 exact inter_replace h0 hm _ h (Nat.lt_succ_self _)
end
theorem grpD_inter (mark:Str) (k:Nat):∀ (first:Bool) (l:Str),(∀ c∈l,digC.contains c=true)→Inter mark (grpD mark k first l) l
 | _,[],_=>by rw [grpD];exact .nil
 | first,c::t,h=>by
  have ih:=grpD_inter mark k false t fun x hx=>h x (List.mem_cons_of_mem _ hx)
  have h1:=Inter.dig (h c (by simp)) ih
  rw [grpD]
  split
  ·exact .mrk h1
  ·exact h1
theorem grpD_len (mark:Str) (k:Nat):∀ (first:Bool) (l:Str),(grpD mark k first l).length≤l.length*(mark.length+1)
 | _,[]=>by rw [grpD];exact Nat.zero_le _
 | first,c::t=>by
  have ih:=grpD_len mark k false t
  rw [grpD,List.length_append,List.length_cons,List.length_cons,Nat.add_mul]
  split
  ·omega
  ·simp only [List.length_nil];omega
theorem txt_dig (z:Int):∀ c∈txt z,digC.contains c=true:=by
 intro c hc
 have h9:∀ n,n<256→valOf (UInt8.ofNat n)<10→digC.contains (UInt8.ofNat n)=true:=by decide +kernel
 have h10:∀ c:UInt8,valOf c<10→digC.contains c=true:=fun c h=>by
  have:=h9 c.toNat c.toNat_lt
  rw [UInt8.ofNat_toNat] at this
  exact this h
 unfold txt numText at hc
 split at hc
 ·rw [List.mem_singleton.1 hc];decide
 ·split at hc
  ·rcases List.mem_cons.1 hc with rfl | h
   ·decide
   ·exact h10 c (strOf_digits 10 _ (by decide) (by decide) c h)
  ·exact h10 c (strOf_digits 10 _ (by decide) (by decide) c hc)
theorem canT (s:Str):canRes s=([],2)∨canRes s=([],4)∨(canRes s=(txt (pVal s),0)∧(pVal s).natAbs<big600):=by
 rw [canRes_eq]
 by_cases h:pOK s=true
 ·rw [if_pos h]
  by_cases hb:big600≤(pVal s).natAbs
  ·rw [resOf_big _ hb]
   exact .inr (.inl rfl)
  ·rw [resOf_small _ (by omega)]
   exact .inr (.inr ⟨rfl,by omega⟩)
 ·rw [if_neg h]
  exact .inl rfl
theorem can_txt {z:Int} (h:z.natAbs<big600):canRes (txt z)=(txt z,0):=by
 obtain ⟨h1,h2⟩:=txt_read z
 rw [canRes_eq,if_pos h1,h2,resOf_small _ h]
theorem ung_group {n mark:Str} {every:Int} (h:(groupE n mark every).2=0):ungE (groupE n mark every).1 mark every=((canRes n).1,0):=by
 unfold groupE at h ⊢
 by_cases hm:markE mark every≠0
 ·rw [if_pos hm] at h
  exact absurd h hm
 ·rw [if_neg hm] at h ⊢
  by_cases hc:(canRes n).2≠0
  ·rw [if_pos hc] at h
   exact absurd h hc
  ·rw [if_neg hc]
   have hm0:markE mark every=0:=Classical.not_not.1 hm
   have hc0:(canRes n).2=0:=Classical.not_not.1 hc
   obtain ⟨m1,m2,-⟩:=markE_ok hm0
   rcases canT n with e | e | ⟨e,hb⟩
   ·rw [e] at hc0;exact absurd hc0 (by decide)
   ·rw [e] at hc0;exact absurd hc0 (by decide)
   ·rw [e]
    have hd:=txt_dig (pVal n)
    have hct:=can_txt hb
    generalize txt (pVal n)=s at hd hct ⊢
    have hsb:=sgn_body s
    have hi:Inter mark (sgnG s++grpD mark every.toNat true (bodyG s)) s:=by
     have h1:=grpD_inter mark every.toNat true (bodyG s) fun c hc=>hd c (by rw [← hsb];exact List.mem_append_right _ hc)
     unfold sgnG at hsb ⊢
     split
     ·rename_i h9
      rw [if_pos h9] at hsb
      have h2:=Inter.dig (mark:=mark) (c:=45) (by decide) h1
      rw [show (45::bodyG s)=s from hsb] at h2
      exact h2
     ·rename_i h9
      rw [if_neg h9] at hsb
      rw [show bodyG s=s from hsb] at h1 ⊢
      exact h1
    have hr:=inter_all m1 m2 hi
    unfold ungE
    rw [if_neg hm,hr]
    refine if_pos ⟨hct,?_⟩
    unfold groupE
    rw [if_neg hm,hct]
    rfl
end Go.Proofs.YtbilphfbfnohmaaGreatDoor.Pz
namespace Go.Proofs.YtbilphfbfnohmaaGreatDoor.Pz
open Go.RowKit
theorem body_neg (d:Str):bodyG d=(if negD d then d.tail else d)∧sgnG d=(if negD d then [45] else []):=by
 unfold bodyG sgnG negD
 cases h:d.head? with
 | none=>exact ⟨rfl,rfl⟩
 | some x=>
  by_cases hx:x=45
  ·subst hx
   exact ⟨rfl,rfl⟩
  ·have h1:¬ (some x=some (45:UInt8)):=fun e=>hx (Option.some.inj e)
   have h2:(some x == some (45:UInt8))=false:=by rw [beq_eq_false_iff_ne];exact h1
   rw [if_neg h1,if_neg h1,h2]
   exact ⟨rfl,rfl⟩
set_option maxRecDepth 100000 in
theorem marked_fn (mark:Str) (hl:mark.length≤100000) (every:Int) (w:World):Calls Tryz.prog 72 #[.string ⟨mark.toArray⟩,.int .i64 every] w fun e w'=>e=.returned (.int .i64 (markE mark every))∧Below w.heap.size w w':=by
 have HCA:=hid (show Calls Tryz.prog 70 #[.string ⟨mark.toArray⟩,.string ⟨#[48,49,50,51,52,53,54,55,56,57,45]⟩] w fun e w'=>e=.returned (.bool (decide (0≤Lib.indexAny mark digC)))∧Below w.heap.size w w' from containsAny_fn mark hl w)
 rcases markE_two mark every with ⟨hm,h0 | ⟨h0,h1⟩⟩ | ⟨h0,h1,⟨hm,h2⟩ | ⟨hm,h2⟩⟩
 ·rw [hm]
  subst h0
  clear HCA hm
  go_enter Tryz.func72,Tryz.ntmps72
  go_wp2_with fail
  go_ret
  exact ⟨rfl,Below.refl _ _⟩
 ·rw [hm]
  have hem:mark.isEmpty=false:=by cases mark with
   | nil=>exact absurd rfl h0
   | cons a b=>rfl
  rw [decide_eq_true h1] at HCA
  clear h0 h1 hm
  go_enter Tryz.func72,Tryz.ntmps72
  go_wp2_with (go_at_call 70;(with_reducible refine HCA.out.mono ?_);rintro e w1 ⟨rfl,hb1⟩;have HB1:=hid hb1;clear hb1)
  go_ret
  exact ⟨rfl,HB1.out⟩
 ·rw [hm]
  have hem:mark.isEmpty=false:=by cases mark with
   | nil=>exact absurd rfl h0
   | cons a b=>rfl
  rw [decide_eq_false h1] at HCA
  by_cases h3:1≤every
  ·have d1:decide (every<(1:Int))=false:=decide_eq_false (by omega)
   have d2:decide ((100:Int)<every)=true:=decide_eq_true (by omega)
   clear h0 h1 hm h2
   go_enter Tryz.func72,Tryz.ntmps72
   go_wp2_with (go_at_call 70;(with_reducible refine HCA.out.mono ?_);rintro e w1 ⟨rfl,hb1⟩;have HB1:=hid hb1;clear hb1)
   go_ret
   exact ⟨rfl,HB1.out⟩
  ·have d1:decide (every<(1:Int))=true:=decide_eq_true (by omega)
   clear h0 h1 hm h2
   go_enter Tryz.func72,Tryz.ntmps72
   go_wp2_with (go_at_call 70;(with_reducible refine HCA.out.mono ?_);rintro e w1 ⟨rfl,hb1⟩;have HB1:=hid hb1;clear hb1)
   go_ret
   exact ⟨rfl,HB1.out⟩
 ·rw [hm]
  have hem:mark.isEmpty=false:=by cases mark with
   | nil=>exact absurd rfl h0
   | cons a b=>rfl
  rw [decide_eq_false h1] at HCA
  have d1:decide (every<(1:Int))=false:=decide_eq_false (by omega)
  have d2:decide ((100:Int)<every)=false:=decide_eq_false (by omega)
  clear h0 h1 hm h2
  go_enter Tryz.func72,Tryz.ntmps72
  go_wp2_with (go_at_call 70;(with_reducible refine HCA.out.mono ?_);rintro e w1 ⟨rfl,hb1⟩;have HB1:=hid hb1;clear hb1)
  go_ret
  exact ⟨rfl,HB1.out⟩
set_option maxRecDepth 1000000 in
set_option maxHeartbeats 8000000 in
theorem groupP_fn (n mark:Str) (hn:n.length≤100000) (hl:mark.length≤1000) (every:Int) (w:World) :
  Calls Tryz.prog 30 #[.string ⟨n.toArray⟩,.string ⟨mark.toArray⟩,.int .i64 every] w fun e w'=>e=.returned (.tuple #[.string ⟨(groupE n mark every).1.toArray⟩,.int .i64 (groupE n mark every).2])∧Below w.heap.size w w':=by
 have HCA:=hid (show Calls Tryz.prog 70 #[.string ⟨mark.toArray⟩,.string ⟨#[48,49,50,51,52,53,54,55,56,57,45]⟩] w fun e w'=>e=.returned (.bool (decide (0≤Lib.indexAny mark digC)))∧Below w.heap.size w w' from containsAny_fn mark (by omega) w)
 have HWI:=hid (within_fn every 1 100)
 rcases markE_two mark every with ⟨hm,h0 | ⟨h0,h1⟩⟩ | ⟨h0,h1,⟨hm,h2⟩ | ⟨hm,h2⟩⟩
 ·have hG:groupE n mark every=([],1):=by unfold groupE;rw [hm];rfl
  rw [hG]
  subst h0
  clear HCA hm hG
  go_enter Tryz.func30,Tryz.ntmps30
  go_wp2_with fail
  go_ret2
  exact ⟨rfl,Below.refl _ _⟩
 ·have hG:groupE n mark every=([],1):=by unfold groupE;rw [hm];rfl
  rw [hG]
  have hem:mark.isEmpty=false:=by cases mark with
   | nil=>exact absurd rfl h0
   | cons a b=>rfl
  rw [decide_eq_true h1] at HCA
  clear h0 h1 hm hG
  go_enter Tryz.func30,Tryz.ntmps30
  go_wp2_with (go_at_call 70;(with_reducible refine HCA.out.mono ?_);rintro e w1 ⟨rfl,hb1⟩;have HB1:=hid hb1;clear hb1)
  go_ret2
  exact ⟨rfl,HB1.out⟩
 ·have hG:groupE n mark every=([],7):=by unfold groupE;rw [hm];rfl
  rw [hG]
  have hem:mark.isEmpty=false:=by cases mark with
   | nil=>exact absurd rfl h0
   | cons a b=>rfl
  rw [decide_eq_false h1] at HCA
  by_cases h3:1≤every
  ·have d1:decide ((1:Int)≤every)=true:=decide_eq_true h3
   have d2:decide (every≤100)=false:=decide_eq_false (by omega)
   clear h0 h1 hm h2 hG
   go_enter Tryz.func30,Tryz.ntmps30
   go_wp2_with (first|(go_at_call 70;(with_reducible refine HCA.out.mono ?_);rintro e w1 ⟨rfl,hb1⟩;have HB1:=hid hb1;clear hb1)|((with_reducible refine (HWI.out _).mono ?_);rintro e w2 ⟨rfl,hw2⟩;replace hw2:=hw2.symm;subst hw2))
   go_ret2
   exact ⟨rfl,HB1.out⟩
  ·have d1:decide ((1:Int)≤every)=false:=decide_eq_false h3
   clear h0 h1 hm h2 hG
   go_enter Tryz.func30,Tryz.ntmps30
   go_wp2_with (first|(go_at_call 70;(with_reducible refine HCA.out.mono ?_);rintro e w1 ⟨rfl,hb1⟩;have HB1:=hid hb1;clear hb1)|((with_reducible refine (HWI.out _).mono ?_);rintro e w2 ⟨rfl,hw2⟩;replace hw2:=hw2.symm;subst hw2))
   go_ret2
   exact ⟨rfl,HB1.out⟩
 ·obtain ⟨k,rfl⟩:∃ k:Nat,every=(k:Nat):=⟨every.toNat,by omega⟩
  have hem:mark.isEmpty=false:=by cases mark with
   | nil=>exact absurd rfl h0
   | cons a b=>rfl
  rw [decide_eq_false h1] at HCA
  have hk1:1≤k:=by omega
  have hk9:k≤100:=by omega
  have d1:decide ((1:Int)≤(k:Int))=true:=decide_eq_true (by omega)
  have d2:decide ((k:Int)≤100)=true:=decide_eq_true (by omega)
  have HCN:=hid (fun u=>can_fn n (by omega) u)
  have hG:groupE n mark (k:Int)=if (canRes n).2≠0 then ([],(canRes n).2) else (sgnG (canRes n).1++grpD mark k true (bodyG (canRes n).1),0):=by unfold groupE;rw [hm];rfl
  rw [hG]
  rcases canT n with e | e | ⟨e,hb⟩
  ·rw [e] at HCN ⊢
   clear h0 h1 hm h2 hG e
   go_enter Tryz.func30,Tryz.ntmps30
   go_wp2_with (first|(go_at_call 70;(with_reducible refine HCA.out.mono ?_);rintro e w1 ⟨rfl,hb1⟩;have HB1:=hid hb1;clear hb1)|((with_reducible refine (HWI.out _).mono ?_);rintro e w2 ⟨rfl,hw2⟩;replace hw2:=hw2.symm;subst hw2)|(go_at_call 71;(with_reducible refine (HCN.out _).mono ?_);rintro e w3 ⟨rfl,hb3⟩;have HB3:=hid (HB1.out.trans (hb3.mono HB1.out.size));clear hb3))
   go_ret2
   exact ⟨rfl,HB3.out⟩
  ·rw [e] at HCN ⊢
   clear h0 h1 hm h2 hG e
   go_enter Tryz.func30,Tryz.ntmps30
   go_wp2_with (first|(go_at_call 70;(with_reducible refine HCA.out.mono ?_);rintro e w1 ⟨rfl,hb1⟩;have HB1:=hid hb1;clear hb1)|((with_reducible refine (HWI.out _).mono ?_);rintro e w2 ⟨rfl,hw2⟩;replace hw2:=hw2.symm;subst hw2)|(go_at_call 71;(with_reducible refine (HCN.out _).mono ?_);rintro e w3 ⟨rfl,hb3⟩;have HB3:=hid (HB1.out.trans (hb3.mono HB1.out.size));clear hb3))
   go_ret2
   exact ⟨rfl,HB3.out⟩
  ·rw [e] at HCN ⊢
   have htl:=txt_len (pVal n) hb
   obtain ⟨d,hd⟩:∃ d,d=txt (pVal n):=⟨_,rfl⟩
   rw [← hd] at HCN htl ⊢
   have HCUT:=hid (fun u=>cut_neg d (by omega) u)
   obtain ⟨hb1,hs1⟩:=body_neg d
   rw [show ((if ((d,(0:Int)):Str×Int).2≠0 then (([]:Str),((d,(0:Int)):Str×Int).2) else (sgnG ((d,(0:Int)):Str×Int).1++grpD mark k true (bodyG ((d,(0:Int)):Str×Int).1),0)):Str×Int)=(sgnG d++grpD mark k true (bodyG d),0) from rfl]
   have hbl:(bodyG d).length≤700:=by
    have h:=congrArg List.length (sgn_body d)
    rw [List.length_append] at h
    omega
   have hgl:=grpD_len mark k true (bodyG d)
   have hgl2:(grpD mark k true (bodyG d)).length≤800000:=Nat.le_trans hgl (Nat.le_trans (Nat.mul_le_mul hbl (show mark.length+1≤1001 by omega)) (by omega))
   rw [hs1,hb1]
   rw [hb1] at hgl2 hbl
   obtain ⟨body,hbody⟩:∃ body,body=(if negD d then d.tail else d):=⟨_,rfl⟩
   rw [← hbody] at HCUT hgl2 hbl ⊢
   obtain ⟨ng,hng⟩:∃ ng,ng=negD d:=⟨_,rfl⟩
   rw [← hng] at HCUT ⊢
   obtain ⟨G,hGG⟩:∃ G,G=grpD mark k true body:=⟨_,rfl⟩
   rw [← hGG] at hgl2 ⊢
   have HG:=hid hGG
   obtain ⟨FN,hFN⟩:∃ FN,FN=(if ng=true then ([45]:Str) else [])++G:=⟨_,rfl⟩
   have hFl:FN.length≤900000:=by
    rw [hFN,List.length_append]
    have:(if ng=true then ([45]:Str) else []).length≤1:=by split<;>simp
    omega
   rw [← hFN]
   have HFN:=hid hFN
   have hbz:(⟨body.toArray⟩:ByteArray).size=body.length:=Lib.size_mk _
   have hk0:((k:Int) == 0)=false:=by rw [beq_eq_false_iff_ne];omega
   have hk0b:¬ ((k:Int)=0):=by omega
   clear h0 h1 hm h2 hG e hd hb hb1 hs1 hgl hbody hng hGG htl hFN
   cases ng with
   | true=>
    go_enter Tryz.func30,Tryz.ntmps30
    go_wp2_with (first|(go_at_call 70;(with_reducible refine HCA.out.mono ?_);rintro e w1 ⟨rfl,hb1⟩;have HB1:=hid hb1;clear hb1)|((with_reducible refine (HWI.out _).mono ?_);rintro e w2 ⟨rfl,hw2⟩;replace hw2:=hw2.symm;subst hw2)|(go_at_call 71;(with_reducible refine (HCN.out _).mono ?_);rintro e w3 ⟨rfl,hb3⟩;have HB3:=hid (HB1.out.trans (hb3.mono HB1.out.size));clear hb3)|(go_at_call 61;(with_reducible refine (HCUT.out _).mono ?_);rintro e w4 ⟨rfl,hw4⟩;replace hw4:=hw4.symm;subst hw4))
    obtain ⟨b,hb⟩:∃ b,b=w3.heap.size:=⟨_,rfl⟩
    obtain ⟨w5,hw5⟩:∃ w5,w5=w3.alloc (.cells #[.pointer none,.slice none 0 0] 73):=⟨_,rfl⟩
    have HBD:=hid (show Bld w5 b [] by rw [hw5,hb];exact Bld.new w3)
    have HB5:=hid (show Below w.heap.size w w5 by rw [hw5];exact HB3.out.trans ((belowS _ _).mono HB3.out.size))
    have hbs:w.heap.size≤b:=by rw [hb];exact HB3.out.size
    rw [← hw5,← hb]
    clear hw5 hb
    have HWB0:=hid (show Calls Tryz.prog 49 #[.pointer (some ⟨b,0,none⟩),.int .u8 45] w5 fun e w'=>e=.returned .nilIface∧Bld w' b ([]++[45])∧Kept b w5 w' from wbyte_fn HBD.out 45 (by simp))
    go_wp2_with (go_at_call 49;refine HWB0.out.mono ?_;rintro e w6 ⟨rfl,hbd6,hk6⟩;have HBDS:=hid hbd6;have HBS:=hid (HB5.out.trans (hk6.1.mono hbs));clear hbd6 hk6)
    go_loopg [40] (body.length+1) (fun z iv wr=>∃ (i:Nat) (l T:Str),iv=.int .i64 (i:Nat)∧At body l i∧Bld wr b T∧Below b w6 wr∧FN=T++grpD mark k (decide (i=0)) l∧z=body.length+1-i)
    case atStart=>exact ⟨0,body,([45]:Str),rfl,At.start body,HBDS.out,Below.refl _ _,by rw [HFN.out,HG.out];rfl,rfl⟩
    case round=>
     obtain ⟨i,l,T,rfl,hat,hbd,hkp,hres,rfl⟩:=hrel
     have HKP:=hid hkp
     have HAT:=hid hat
     have hlen:=hat.len
     have hTl:T.length≤900000:=by have h:=congrArg List.length hres;rw [List.length_append] at h;omega
     cases l with
     | nil=>
      have hil:¬ ((i:Int)<(body.length:Int)):=by simp at hlen;omega
      have HRES:=hid (show FN=T from by rw [hres,grpD,List.append_nil])
      have HST:=hid (str_fn hbd)
      clear hbd hkp hres hat hlen
      go_wp2_with (go_at_call 52;refine HST.out.mono ?_;rintro e w7 ⟨rfl,hbd7,hk7⟩;have HB7:=hid (HKP.out.trans hk7.1);clear hbd7 hk7)
      go_ret2
      exact ⟨by rw [HRES.out];rfl,HBS.out.trans (HB7.out.mono hbs)⟩
     | cons c t=>
      have hlt:=hat.lt
      have hltI:(i:Int)<(body.length:Int):=by omega
      have hx:=hat.byte
      have hsub:(body.length:Int)-(i:Int)=((t.length+1:Nat):Int):=by simp only [List.length_cons] at hlen;omega
      have hkk:body.length+1-(i+1)<body.length+1-i:=by omega
      obtain ⟨R,hR⟩:∃ R,R=(t.length+1) % k:=⟨_,rfl⟩
      obtain ⟨L,hL⟩:∃ L,L=t.length+1:=⟨_,rfl⟩
      rw [← hL] at hsub hR
      have hrem:Int.tmod (L:Int) (k:Int)=(R:Nat):=by rw [hR,Int.tmod_eq_emod_of_nonneg (by omega)];omega
      have hL9:L≤800:=by simp only [List.length_cons] at hlen;omega
      have hR9:R<100:=by rw [hR];exact Nat.lt_of_lt_of_le (Nat.mod_lt _ (by omega)) hk9
      by_cases hi0:i=0
      ·subst hi0
       have HRES:=hid (show FN=(T++[c])++grpD mark k (decide (0+1=0)) t from by rw [hres];show T++(([]:Str)++c::grpD mark k false t)=_;simp)
       have HWB:=hid (wbyte_fn hbd c (by omega))
       clear hbd hkp hres hat hlen hL hR
       go_wp2_with (go_at_call 49;refine HWB.out.mono ?_;rintro e w7 ⟨rfl,hbd7,hk7⟩;have HBD7:=hid hbd7;have HB7:=hid (HKP.out.trans hk7.1);clear hbd7 hk7)
       go_roundg (body.length+1-(0+1))
       case measure=>exact hkk
       case rel=>exact ⟨0+1,t,T++[c],by go_num,HAT.out.tail,HBD7.out,HB7.out,HRES.out,rfl⟩
      ·have hdi:decide (i=0)=false:=decide_eq_false hi0
       have hdi2:decide (i+1=0)=false:=decide_eq_false (by omega)
       have hi0I:(0:Int)<(i:Int):=by omega
       by_cases hr:R=0
       ·have HRES:=hid (show FN=((T++mark)++[c])++grpD mark k (decide (i+1=0)) t from by rw [hres,hdi,hdi2,grpD,if_pos ⟨rfl,by rw [← hL,← hR];exact hr⟩];simp)
        have hrq:((R:Int) == 0)=true:=by rw [beq_iff_eq];omega
        have hrq2:(R:Int)=0:=by omega
        have HWS:=hid (wstr_fn hbd mark (by omega))
        clear hbd hkp hres hat hlen hL hR hr
        go_wp2_with (first|(go_at_call 48;refine HWS.out.mono ?_;rintro e w7 ⟨rfl,hbd7,hk7⟩;have HB7:=hid (HKP.out.trans hk7.1);have HWB:=hid (wbyte_fn hbd7 c (by rw [List.length_append];omega));clear hbd7 hk7)|(go_at_call 49;refine HWB.out.mono ?_;rintro e w8 ⟨rfl,hbd8,hk8⟩;have HBD8:=hid hbd8;have HB8:=hid (HB7.out.trans hk8.1);clear hbd8 hk8))
        go_roundg (body.length+1-(i+1))
        case measure=>exact hkk
        case rel=>exact ⟨i+1,t,(T++mark)++[c],by go_num,HAT.out.tail,HBD8.out,HB8.out,HRES.out,rfl⟩
       ·have HRES:=hid (show FN=(T++[c])++grpD mark k (decide (i+1=0)) t from by rw [hres,hdi,hdi2,grpD,if_neg (fun h=>hr (by rw [hR,hL];exact h.2))];simp)
        have hrq:((R:Int) == 0)=false:=by rw [beq_eq_false_iff_ne];omega
        have hrq2:¬ ((R:Int)=0):=by omega
        have HWB:=hid (wbyte_fn hbd c (by omega))
        clear hbd hkp hres hat hlen hL hR hr
        go_wp2_with (go_at_call 49;refine HWB.out.mono ?_;rintro e w7 ⟨rfl,hbd7,hk7⟩;have HBD7:=hid hbd7;have HB7:=hid (HKP.out.trans hk7.1);clear hbd7 hk7)
        go_roundg (body.length+1-(i+1))
        case measure=>exact hkk
        case rel=>exact ⟨i+1,t,T++[c],by go_num,HAT.out.tail,HBD7.out,HB7.out,HRES.out,rfl⟩
   | false=>
    go_enter Tryz.func30,Tryz.ntmps30
    go_wp2_with (first|(go_at_call 70;(with_reducible refine HCA.out.mono ?_);rintro e w1 ⟨rfl,hb1⟩;have HB1:=hid hb1;clear hb1)|((with_reducible refine (HWI.out _).mono ?_);rintro e w2 ⟨rfl,hw2⟩;replace hw2:=hw2.symm;subst hw2)|(go_at_call 71;(with_reducible refine (HCN.out _).mono ?_);rintro e w3 ⟨rfl,hb3⟩;have HB3:=hid (HB1.out.trans (hb3.mono HB1.out.size));clear hb3)|(go_at_call 61;(with_reducible refine (HCUT.out _).mono ?_);rintro e w4 ⟨rfl,hw4⟩;replace hw4:=hw4.symm;subst hw4))
    obtain ⟨b,hb⟩:∃ b,b=w3.heap.size:=⟨_,rfl⟩
    obtain ⟨w5,hw5⟩:∃ w5,w5=w3.alloc (.cells #[.pointer none,.slice none 0 0] 73):=⟨_,rfl⟩
    have HBD:=hid (show Bld w5 b [] by rw [hw5,hb];exact Bld.new w3)
    have HB5:=hid (show Below w.heap.size w w5 by rw [hw5];exact HB3.out.trans ((belowS _ _).mono HB3.out.size))
    have hbs:w.heap.size≤b:=by rw [hb];exact HB3.out.size
    rw [← hw5,← hb]
    clear hw5 hb
    have HBDS:=HBD
    have HBS:=HB5
    go_wp2_with fail
    go_loopg [40] (body.length+1) (fun z iv wr=>∃ (i:Nat) (l T:Str),iv=.int .i64 (i:Nat)∧At body l i∧Bld wr b T∧Below b w5 wr∧FN=T++grpD mark k (decide (i=0)) l∧z=body.length+1-i)
    case atStart=>exact ⟨0,body,([]:Str),rfl,At.start body,HBDS.out,Below.refl _ _,by rw [HFN.out,HG.out];rfl,rfl⟩
    case round=>
     obtain ⟨i,l,T,rfl,hat,hbd,hkp,hres,rfl⟩:=hrel
     have HKP:=hid hkp
     have HAT:=hid hat
     have hlen:=hat.len
     have hTl:T.length≤900000:=by have h:=congrArg List.length hres;rw [List.length_append] at h;omega
     cases l with
     | nil=>
      have hil:¬ ((i:Int)<(body.length:Int)):=by simp at hlen;omega
      have HRES:=hid (show FN=T from by rw [hres,grpD,List.append_nil])
      have HST:=hid (str_fn hbd)
      clear hbd hkp hres hat hlen
      go_wp2_with (go_at_call 52;refine HST.out.mono ?_;rintro e w7 ⟨rfl,hbd7,hk7⟩;have HB7:=hid (HKP.out.trans hk7.1);clear hbd7 hk7)
      go_ret2
      exact ⟨by rw [HRES.out];rfl,HBS.out.trans (HB7.out.mono hbs)⟩
     | cons c t=>
      have hlt:=hat.lt
      have hltI:(i:Int)<(body.length:Int):=by omega
      have hx:=hat.byte
      have hsub:(body.length:Int)-(i:Int)=((t.length+1:Nat):Int):=by simp only [List.length_cons] at hlen;omega
      have hkk:body.length+1-(i+1)<body.length+1-i:=by omega
      obtain ⟨R,hR⟩:∃ R,R=(t.length+1) % k:=⟨_,rfl⟩
      obtain ⟨L,hL⟩:∃ L,L=t.length+1:=⟨_,rfl⟩
      rw [← hL] at hsub hR
      have hrem:Int.tmod (L:Int) (k:Int)=(R:Nat):=by rw [hR,Int.tmod_eq_emod_of_nonneg (by omega)];omega
      have hL9:L≤800:=by simp only [List.length_cons] at hlen;omega
      have hR9:R<100:=by rw [hR];exact Nat.lt_of_lt_of_le (Nat.mod_lt _ (by omega)) hk9
      by_cases hi0:i=0
      ·subst hi0
       have HRES:=hid (show FN=(T++[c])++grpD mark k (decide (0+1=0)) t from by rw [hres];show T++(([]:Str)++c::grpD mark k false t)=_;simp)
       have HWB:=hid (wbyte_fn hbd c (by omega))
       clear hbd hkp hres hat hlen hL hR
       go_wp2_with (go_at_call 49;refine HWB.out.mono ?_;rintro e w7 ⟨rfl,hbd7,hk7⟩;have HBD7:=hid hbd7;have HB7:=hid (HKP.out.trans hk7.1);clear hbd7 hk7)
       go_roundg (body.length+1-(0+1))
       case measure=>exact hkk
       case rel=>exact ⟨0+1,t,T++[c],by go_num,HAT.out.tail,HBD7.out,HB7.out,HRES.out,rfl⟩
      ·have hdi:decide (i=0)=false:=decide_eq_false hi0
       have hdi2:decide (i+1=0)=false:=decide_eq_false (by omega)
       have hi0I:(0:Int)<(i:Int):=by omega
       by_cases hr:R=0
       ·have HRES:=hid (show FN=((T++mark)++[c])++grpD mark k (decide (i+1=0)) t from by rw [hres,hdi,hdi2,grpD,if_pos ⟨rfl,by rw [← hL,← hR];exact hr⟩];simp)
        have hrq:((R:Int) == 0)=true:=by rw [beq_iff_eq];omega
        have hrq2:(R:Int)=0:=by omega
        have HWS:=hid (wstr_fn hbd mark (by omega))
        clear hbd hkp hres hat hlen hL hR hr
        go_wp2_with (first|(go_at_call 48;refine HWS.out.mono ?_;rintro e w7 ⟨rfl,hbd7,hk7⟩;have HB7:=hid (HKP.out.trans hk7.1);have HWB:=hid (wbyte_fn hbd7 c (by rw [List.length_append];omega));clear hbd7 hk7)|(go_at_call 49;refine HWB.out.mono ?_;rintro e w8 ⟨rfl,hbd8,hk8⟩;have HBD8:=hid hbd8;have HB8:=hid (HB7.out.trans hk8.1);clear hbd8 hk8))
        go_roundg (body.length+1-(i+1))
        case measure=>exact hkk
        case rel=>exact ⟨i+1,t,(T++mark)++[c],by go_num,HAT.out.tail,HBD8.out,HB8.out,HRES.out,rfl⟩
       ·have HRES:=hid (show FN=(T++[c])++grpD mark k (decide (i+1=0)) t from by rw [hres,hdi,hdi2,grpD,if_neg (fun h=>hr (by rw [hR,hL];exact h.2))];simp)
        have hrq:((R:Int) == 0)=false:=by rw [beq_eq_false_iff_ne];omega
        have hrq2:¬ ((R:Int)=0):=by omega
        have HWB:=hid (wbyte_fn hbd c (by omega))
        clear hbd hkp hres hat hlen hL hR hr
        go_wp2_with (go_at_call 49;refine HWB.out.mono ?_;rintro e w7 ⟨rfl,hbd7,hk7⟩;have HBD7:=hid hbd7;have HB7:=hid (HKP.out.trans hk7.1);clear hbd7 hk7)
        go_roundg (body.length+1-(i+1))
        case measure=>exact hkk
        case rel=>exact ⟨i+1,t,T++[c],by go_num,HAT.out.tail,HBD7.out,HB7.out,HRES.out,rfl⟩
set_option maxRecDepth 1000000 in
set_option maxHeartbeats 8000000 in
theorem groupR_fn (n mark:Str) (hn:n.length≤100000) (hl:mark.length≤1000) (every:Int) (w:World) :
  Calls Tryz.prog 31 #[.string ⟨n.toArray⟩,.string ⟨mark.toArray⟩,.int .i64 every] w fun e w'=>e=.returned (.tuple #[.string ⟨(groupE n mark every).1.toArray⟩,.int .i64 (groupE n mark every).2])∧Below w.heap.size w w':=by
 have HMK:=hid (marked_fn mark (by omega) every w)
 rcases markE_two mark every with ⟨hm,-⟩ | ⟨h0,h1,⟨hm,h2⟩ | ⟨hm,h2⟩⟩
 ·have hG:groupE n mark every=([],1):=by unfold groupE;rw [hm];rfl
  rw [hG]
  rw [hm] at HMK
  clear hm hG
  go_enter Tryz.func31,Tryz.ntmps31
  go_wp2_with (go_at_call 72;(with_reducible refine HMK.out.mono ?_);rintro e w1 ⟨rfl,hb1⟩;have HB1:=hid hb1;clear hb1)
  go_ret2
  exact ⟨rfl,HB1.out⟩
 ·have hG:groupE n mark every=([],7):=by unfold groupE;rw [hm];rfl
  rw [hG]
  rw [hm] at HMK
  clear hm hG h0 h1 h2
  go_enter Tryz.func31,Tryz.ntmps31
  go_wp2_with (go_at_call 72;(with_reducible refine HMK.out.mono ?_);rintro e w1 ⟨rfl,hb1⟩;have HB1:=hid hb1;clear hb1)
  go_ret2
  exact ⟨rfl,HB1.out⟩
 ·obtain ⟨k,rfl⟩:∃ k:Nat,every=(k:Nat):=⟨every.toNat,by omega⟩
  rw [hm] at HMK
  have hk1:1≤k:=by omega
  have hk9:k≤100:=by omega
  have HCN:=hid (fun u=>canR_fn n (by omega) u)
  have hG:groupE n mark (k:Int)=if (canRes n).2≠0 then ([],(canRes n).2) else (sgnG (canRes n).1++grpD mark k true (bodyG (canRes n).1),0):=by unfold groupE;rw [hm];rfl
  rw [hG]
  rcases canT n with e | e | ⟨e,hb⟩
  ·rw [e] at HCN ⊢
   clear h0 h1 hm h2 hG e
   go_enter Tryz.func31,Tryz.ntmps31
   go_wp2_with (first|(go_at_call 72;(with_reducible refine HMK.out.mono ?_);rintro e w1 ⟨rfl,hb1⟩;have HB1:=hid hb1;clear hb1)|(go_at_call 11;(with_reducible refine (HCN.out _).mono ?_);rintro e w3 ⟨rfl,hb3⟩;have HB3:=hid (HB1.out.trans (hb3.mono HB1.out.size));clear hb3))
   go_ret2
   exact ⟨rfl,HB3.out⟩
  ·rw [e] at HCN ⊢
   clear h0 h1 hm h2 hG e
   go_enter Tryz.func31,Tryz.ntmps31
   go_wp2_with (first|(go_at_call 72;(with_reducible refine HMK.out.mono ?_);rintro e w1 ⟨rfl,hb1⟩;have HB1:=hid hb1;clear hb1)|(go_at_call 11;(with_reducible refine (HCN.out _).mono ?_);rintro e w3 ⟨rfl,hb3⟩;have HB3:=hid (HB1.out.trans (hb3.mono HB1.out.size));clear hb3))
   go_ret2
   exact ⟨rfl,HB3.out⟩
  ·rw [e] at HCN ⊢
   have htl:=txt_len (pVal n) hb
   obtain ⟨d,hd⟩:∃ d,d=txt (pVal n):=⟨_,rfl⟩
   rw [← hd] at HCN htl ⊢
   have HCUT:=hid (fun u=>cut_neg d (by omega) u)
   obtain ⟨hb1,hs1⟩:=body_neg d
   rw [show ((if ((d,(0:Int)):Str×Int).2≠0 then (([]:Str),((d,(0:Int)):Str×Int).2) else (sgnG ((d,(0:Int)):Str×Int).1++grpD mark k true (bodyG ((d,(0:Int)):Str×Int).1),0)):Str×Int)=(sgnG d++grpD mark k true (bodyG d),0) from rfl]
   have hbl:(bodyG d).length≤700:=by
    have h:=congrArg List.length (sgn_body d)
    rw [List.length_append] at h
    omega
   have hgl:=grpD_len mark k true (bodyG d)
   have hgl2:(grpD mark k true (bodyG d)).length≤800000:=Nat.le_trans hgl (Nat.le_trans (Nat.mul_le_mul hbl (show mark.length+1≤1001 by omega)) (by omega))
   rw [hs1,hb1]
   rw [hb1] at hgl2 hbl
   obtain ⟨body,hbody⟩:∃ body,body=(if negD d then d.tail else d):=⟨_,rfl⟩
   rw [← hbody] at HCUT hgl2 hbl ⊢
   obtain ⟨ng,hng⟩:∃ ng,ng=negD d:=⟨_,rfl⟩
   rw [← hng] at HCUT ⊢
   obtain ⟨G,hGG⟩:∃ G,G=grpD mark k true body:=⟨_,rfl⟩
   rw [← hGG] at hgl2 ⊢
   have HG:=hid hGG
   obtain ⟨FN,hFN⟩:∃ FN,FN=(if ng=true then ([45]:Str) else [])++G:=⟨_,rfl⟩
   have hFl:FN.length≤900000:=by
    rw [hFN,List.length_append]
    have:(if ng=true then ([45]:Str) else []).length≤1:=by split<;>simp
    omega
   rw [← hFN]
   have HFN:=hid hFN
   have hbz:(⟨body.toArray⟩:ByteArray).size=body.length:=Lib.size_mk _
   have hk0:((k:Int) == 0)=false:=by rw [beq_eq_false_iff_ne];omega
   have hk0b:¬ ((k:Int)=0):=by omega
   clear h0 h1 hm h2 hG e hd hb hb1 hs1 hgl hbody hng hGG htl hFN
   cases ng with
   | true=>
    go_enter Tryz.func31,Tryz.ntmps31
    go_wp2_with (first|(go_at_call 72;(with_reducible refine HMK.out.mono ?_);rintro e w1 ⟨rfl,hb1⟩;have HB1:=hid hb1;clear hb1)|(go_at_call 11;(with_reducible refine (HCN.out _).mono ?_);rintro e w3 ⟨rfl,hb3⟩;have HB3:=hid (HB1.out.trans (hb3.mono HB1.out.size));clear hb3)|(go_at_call 61;(with_reducible refine (HCUT.out _).mono ?_);rintro e w4 ⟨rfl,hw4⟩;replace hw4:=hw4.symm;subst hw4))
    go_loopg [13,36] (body.length+1) (fun z sv iv wr=>∃ (i:Nat) (l T:Str),sv=.string ⟨T.toArray⟩∧iv=.int .i64 (i:Nat)∧At body l i∧wr=w3∧G=T++grpD mark k (decide (i=0)) l∧z=body.length+1-i)
    case atStart=>exact ⟨0,body,[],rfl,rfl,At.start body,rfl,HG.out,rfl⟩
    case round=>
     obtain ⟨i,l,T,rfl,rfl,hat,hw,hres,rfl⟩:=hrel
     subst hw
     have HAT:=hid hat
     have hlen:=hat.len
     have hTl:T.length≤900000:=by have h:=congrArg List.length hres;rw [List.length_append] at h;omega
     cases l with
     | nil=>
      have hil:¬ ((i:Int)<(body.length:Int)):=by simp at hlen;omega
      have hGT:G=T:=by rw [hres,grpD,List.append_nil]
      have HRES:=hid (show FN=([45]:Str)++T from by rw [HFN.out,hGT];rfl)
      have hct:∀ u,(Op.stringOp .add ⟨#[45]⟩ ⟨T.toArray⟩).run Tryz.prog u=.ok (.string ⟨([45]++T).toArray⟩) u:=fun u=>cat_run [45] T (by simp) (by omega) u
      clear hres hat hlen hGT
      go_wp2
      go_ret2
      exact ⟨by rw [HRES.out];rfl,HB3.out⟩
     | cons c t=>
      have hlt:=hat.lt
      have hltI:(i:Int)<(body.length:Int):=by omega
      have hltI2:(i:Int)+1≤(body.length:Int):=by omega
      have hex:(⟨body.toArray⟩:ByteArray).extract i (i+1)=⟨[c].toArray⟩:=by
       have h:At body ([c]++t) i:=hat
       exact h.text
      have hsub:(body.length:Int)-(i:Int)=((t.length+1:Nat):Int):=by simp only [List.length_cons] at hlen;omega
      have hkk:body.length+1-(i+1)<body.length+1-i:=by omega
      obtain ⟨R,hR⟩:∃ R,R=(t.length+1) % k:=⟨_,rfl⟩
      obtain ⟨L,hL⟩:∃ L,L=t.length+1:=⟨_,rfl⟩
      rw [← hL] at hsub hR
      have hrem:Int.tmod (L:Int) (k:Int)=(R:Nat):=by rw [hR,Int.tmod_eq_emod_of_nonneg (by omega)];omega
      have hL9:L≤800:=by simp only [List.length_cons] at hlen;omega
      have hR9:R<100:=by rw [hR];exact Nat.lt_of_lt_of_le (Nat.mod_lt _ (by omega)) hk9
      by_cases hi0:i=0
      ·subst hi0
       have HRES:=hid (show G=(T++[c])++grpD mark k (decide (0+1=0)) t from by rw [hres];show T++(([]:Str)++c::grpD mark k false t)=_;simp)
       have hct:=cat_run T [c] (by omega) (by simp)
       clear hres hat hlen hL hR
       go_wp2
       go_roundg (body.length+1-(0+1))
       case measure=>exact hkk
       case rel=>exact ⟨0+1,t,T++[c],rfl,by go_num,HAT.out.tail,rfl,HRES.out,rfl⟩
      ·have hdi:decide (i=0)=false:=decide_eq_false hi0
       have hdi2:decide (i+1=0)=false:=decide_eq_false (by omega)
       have hi0I:(0:Int)<(i:Int):=by omega
       by_cases hr:R=0
       ·have HRES:=hid (show G=((T++mark)++[c])++grpD mark k (decide (i+1=0)) t from by rw [hres,hdi,hdi2,grpD,if_pos ⟨rfl,by rw [← hL,← hR];exact hr⟩];simp)
        have hrq:((R:Int) == 0)=true:=by rw [beq_iff_eq];omega
        have hrq2:(R:Int)=0:=by omega
        have hct:=cat_run T mark (by omega) (by omega)
        have hct2:=cat_run (T++mark) [c] (by rw [List.length_append];omega) (by simp)
        clear hres hat hlen hL hR hr
        go_wp2
        go_roundg (body.length+1-(i+1))
        case measure=>exact hkk
        case rel=>exact ⟨i+1,t,(T++mark)++[c],by first | rfl | rw [List.append_assoc],by go_num,HAT.out.tail,rfl,HRES.out,rfl⟩
       ·have HRES:=hid (show G=(T++[c])++grpD mark k (decide (i+1=0)) t from by rw [hres,hdi,hdi2,grpD,if_neg (fun h=>hr (by rw [hR,hL];exact h.2))];simp)
        have hrq:((R:Int) == 0)=false:=by rw [beq_eq_false_iff_ne];omega
        have hrq2:¬ ((R:Int)=0):=by omega
        have hct:=cat_run T [c] (by omega) (by simp)
        clear hres hat hlen hL hR hr
        go_wp2
        go_roundg (body.length+1-(i+1))
        case measure=>exact hkk
        case rel=>exact ⟨i+1,t,T++[c],rfl,by go_num,HAT.out.tail,rfl,HRES.out,rfl⟩
   | false=>
    go_enter Tryz.func31,Tryz.ntmps31
    go_wp2_with (first|(go_at_call 72;(with_reducible refine HMK.out.mono ?_);rintro e w1 ⟨rfl,hb1⟩;have HB1:=hid hb1;clear hb1)|(go_at_call 11;(with_reducible refine (HCN.out _).mono ?_);rintro e w3 ⟨rfl,hb3⟩;have HB3:=hid (HB1.out.trans (hb3.mono HB1.out.size));clear hb3)|(go_at_call 61;(with_reducible refine (HCUT.out _).mono ?_);rintro e w4 ⟨rfl,hw4⟩;replace hw4:=hw4.symm;subst hw4))
    go_loopg [13,36] (body.length+1) (fun z sv iv wr=>∃ (i:Nat) (l T:Str),sv=.string ⟨T.toArray⟩∧iv=.int .i64 (i:Nat)∧At body l i∧wr=w3∧G=T++grpD mark k (decide (i=0)) l∧z=body.length+1-i)
    case atStart=>exact ⟨0,body,[],rfl,rfl,At.start body,rfl,HG.out,rfl⟩
    case round=>
     obtain ⟨i,l,T,rfl,rfl,hat,hw,hres,rfl⟩:=hrel
     subst hw
     have HAT:=hid hat
     have hlen:=hat.len
     have hTl:T.length≤900000:=by have h:=congrArg List.length hres;rw [List.length_append] at h;omega
     cases l with
     | nil=>
      have hil:¬ ((i:Int)<(body.length:Int)):=by simp at hlen;omega
      have hGT:G=T:=by rw [hres,grpD,List.append_nil]
      have HRES:=hid (show FN=([]:Str)++T from by rw [HFN.out,hGT];rfl)
      clear hres hat hlen hGT
      go_wp2
      go_ret2
      exact ⟨by rw [HRES.out];rfl,HB3.out⟩
     | cons c t=>
      have hlt:=hat.lt
      have hltI:(i:Int)<(body.length:Int):=by omega
      have hltI2:(i:Int)+1≤(body.length:Int):=by omega
      have hex:(⟨body.toArray⟩:ByteArray).extract i (i+1)=⟨[c].toArray⟩:=by
       have h:At body ([c]++t) i:=hat
       exact h.text
      have hsub:(body.length:Int)-(i:Int)=((t.length+1:Nat):Int):=by simp only [List.length_cons] at hlen;omega
      have hkk:body.length+1-(i+1)<body.length+1-i:=by omega
      obtain ⟨R,hR⟩:∃ R,R=(t.length+1) % k:=⟨_,rfl⟩
      obtain ⟨L,hL⟩:∃ L,L=t.length+1:=⟨_,rfl⟩
      rw [← hL] at hsub hR
      have hrem:Int.tmod (L:Int) (k:Int)=(R:Nat):=by rw [hR,Int.tmod_eq_emod_of_nonneg (by omega)];omega
      have hL9:L≤800:=by simp only [List.length_cons] at hlen;omega
      have hR9:R<100:=by rw [hR];exact Nat.lt_of_lt_of_le (Nat.mod_lt _ (by omega)) hk9
      by_cases hi0:i=0
      ·subst hi0
       have HRES:=hid (show G=(T++[c])++grpD mark k (decide (0+1=0)) t from by rw [hres];show T++(([]:Str)++c::grpD mark k false t)=_;simp)
       have hct:=cat_run T [c] (by omega) (by simp)
       clear hres hat hlen hL hR
       go_wp2
       go_roundg (body.length+1-(0+1))
       case measure=>exact hkk
       case rel=>exact ⟨0+1,t,T++[c],rfl,by go_num,HAT.out.tail,rfl,HRES.out,rfl⟩
      ·have hdi:decide (i=0)=false:=decide_eq_false hi0
       have hdi2:decide (i+1=0)=false:=decide_eq_false (by omega)
       have hi0I:(0:Int)<(i:Int):=by omega
       by_cases hr:R=0
       ·have HRES:=hid (show G=((T++mark)++[c])++grpD mark k (decide (i+1=0)) t from by rw [hres,hdi,hdi2,grpD,if_pos ⟨rfl,by rw [← hL,← hR];exact hr⟩];simp)
        have hrq:((R:Int) == 0)=true:=by rw [beq_iff_eq];omega
        have hrq2:(R:Int)=0:=by omega
        have hct:=cat_run T mark (by omega) (by omega)
        have hct2:=cat_run (T++mark) [c] (by rw [List.length_append];omega) (by simp)
        clear hres hat hlen hL hR hr
        go_wp2
        go_roundg (body.length+1-(i+1))
        case measure=>exact hkk
        case rel=>exact ⟨i+1,t,(T++mark)++[c],by first | rfl | rw [List.append_assoc],by go_num,HAT.out.tail,rfl,HRES.out,rfl⟩
       ·have HRES:=hid (show G=(T++[c])++grpD mark k (decide (i+1=0)) t from by rw [hres,hdi,hdi2,grpD,if_neg (fun h=>hr (by rw [hR,hL];exact h.2))];simp)
        have hrq:((R:Int) == 0)=false:=by rw [beq_eq_false_iff_ne];omega
        have hrq2:¬ ((R:Int)=0):=by omega
        have hct:=cat_run T [c] (by omega) (by simp)
        clear hres hat hlen hL hR hr
        go_wp2
        go_roundg (body.length+1-(i+1))
        case measure=>exact hkk
        case rel=>exact ⟨i+1,t,T++[c],rfl,by go_num,HAT.out.tail,rfl,HRES.out,rfl⟩
end Go.Proofs.YtbilphfbfnohmaaGreatDoor.Pz
namespace Go.Proofs.YtbilphfbfnohmaaGreatDoor.Pz
open Go.RowKit
theorem replaceK_len (old:Str):∀ (k:Nat) (s:Str),(Lib.replaceK old [] k s).length≤s.length
 | 0,_=>by rw [Lib.replaceK];exact Nat.le_refl _
 | k+1,s=>by
  rw [Lib.replaceK]
  have:=replaceK_len old k (s.drop ((Lib.index s old).toNat+old.length))
  split
  ·exact Nat.le_refl _
  ·rw [List.length_append,List.length_append,List.length_take]
   rw [List.length_drop] at this
   simp only [List.length_nil]
   omega
theorem replaceAll_len (s old:Str):(Lib.replaceAll s old []).length≤s.length:=by
 unfold Lib.replaceAll Lib.replace
 split
 ·exact Nat.le_refl _
 ·exact replaceK_len _ _ _
theorem rep_fn (s mark:Str) (hs:s.length≤1000000) (hl:mark.length≤1000000) (h0:mark≠[]) (w:World) (hml:ML w):Calls Tryz.prog 28 #[.string ⟨s.toArray⟩,.string ⟨mark.toArray⟩,.string ⟨#[]⟩] w fun e w'=>e=.returned (.string ⟨(Lib.replaceAll s mark []).toArray⟩)∧Below w.heap.size w w':=by
 obtain ⟨m,hm⟩:=hml
 have hp:1≤mark.length:=List.length_pos_iff.2 h0
 exact Tryz.strings_ReplaceAll ⟨s.toArray⟩ ⟨mark.toArray⟩ ⟨#[]⟩ m w (by rw [Lib.size_mk];omega) hm (by rw [Lib.size_mk];exact hp) (by
  have h2:(⟨#[]⟩:ByteArray).size=0:=rfl
  rw [Lib.size_mk,h2,Nat.mul_zero]
  omega)
theorem group_zero (mark:Str) (every:Int):∃ x,groupE [48] mark every=(x,markE mark every):=by
 unfold groupE
 by_cases h:markE mark every≠0
 ·rw [if_pos h]
  exact ⟨_,rfl⟩
 ·rw [if_neg h]
  have hc:canRes [48]=(txt 0,0):=can_txt (z:=0) (by have:=big600_pos;show 0<big600;omega)
  rw [hc,if_neg (by decide),Classical.not_not.1 h]
  exact ⟨_,rfl⟩
theorem groupE_ok {N mark:Str} {every:Int} (hm:markE mark every=0) {t:Str} (hc:canRes N=(t,0)):(groupE N mark every).2=0:=by
 unfold groupE
 rw [if_neg (by rw [hm];decide),hc,if_neg (fun h=>h rfl)]
theorem groupE_bad {N mark:Str} {every:Int} (hm:markE mark every=0) {z:Int} (hz:z≠0) (hc:canRes N=([],z)):groupE N mark every=([],z):=by
 unfold groupE
 rw [if_neg (by rw [hm];decide),hc,if_pos hz]
theorem groupE_len (n mark:Str) (every:Int):(groupE n mark every).1.length≤602*(mark.length+1):=by
 unfold groupE
 split
 ·simp
 ·split
  ·simp
  ·have hg:=grpD_len mark every.toNat true (bodyG (canRes n).1)
   have hs:=congrArg List.length (sgn_body (canRes n).1)
   rw [List.length_append] at hs
   have hd:(canRes n).1.length≤601:=by
    rcases canT n with e | e | ⟨e,hb⟩
    ·rw [e];simp
    ·rw [e];simp
    ·rw [e];exact txt_len _ hb
   have hb:(bodyG (canRes n).1).length*(mark.length+1)≤601*(mark.length+1):=Nat.mul_le_mul_right _ (by omega)
   have hsg:(sgnG (canRes n).1).length≤1:=by unfold sgnG;split<;>simp
   have e1:602*(mark.length+1)=601*(mark.length+1)+(mark.length+1):=by omega
   rw [List.length_append]
   omega
set_option maxRecDepth 1000000 in
set_option maxHeartbeats 8000000 in
theorem ungroupP_fn (s mark:Str) (hs:s.length≤100000) (hl:mark.length≤1000) (every:Int) (w:World) (hml:ML w) :
  Calls Tryz.prog 32 #[.string ⟨s.toArray⟩,.string ⟨mark.toArray⟩,.int .i64 every] w fun e w'=>e=.returned (.tuple #[.string ⟨(ungE s mark every).1.toArray⟩,.int .i64 (ungE s mark every).2])∧Below w.heap.size w w':=by
 have HG0:=hid (show Calls Tryz.prog 30 #[.string ⟨#[48]⟩,.string ⟨mark.toArray⟩,.int .i64 every] w fun e w'=>e=.returned (.tuple #[.string ⟨(groupE [48] mark every).1.toArray⟩,.int .i64 (groupE [48] mark every).2])∧Below w.heap.size w w' from groupP_fn [48] mark (by decide) hl every w)
 obtain ⟨x0,hx0⟩:=group_zero mark every
 rw [hx0] at HG0
 clear hx0
 have HML:=hid hml
 clear hml
 rcases markE_two mark every with ⟨hm,-⟩ | ⟨h0,h1,⟨hm,h2⟩ | ⟨hm,h2⟩⟩
 ·have hU:ungE s mark every=([],1):=by unfold ungE;rw [hm];rfl
  rw [hU]
  rw [hm] at HG0
  clear hm hU
  go_enter Tryz.func32,Tryz.ntmps32
  go_wp2_with (go_at_call 30;(with_reducible refine HG0.out.mono ?_);rintro e w1 ⟨rfl,hb1⟩;have HB1:=hid hb1;clear hb1;clear HG0)
  go_ret2
  exact ⟨rfl,HB1.out⟩
 ·have hU:ungE s mark every=([],7):=by unfold ungE;rw [hm];rfl
  rw [hU]
  rw [hm] at HG0
  clear hm hU h0 h1 h2
  go_enter Tryz.func32,Tryz.ntmps32
  go_wp2_with (go_at_call 30;(with_reducible refine HG0.out.mono ?_);rintro e w1 ⟨rfl,hb1⟩;have HB1:=hid hb1;clear hb1;clear HG0)
  go_ret2
  exact ⟨rfl,HB1.out⟩
 ·have hU:ungE s mark every=if canRes (Lib.replaceAll s mark [])=(Lib.replaceAll s mark [],0)∧(groupE (Lib.replaceAll s mark []) mark every).1=s then (Lib.replaceAll s mark [],0) else ([],2):=by unfold ungE;rw [if_neg (by rw [hm];decide)]
  rw [hU]
  rw [hm] at HG0
  have HRP:=hid (fun u hu=>rep_fn s mark (by omega) (by omega) h0 u hu)
  have hNl:=replaceAll_len s mark
  obtain ⟨N,hN⟩:∃ N,N=Lib.replaceAll s mark []:=⟨_,rfl⟩
  rw [← hN] at HRP hNl ⊢
  have HCN:=hid (fun u=>can_fn N (by omega) u)
  clear hU hN h1 h2
  rcases canT N with e | e | ⟨e,-⟩
  ·rw [if_neg (fun h=>by rw [e] at h;have h9:=congrArg Prod.snd h.1;simp at h9)]
   rw [e] at HCN
   clear e hm h0
   go_enter Tryz.func32,Tryz.ntmps32
   go_wp2_with (first|(go_at_call 30;(with_reducible refine HG0.out.mono ?_);rintro e w1 ⟨rfl,hb1⟩;have HB1:=hid hb1;clear hb1;clear HG0)|(go_at_call 28;(with_reducible refine (HRP.out _ (HML.out.below HB1.out)).mono ?_);rintro e w2 ⟨rfl,hb2⟩;have HB2:=hid (HB1.out.trans (hb2.mono HB1.out.size));clear hb2)|(go_at_call 71;(with_reducible refine (HCN.out _).mono ?_);rintro e w3 ⟨rfl,hb3⟩;have HB3:=hid (HB2.out.trans (hb3.mono HB2.out.size));clear hb3))
   go_ret2
   exact ⟨rfl,HB3.out⟩
  ·rw [if_neg (fun h=>by rw [e] at h;have h9:=congrArg Prod.snd h.1;simp at h9)]
   rw [e] at HCN
   clear e hm h0
   go_enter Tryz.func32,Tryz.ntmps32
   go_wp2_with (first|(go_at_call 30;(with_reducible refine HG0.out.mono ?_);rintro e w1 ⟨rfl,hb1⟩;have HB1:=hid hb1;clear hb1;clear HG0)|(go_at_call 28;(with_reducible refine (HRP.out _ (HML.out.below HB1.out)).mono ?_);rintro e w2 ⟨rfl,hb2⟩;have HB2:=hid (HB1.out.trans (hb2.mono HB1.out.size));clear hb2)|(go_at_call 71;(with_reducible refine (HCN.out _).mono ?_);rintro e w3 ⟨rfl,hb3⟩;have HB3:=hid (HB2.out.trans (hb3.mono HB2.out.size));clear hb3))
   go_ret2
   exact ⟨rfl,HB3.out⟩
  ·obtain ⟨t,ht⟩:∃ t,t=txt (pVal N):=⟨_,rfl⟩
   rw [← ht] at e
   have hg0:=groupE_ok hm e
   have HGN:=hid (fun u=>groupP_fn N mark (by omega) hl every u)
   obtain ⟨g,hg⟩:∃ g,g=(groupE N mark every).1:=⟨_,rfl⟩
   rw [hg0,← hg] at HGN
   rw [← hg]
   rw [e] at HCN ⊢
   clear ht hg0 hg hm h0 e
   by_cases htN:t=N
   ·subst htN
    by_cases hgs:g=s
    ·subst hgs
     rw [if_pos ⟨rfl,rfl⟩]
     go_enter Tryz.func32,Tryz.ntmps32
     go_wp2_with (first|(go_at_call 30;(with_reducible refine HG0.out.mono ?_);rintro e w1 ⟨rfl,hb1⟩;have HB1:=hid hb1;clear hb1;clear HG0)|(go_at_call 28;(with_reducible refine (HRP.out _ (HML.out.below HB1.out)).mono ?_);rintro e w2 ⟨rfl,hb2⟩;have HB2:=hid (HB1.out.trans (hb2.mono HB1.out.size));clear hb2)|(go_at_call 71;(with_reducible refine (HCN.out _).mono ?_);rintro e w3 ⟨rfl,hb3⟩;have HB3:=hid (HB2.out.trans (hb3.mono HB2.out.size));clear hb3)|(go_at_call 30;(with_reducible refine (HGN.out _).mono ?_);rintro e w4 ⟨rfl,hb4⟩;have HB4:=hid (HB3.out.trans (hb4.mono HB3.out.size));clear hb4))
     go_ret2
     exact ⟨rfl,HB4.out⟩
    ·rw [if_neg (fun h=>hgs h.2)]
     have hbq:(g == s)=false:=beq_eq_false_iff_ne.2 hgs
     have hbq2:(g != s)=true:=bne_iff_ne.2 hgs
     clear hgs
     go_enter Tryz.func32,Tryz.ntmps32
     go_wp2_with (first|(go_at_call 30;(with_reducible refine HG0.out.mono ?_);rintro e w1 ⟨rfl,hb1⟩;have HB1:=hid hb1;clear hb1;clear HG0)|(go_at_call 28;(with_reducible refine (HRP.out _ (HML.out.below HB1.out)).mono ?_);rintro e w2 ⟨rfl,hb2⟩;have HB2:=hid (HB1.out.trans (hb2.mono HB1.out.size));clear hb2)|(go_at_call 71;(with_reducible refine (HCN.out _).mono ?_);rintro e w3 ⟨rfl,hb3⟩;have HB3:=hid (HB2.out.trans (hb3.mono HB2.out.size));clear hb3)|(go_at_call 30;(with_reducible refine (HGN.out _).mono ?_);rintro e w4 ⟨rfl,hb4⟩;have HB4:=hid (HB3.out.trans (hb4.mono HB3.out.size));clear hb4))
     go_ret2
     exact ⟨rfl,HB4.out⟩
   ·rw [if_neg (fun h=>htN (congrArg Prod.fst h.1))]
    have hbq:(t == N)=false:=beq_eq_false_iff_ne.2 htN
    have hbq2:(t != N)=true:=bne_iff_ne.2 htN
    clear htN
    go_enter Tryz.func32,Tryz.ntmps32
    go_wp2_with (first|(go_at_call 30;(with_reducible refine HG0.out.mono ?_);rintro e w1 ⟨rfl,hb1⟩;have HB1:=hid hb1;clear hb1;clear HG0)|(go_at_call 28;(with_reducible refine (HRP.out _ (HML.out.below HB1.out)).mono ?_);rintro e w2 ⟨rfl,hb2⟩;have HB2:=hid (HB1.out.trans (hb2.mono HB1.out.size));clear hb2)|(go_at_call 71;(with_reducible refine (HCN.out _).mono ?_);rintro e w3 ⟨rfl,hb3⟩;have HB3:=hid (HB2.out.trans (hb3.mono HB2.out.size));clear hb3))
    go_ret2
    exact ⟨rfl,HB3.out⟩
set_option maxRecDepth 1000000 in
set_option maxHeartbeats 8000000 in
theorem ungroupR_fn (s mark:Str) (hs:s.length≤100000) (hl:mark.length≤1000) (every:Int) (w:World) (hml:ML w) :
  Calls Tryz.prog 33 #[.string ⟨s.toArray⟩,.string ⟨mark.toArray⟩,.int .i64 every] w fun e w'=>e=.returned (.tuple #[.string ⟨(ungE s mark every).1.toArray⟩,.int .i64 (ungE s mark every).2])∧Below w.heap.size w w':=by
 have HMK:=hid (marked_fn mark (by omega) every w)
 have HML:=hid hml
 clear hml
 rcases markE_two mark every with ⟨hm,-⟩ | ⟨h0,h1,⟨hm,h2⟩ | ⟨hm,h2⟩⟩
 ·have hU:ungE s mark every=([],1):=by unfold ungE;rw [hm];rfl
  rw [hU]
  rw [hm] at HMK
  clear hm hU
  go_enter Tryz.func33,Tryz.ntmps33
  go_wp2_with (go_at_call 72;(with_reducible refine HMK.out.mono ?_);rintro e w1 ⟨rfl,hb1⟩;have HB1:=hid hb1;clear hb1)
  go_ret2
  exact ⟨rfl,HB1.out⟩
 ·have hU:ungE s mark every=([],7):=by unfold ungE;rw [hm];rfl
  rw [hU]
  rw [hm] at HMK
  clear hm hU h0 h1 h2
  go_enter Tryz.func33,Tryz.ntmps33
  go_wp2_with (go_at_call 72;(with_reducible refine HMK.out.mono ?_);rintro e w1 ⟨rfl,hb1⟩;have HB1:=hid hb1;clear hb1)
  go_ret2
  exact ⟨rfl,HB1.out⟩
 ·have hU:ungE s mark every=if canRes (Lib.replaceAll s mark [])=(Lib.replaceAll s mark [],0)∧(groupE (Lib.replaceAll s mark []) mark every).1=s then (Lib.replaceAll s mark [],0) else ([],2):=by unfold ungE;rw [if_neg (by rw [hm];decide)]
  rw [hU]
  rw [hm] at HMK
  have HRP:=hid (fun u hu=>rep_fn s mark (by omega) (by omega) h0 u hu)
  have hNl:=replaceAll_len s mark
  obtain ⟨N,hN⟩:∃ N,N=Lib.replaceAll s mark []:=⟨_,rfl⟩
  rw [← hN] at HRP hNl ⊢
  have HCN:=hid (fun u=>canR_fn N (by omega) u)
  have HGN:=hid (fun u=>groupR_fn N mark (by omega) hl every u)
  clear hU hN h1 h2
  rcases canT N with e | e | ⟨e,-⟩
  ·rw [if_neg (fun h=>by rw [e] at h;have h9:=congrArg Prod.snd h.1;simp at h9)]
   rw [groupE_bad hm (by decide) e] at HGN
   clear e hm h0 HCN
   go_enter Tryz.func33,Tryz.ntmps33
   go_wp2_with (first|(go_at_call 72;(with_reducible refine HMK.out.mono ?_);rintro e w1 ⟨rfl,hb1⟩;have HB1:=hid hb1;clear hb1)|(go_at_call 28;(with_reducible refine (HRP.out _ (HML.out.below HB1.out)).mono ?_);rintro e w2 ⟨rfl,hb2⟩;have HB2:=hid (HB1.out.trans (hb2.mono HB1.out.size));clear hb2)|(go_at_call 31;(with_reducible refine (HGN.out _).mono ?_);rintro e w3 ⟨rfl,hb3⟩;have HB3:=hid (HB2.out.trans (hb3.mono HB2.out.size));clear hb3))
   go_ret2
   exact ⟨rfl,HB3.out⟩
  ·rw [if_neg (fun h=>by rw [e] at h;have h9:=congrArg Prod.snd h.1;simp at h9)]
   rw [groupE_bad hm (by decide) e] at HGN
   clear e hm h0 HCN
   go_enter Tryz.func33,Tryz.ntmps33
   go_wp2_with (first|(go_at_call 72;(with_reducible refine HMK.out.mono ?_);rintro e w1 ⟨rfl,hb1⟩;have HB1:=hid hb1;clear hb1)|(go_at_call 28;(with_reducible refine (HRP.out _ (HML.out.below HB1.out)).mono ?_);rintro e w2 ⟨rfl,hb2⟩;have HB2:=hid (HB1.out.trans (hb2.mono HB1.out.size));clear hb2)|(go_at_call 31;(with_reducible refine (HGN.out _).mono ?_);rintro e w3 ⟨rfl,hb3⟩;have HB3:=hid (HB2.out.trans (hb3.mono HB2.out.size));clear hb3))
   go_ret2
   exact ⟨rfl,HB3.out⟩
  ·obtain ⟨t,ht⟩:∃ t,t=txt (pVal N):=⟨_,rfl⟩
   rw [← ht] at e
   have hg0:=groupE_ok hm e
   obtain ⟨g,hg⟩:∃ g,g=(groupE N mark every).1:=⟨_,rfl⟩
   rw [hg0,← hg] at HGN
   rw [← hg]
   rw [e] at HCN ⊢
   clear ht hg0 hg hm h0 e
   by_cases hgs:g=s
   ·subst hgs
    by_cases htN:t=N
    ·subst htN
     rw [if_pos ⟨rfl,rfl⟩]
     go_enter Tryz.func33,Tryz.ntmps33
     go_wp2_with (first|(go_at_call 72;(with_reducible refine HMK.out.mono ?_);rintro e w1 ⟨rfl,hb1⟩;have HB1:=hid hb1;clear hb1)|(go_at_call 28;(with_reducible refine (HRP.out _ (HML.out.below HB1.out)).mono ?_);rintro e w2 ⟨rfl,hb2⟩;have HB2:=hid (HB1.out.trans (hb2.mono HB1.out.size));clear hb2)|(go_at_call 31;(with_reducible refine (HGN.out _).mono ?_);rintro e w3 ⟨rfl,hb3⟩;have HB3:=hid (HB2.out.trans (hb3.mono HB2.out.size));clear hb3)|(go_at_call 11;(with_reducible refine (HCN.out _).mono ?_);rintro e w4 ⟨rfl,hb4⟩;have HB4:=hid (HB3.out.trans (hb4.mono HB3.out.size));clear hb4))
     go_ret2
     exact ⟨rfl,HB4.out⟩
    ·rw [if_neg (fun h=>htN (congrArg Prod.fst h.1))]
     have hbq:(t == N)=false:=beq_eq_false_iff_ne.2 htN
     have hbq2:(t != N)=true:=bne_iff_ne.2 htN
     clear htN
     go_enter Tryz.func33,Tryz.ntmps33
     go_wp2_with (first|(go_at_call 72;(with_reducible refine HMK.out.mono ?_);rintro e w1 ⟨rfl,hb1⟩;have HB1:=hid hb1;clear hb1)|(go_at_call 28;(with_reducible refine (HRP.out _ (HML.out.below HB1.out)).mono ?_);rintro e w2 ⟨rfl,hb2⟩;have HB2:=hid (HB1.out.trans (hb2.mono HB1.out.size));clear hb2)|(go_at_call 31;(with_reducible refine (HGN.out _).mono ?_);rintro e w3 ⟨rfl,hb3⟩;have HB3:=hid (HB2.out.trans (hb3.mono HB2.out.size));clear hb3)|(go_at_call 11;(with_reducible refine (HCN.out _).mono ?_);rintro e w4 ⟨rfl,hb4⟩;have HB4:=hid (HB3.out.trans (hb4.mono HB3.out.size));clear hb4))
     go_ret2
     exact ⟨rfl,HB4.out⟩
   ·rw [if_neg (fun h=>hgs h.2)]
    have hbq:(g == s)=false:=beq_eq_false_iff_ne.2 hgs
    have hbq2:(g != s)=true:=bne_iff_ne.2 hgs
    clear hgs
    go_enter Tryz.func33,Tryz.ntmps33
    go_wp2_with (first|(go_at_call 72;(with_reducible refine HMK.out.mono ?_);rintro e w1 ⟨rfl,hb1⟩;have HB1:=hid hb1;clear hb1)|(go_at_call 28;(with_reducible refine (HRP.out _ (HML.out.below HB1.out)).mono ?_);rintro e w2 ⟨rfl,hb2⟩;have HB2:=hid (HB1.out.trans (hb2.mono HB1.out.size));clear hb2)|(go_at_call 31;(with_reducible refine (HGN.out _).mono ?_);rintro e w3 ⟨rfl,hb3⟩;have HB3:=hid (HB2.out.trans (hb3.mono HB2.out.size));clear hb3))
    go_ret2
    exact ⟨rfl,HB3.out⟩
set_option maxRecDepth 1000000 in
set_option maxHeartbeats 8000000 in
theorem spellGroups_fn (n s mark:Str) (every:Int) (w:World) (hml:ML w) (hn:n.length≤9223372036854775807) (hs:s.length≤9223372036854775807) (hm:mark.length≤9223372036854775807) :
  Calls Tryz.prog 8 #[.string ⟨n.toArray⟩,.string ⟨s.toArray⟩,.string ⟨mark.toArray⟩,.int .i64 every] w fun e w'=>e=.returned (.bool true)∧Below w.heap.size w w':=by
 have hnz:(⟨n.toArray⟩:ByteArray).size=n.length:=Lib.size_mk _
 have hsz:(⟨s.toArray⟩:ByteArray).size=s.length:=Lib.size_mk _
 have hmz:(⟨mark.toArray⟩:ByteArray).size=mark.length:=Lib.size_mk _
 have HA:=hid awake_fn
 by_cases h1:800<n.length
 ·have d1:decide ((800:Int)<(n.length:Int))=true:=decide_eq_true (by omega)
  have d1b:(800:Int)<(n.length:Int):=by omega
  clear hml
  go_enter Tryz.func8,Tryz.ntmps8
  go_wp2_with ((with_reducible refine (HA.out _).mono ?_);rintro e w1 ⟨rfl,hb1⟩)
  go_ret
  exact ⟨rfl,hb1⟩
 ·have d1:decide ((800:Int)<(n.length:Int))=false:=decide_eq_false (by omega)
  have d1b:¬ (800:Int)<(n.length:Int):=by omega
  by_cases h2:800<s.length
  ·have d2:decide ((800:Int)<(s.length:Int))=true:=decide_eq_true (by omega)
   have d2b:(800:Int)<(s.length:Int):=by omega
   clear hml
   go_enter Tryz.func8,Tryz.ntmps8
   go_wp2_with ((with_reducible refine (HA.out _).mono ?_);rintro e w1 ⟨rfl,hb1⟩)
   go_ret
   exact ⟨rfl,hb1⟩
  ·have d2:decide ((800:Int)<(s.length:Int))=false:=decide_eq_false (by omega)
   have d2b:¬ (800:Int)<(s.length:Int):=by omega
   by_cases h3:20<mark.length
   ·have d3:decide ((20:Int)<(mark.length:Int))=true:=decide_eq_true (by omega)
    have d3b:(20:Int)<(mark.length:Int):=by omega
    clear hml
    go_enter Tryz.func8,Tryz.ntmps8
    go_wp2_with ((with_reducible refine (HA.out _).mono ?_);rintro e w1 ⟨rfl,hb1⟩)
    go_ret
    exact ⟨rfl,hb1⟩
   ·have d3:decide ((20:Int)<(mark.length:Int))=false:=decide_eq_false (by omega)
    have d3b:¬ (20:Int)<(mark.length:Int):=by omega
    have H1:=hid (fun u=>groupP_fn n mark (by omega) (by omega) every u)
    have H2:=hid (fun u=>groupR_fn n mark (by omega) (by omega) every u)
    have H3:=hid (fun u hu=>ungroupP_fn s mark (by omega) (by omega) every u hu)
    have H4:=hid (fun u hu=>ungroupR_fn s mark (by omega) (by omega) every u hu)
    have HML:=hid hml
    clear hml
    obtain ⟨p,hp⟩:∃ p,p=ungE s mark every:=⟨_,rfl⟩
    rw [← hp] at H3 H4
    obtain ⟨c,z⟩:=p
    clear hp
    by_cases he:(groupE n mark every).2=0
    ·have hal:=groupE_len n mark every
     have hal2:602*(mark.length+1)≤602*21:=Nat.mul_le_mul_left _ (by omega)
     have H5:=hid (fun u hu=>ungroupP_fn (groupE n mark every).1 mark (by omega) (by omega) every u hu)
     rw [ung_group he] at H5
     have H6:=hid (fun u=>canR_fn n (by omega) u)
     obtain ⟨a,ha⟩:∃ a,a=(groupE n mark every).1:=⟨_,rfl⟩
     rw [he,← ha] at H1 H2
     rw [← ha] at H5
     obtain ⟨q,hq⟩:∃ q,q=canRes n:=⟨_,rfl⟩
     rw [← hq] at H5 H6
     obtain ⟨q1,q2⟩:=q
     clear ha hq he hal hal2
     go_enter Tryz.func8,Tryz.ntmps8
     go_wp2_with (first|(go_at_call 30;refine (H1.out _).mono ?_;rintro e w1 ⟨rfl,hb1⟩;have HB1:=hid hb1;clear hb1)|(go_at_call 31;refine (H2.out _).mono ?_;rintro e w2 ⟨rfl,hb2⟩;have HB2:=hid (HB1.out.trans (hb2.mono HB1.out.size));clear hb2)|(go_at_call 32;refine (H3.out _ (HML.out.below HB2.out)).mono ?_;rintro e w3 ⟨rfl,hb3⟩;have HB3:=hid (HB2.out.trans (hb3.mono HB2.out.size));clear hb3;clear H3)|(go_at_call 33;refine (H4.out _ (HML.out.below HB3.out)).mono ?_;rintro e w4 ⟨rfl,hb4⟩;have HB4:=hid (HB3.out.trans (hb4.mono HB3.out.size));clear hb4)|(go_at_call 32;refine (H5.out _ (HML.out.below HB4.out)).mono ?_;rintro e w5 ⟨rfl,hb5⟩;have HB5:=hid (HB4.out.trans (hb5.mono HB4.out.size));clear hb5)|(go_at_call 11;refine (H6.out _).mono ?_;rintro e w6 ⟨rfl,hb6⟩;have HB6:=hid (HB5.out.trans (hb6.mono HB5.out.size));clear hb6)|(go_at_call 12;refine (HA.out _).mono ?_;rintro e w7 ⟨rfl,hb7⟩;have HB7:=hid (HB6.out.trans (hb7.mono HB6.out.size));clear hb7))
     go_ret
     exact ⟨rfl,HB7.out⟩
    ·obtain ⟨p,hp⟩:∃ p,p=groupE n mark every:=⟨_,rfl⟩
     rw [← hp] at H1 H2 he
     obtain ⟨a,x⟩:=p
     have hx:¬ x=0:=he
     have hxq:(x == 0)=false:=beq_eq_false_iff_ne.2 hx
     have hxq2:(x != 0)=true:=bne_iff_ne.2 hx
     clear hp he
     go_enter Tryz.func8,Tryz.ntmps8
     go_wp2_with (first|(go_at_call 30;refine (H1.out _).mono ?_;rintro e w1 ⟨rfl,hb1⟩;have HB1:=hid hb1;clear hb1)|(go_at_call 31;refine (H2.out _).mono ?_;rintro e w2 ⟨rfl,hb2⟩;have HB2:=hid (HB1.out.trans (hb2.mono HB1.out.size));clear hb2)|(go_at_call 32;refine (H3.out _ (HML.out.below HB2.out)).mono ?_;rintro e w3 ⟨rfl,hb3⟩;have HB3:=hid (HB2.out.trans (hb3.mono HB2.out.size));clear hb3;clear H3)|(go_at_call 33;refine (H4.out _ (HML.out.below HB3.out)).mono ?_;rintro e w4 ⟨rfl,hb4⟩;have HB4:=hid (HB3.out.trans (hb4.mono HB3.out.size));clear hb4)|(go_at_call 12;refine (HA.out _).mono ?_;rintro e w5 ⟨rfl,hb5⟩;have HB5:=hid (HB4.out.trans (hb5.mono HB4.out.size));clear hb5))
     go_ret
     exact ⟨rfl,HB5.out⟩
end Go.Proofs.YtbilphfbfnohmaaGreatDoor.Pz
