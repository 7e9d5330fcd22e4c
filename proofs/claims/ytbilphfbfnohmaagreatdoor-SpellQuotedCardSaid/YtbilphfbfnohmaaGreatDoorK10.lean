/-
  Part K10 of the proofs of this seat, merged by a program out of 9 texts; remarks are struck.
-/
import Derived.RangeFuncNested
import Derived.RangeFuncBound
import Derived.RangeFuncCalls
import Derived.RangeFuncLeaves
import Derived.RangeFuncBox
import Derived.Shelf.Abstract
import Derived.Shelf.RegionOpen
import Derived.OwnWalkIn
import Derived.TacticsInMore
import Derived.LoopNIn
import Derived.LoopIn
import Derived.Maps.OwnIn
import Derived.Test.YtbilphfbfnohmaaGreatDoorK9
namespace Go.Proofs.YtbilphfbfnohmaaGreatDoor.Pz
def quotedE:Str→Option (Str×Str)
 | []=>none
 | c::t=>if c == 34 then some ([],t) else if c == 92 then pre (unesc t).1 (quotedE (unesc t).2) else pre [c] (quotedE t)
termination_by l=>l.length
decreasing_by
 ·have:=suf_len (unesc_suf t)
  simp only [List.length_cons]
  omega
 ·simp
def preP (p:Str) (x:Str×Str):Str×Str:=(p++x.1,x.2)
def bareE:Str→Str×Str
 | []=>([],[])
 | c::t=>if white c then ([],c::t) else if c == 92 then preP (unesc t).1 (bareE (unesc t).2) else preP [c] (bareE t)
termination_by l=>l.length
decreasing_by
 ·have:=suf_len (unesc_suf t)
  simp only [List.length_cons]
  omega
 ·simp
def elemE:Str→Option (Str×Str)
 | []=>none
 | c::t=>if c == 123 then brace 0 t else if c == 34 then quotedE t else some (bareE (c::t))
def spaced:Str→Bool
 | []=>true
 | c::_=>white c
def listE:Str→Sum Nat (List Str)
 | []=>.inr []
 | c::t=>if white c then listE t else
  match elemE (c::t) with
  | none=>.inl (t.length+1)
  | some (x,r)=>if h:r.length<t.length+1 then if spaced r then (match listE r with | .inl b=>.inl b | .inr xs=>.inr (x::xs)) else .inl (t.length+1) else .inl 0
termination_by l=>l.length
decreasing_by
 ·simp
 ·simpa using h
theorem quotedE_suf:∀ (n:Nat) (l:Str),l.length≤n→∀ s r,quotedE l=some (s,r)→r.length<l.length∧r <:+ l
 | _,[],_,s,r,h=>by rw [quotedE] at h;cases h
 | 0,c::t,hn,_,_,_=>absurd hn (by simp)
 | n+1,c::t,hn,s,r,h=>by
  have ht:t.length≤n:=by simpa using hn
  rw [quotedE] at h
  split at h
  ·simp only [Option.some.injEq,Prod.mk.injEq] at h
   obtain ⟨rfl,rfl⟩:=h
   exact ⟨by simp,suf_tail c t⟩
  ·split at h
   ·obtain ⟨s',h',rfl⟩:=pre_some h
    have hu:=suf_len (unesc_suf t)
    obtain ⟨a,b⟩:=quotedE_suf n _ (by omega) _ _ h'
    exact ⟨by simp;omega,b.trans ((unesc_suf t).trans (suf_tail c t))⟩
   ·obtain ⟨s',h',rfl⟩:=pre_some h
    obtain ⟨a,b⟩:=quotedE_suf n t ht _ _ h'
    exact ⟨by simp;omega,b.trans (suf_tail c t)⟩
theorem bareE_suf:∀ (n:Nat) (l:Str),l.length≤n→(bareE l).2 <:+ l∧spaced (bareE l).2=true
 | _,[],_=>by rw [bareE];exact ⟨List.suffix_refl _,rfl⟩
 | 0,c::t,hn=>absurd hn (by simp)
 | n+1,c::t,hn=>by
  have ht:t.length≤n:=by simpa using hn
  rw [bareE]
  split
  ·rename_i hw
   exact ⟨List.suffix_refl _,hw⟩
  ·split
   ·have hu:=suf_len (unesc_suf t)
    obtain ⟨a,b⟩:=bareE_suf n (unesc t).2 (by omega)
    exact ⟨a.trans ((unesc_suf t).trans (suf_tail c t)),b⟩
   ·obtain ⟨a,b⟩:=bareE_suf n t ht
    exact ⟨a.trans (suf_tail c t),b⟩
theorem bareE_less {c:UInt8} {t:Str} (h:white c=false):(bareE (c::t)).2.length≤t.length:=by
 rw [bareE,if_neg (by simp [h])]
 split
 ·have hu:=suf_len (unesc_suf t)
  have:=suf_len (bareE_suf _ (unesc t).2 (Nat.le_refl _)).1
  simp only [preP]
  omega
 ·exact suf_len (bareE_suf _ t (Nat.le_refl _)).1
theorem elemE_suf {c:UInt8} {t s r:Str} (hw:white c=false) (h:elemE (c::t)=some (s,r)):r.length≤t.length∧r <:+ c::t:=by
 have h':(if (c == 123)=true then brace 0 t else if (c == 34)=true then quotedE t else some (bareE (c::t)))=some (s,r):=h
 clear h
 have h:=h'
 clear h'
 split at h
 ·have ht:=brace_text t.length t (Nat.le_refl _) 0 s r h
  exact ⟨by rw [ht];simp;omega,by rw [ht];exact ⟨c::s++[125],by simp⟩⟩
 ·split at h
  ·obtain ⟨a,b⟩:=quotedE_suf _ t (Nat.le_refl _) s r h
   exact ⟨by omega,b.trans (suf_tail c t)⟩
  ·simp only [Option.some.injEq] at h
   have h1:=bareE_less (t:=t) hw
   have h2:=(bareE_suf _ (c::t) (Nat.le_refl _)).1
   rw [h] at h1 h2
   exact ⟨h1,h2⟩
theorem listE_white {c:UInt8} {t:Str} (h:white c=true):listE (c::t)=listE t:=by
 rw [listE,if_pos h]
theorem listE_cons {c:UInt8} {t:Str} (h:white c=false):listE (c::t) =
  match elemE (c::t) with
  | none=>.inl (t.length+1)
  | some (x,r)=>if spaced r then (match listE r with | .inl b=>.inl b | .inr xs=>.inr (x::xs)) else .inl (t.length+1):=by
 rw [listE,if_neg (by simp [h])]
 cases he:elemE (c::t) with
 | none=>rfl
 | some y=>
  obtain ⟨x,r⟩:=y
  have:=(elemE_suf h he).1
  dsimp only
  rw [dif_pos (by omega)]
def splitE (s:Str):List Str×Int×Int:=
 match listE s with
 | .inl b=>([],(s.length:Int)-(b:Int),2)
 | .inr xs=>if xs.length≤10000 then (xs,0,0) else ([],0,4)
end Go.Proofs.YtbilphfbfnohmaaGreatDoor.Pz
namespace Go.Proofs.YtbilphfbfnohmaaGreatDoor.Pz
abbrev Item:=Nat×Str×Bool
def itemsE:Str→List Item
 | []=>[]
 | c::t=>if white c then itemsE t else
  match elemE (c::t) with
  | none=>[(t.length+1,[],false)]
  | some (x,r)=>if h:r.length<t.length+1 then if spaced r then (t.length+1,x,true)::itemsE r else [(t.length+1,x,false)] else []
termination_by l=>l.length
decreasing_by
 ·simp
 ·simpa using h
theorem itemsE_white {c:UInt8} {t:Str} (h:white c=true):itemsE (c::t)=itemsE t:=by
 rw [itemsE,if_pos h]
theorem itemsE_cons {c:UInt8} {t:Str} (h:white c=false):itemsE (c::t) =
  match elemE (c::t) with
  | none=>[(t.length+1,[],false)]
  | some (x,r)=>if spaced r then (t.length+1,x,true)::itemsE r else [(t.length+1,x,false)]:=by
 rw [itemsE,if_neg (by simp [h])]
 cases he:elemE (c::t) with
 | none=>rfl
 | some y=>
  obtain ⟨x,r⟩:=y
  have:=(elemE_suf h he).1
  dsimp only
  rw [dif_pos (by omega)]
theorem items_list:∀ (n:Nat) (l:Str),l.length≤n→
    (∃ xs,listE l=.inr xs∧(itemsE l).map (fun x=>x.2.1)=xs∧∀ x∈itemsE l,x.2.2=true)∨(∃ b q y,listE l=.inl b∧itemsE l=q++[(b,y,false)]∧∀ x∈q,x.2.2=true)
  | _,[],_=>.inl ⟨[],by rw [listE],by rw [itemsE];rfl,by rw [itemsE];simp⟩
  | 0,c::t,h=>absurd h (by simp)
  | n+1,c::t,h=>by
    have ht:t.length≤n:=by simpa using h
    cases hw:white c with
    | true=>
      rw [listE_white hw,itemsE_white hw]
      exact items_list n t ht
    | false=>
      rw [listE_cons hw,itemsE_cons hw]
      cases he:elemE (c::t) with
      | none=>exact .inr ⟨_,[],[],rfl,rfl,by simp⟩
      | some y=>
        obtain ⟨x,r⟩:=y
        have hr:=(elemE_suf hw he).1
        dsimp only
        cases hs:spaced r with
        | false=>exact .inr ⟨_,[],x,by rw [if_neg (by simp)],by rw [if_neg (by simp)];rfl,by simp⟩
        | true=>
          rw [if_pos rfl,if_pos rfl]
          rcases items_list n r (by omega) with ⟨xs,h1,h2,h3⟩ | ⟨b,q,y,h1,h2,h3⟩
          · exact .inl ⟨x :: xs, by rw [h1], by rw [List.map_cons, h2], fun z hz => by
              rcases List.mem_cons.1 hz with rfl | hz
              · rfl
              · exact h3 z hz⟩
          · exact .inr ⟨b, (t.length + 1, x, true) :: q, y, by rw [h1], by rw [h2]; rfl, fun z hz => by
              rcases List.mem_cons.1 hz with rfl | hz
              · rfl
              · exact h3 z hz⟩
theorem items_len:∀ (n:Nat) (l:Str),l.length≤n→(itemsE l).length≤l.length
 | _,[],_=>by rw [itemsE];simp
 | 0,c::t,h=>absurd h (by simp)
 | n+1,c::t,h=>by
  have ht:t.length≤n:=by simpa using h
  cases hw:white c with
  | true=>
   rw [itemsE_white hw]
   have:=items_len n t ht
   simp
   omega
  | false=>
   rw [itemsE_cons hw]
   cases he:elemE (c::t) with
   | none=>simp
   | some y=>
    obtain ⟨x,r⟩:=y
    have hr:=(elemE_suf hw he).1
    have:=items_len n r (by omega)
    dsimp only
    split<;>simp<;>omega
theorem items_wrong {l:Str} {q:List Item} {b:Nat} {y:Str} (h:q++[(b,y,false)] <+: itemsE l):listE l=.inl b:=by
 obtain ⟨u,hu⟩:=h
 have hm:(b,y,false)∈itemsE l:=by rw [← hu];simp
 rcases items_list _ l (Nat.le_refl _) with ⟨xs,h1,h2,h3⟩ | ⟨b',q',y',h1,h2,h3⟩
 ·exact absurd (h3 _ hm) (by simp)
 ·rw [h2] at hm
  rcases List.mem_append.1 hm with hm | hm
  ·exact absurd (h3 _ hm) (by simp)
  ·simp only [List.mem_singleton,Prod.mk.injEq] at hm
   rw [h1,hm.1]
end Go.Proofs.YtbilphfbfnohmaaGreatDoor.Pz
namespace Go.Proofs.YtbilphfbfnohmaaGreatDoor.Pz
open Go.RowKit
theorem pre_pre (p q:Str) (o:Option (Str×Str)):pre p (pre q o)=pre (p++q) o:=by
 cases o with
 | none=>rfl
 | some x=>simp [pre]
theorem pre_nil (o:Option (Str×Str)):pre [] o=o:=by
 cases o with
 | none=>rfl
 | some x=>rfl
theorem brace_cons (D:Nat) (c:UInt8) (l':Str):brace D (c::l')=if c == 92 then (match l' with | []=>none | e::t'=>pre [c,e] (brace D t')) else if c == 123 then pre [c] (brace (D+1) l') else if c == 125 then (match D with | 0=>some ([],l') | d+1=>pre [c] (brace d l')) else pre [c] (brace D l'):=by
 rw [brace.eq_def]
 rfl
def kindOf (c:UInt8):Nat:=if c == 123 then 1 else if c == 34 then 2 else 0
theorem kind_fn (c:UInt8) (w:World):Calls Tryz.prog 126 #[.int .u8 (c.toNat:Nat)] w fun e w'=>e=.returned (.int .i64 (kindOf c:Nat))∧w'=w:=by
 by_cases h1:c=123
 ·subst h1
  go_enter Tryz.func126,Tryz.ntmps126
  go_wp2
  go_ret
  exact ⟨rfl,rfl⟩
 ·have n1:=byte_ne 123 h1 rfl
  by_cases h2:c=34
  ·subst h2
   go_enter Tryz.func126,Tryz.ntmps126
   go_wp2
   go_ret
   exact ⟨rfl,rfl⟩
  ·have n2:=byte_ne 34 h2 rfl
   have hk:kindOf c=0:=by unfold kindOf;rw [if_neg (by simpa using h1),if_neg (by simpa using h2)]
   go_enter Tryz.func126,Tryz.ntmps126
   go_wp2
   go_ret
   exact ⟨by rw [hk];rfl,rfl⟩
theorem Tryz.infoR:(Tryz.prog.info? 159).map (·.size)=some 3:=by kernel_rfl
theorem readers_fn (w:World):Calls Tryz.prog 124 #[] w fun e w'=>e=.returned (.agg #[.func (.func 169) #[] #[],.func (.func 170) #[] #[],.func (.func 171) #[] #[]])∧Below w.heap.size w w':=by
 go_enter Tryz.func124,Tryz.ntmps124
 go_wp2
 refine bodyPost_ret (results_cell_row rfl _ _ w.heap.size _ _ (0,0) _ rfl (heap_alloc_new _ _) Tryz.underlying159 rfl Tryz.infoR) rfl ?_
 exact ⟨rfl,(Below.refl _ _).alloc (Nat.le_refl _) _⟩
def readAns (n:Nat):Option (Str×Str)→Value
 | none=>.tuple #[.string ⟨#[]⟩,.int .i64 0,.bool false]
 | some (x,r)=>.tuple #[.string ⟨x.toArray⟩,.int .i64 ((n-r.length:Nat):Int),.bool true]
set_option maxRecDepth 100000 in
set_option maxHeartbeats 1000000 in
theorem readBraced_fn (t:Str) (ht:t.length≤1000000) (w:World):Calls Tryz.prog 170 #[.string ⟨(123::t).toArray⟩] w fun e w'=>e=.returned (readAns (t.length+1) (brace 0 t))∧w'=w:=by
  obtain ⟨s,hs⟩:∃ s:Str,s=123::t:=⟨_,rfl⟩
  have hat:At s (123::t) 0:=by rw [hs];exact At.start _
  have hsl:s.length=t.length+1:=by rw [hs];rfl
  rw [← hs]
  have hsz:(⟨s.toArray⟩:ByteArray).size=s.length:=Lib.size_mk _
  obtain ⟨o,ho⟩:∃ o,o=brace 0 t:=⟨_,rfl⟩
  rw [← ho]
  have HO:=hid ho
  have HAT:=hid hat
  have HS:=hid hs
  clear ho hat hs
  go_enter Tryz.func170,Tryz.ntmps170
  go_wp2_with fail
  go_loopg [5,6] (t.length+1) (fun k dv iv wr=>∃ i:Nat,iv=.int .i64 (i:Nat)∧wr=w∧((dv=.int .i64 0∧i=0∧k=t.length+1)∨
    (∃ (D:Nat) (p l':Str),dv=.int .i64 ((D+1:Nat):Int)∧D+1+l'.length≤1000001∧t=p++l'∧i=1+p.length∧k=l'.length∧o=pre p (brace D l'))∨((∃ D:Int,dv=.int .i64 D)∧s.length≤i∧i≤s.length+1∧o=none∧k=0)))
  case atStart=>exact ⟨0,rfl,rfl,.inl ⟨rfl,rfl,rfl⟩⟩
  case round=>
    obtain ⟨i,rfl,rfl,hcase⟩:=hrel
    rcases hcase with ⟨rfl,rfl,rfl⟩ | ⟨D,p,l',rfl,hD,ht',hi',rfl,ho⟩ | ⟨⟨D,rfl⟩,hge,hle,ho,rfl⟩
    · have hlt:=HAT.out.lt
      have hx:=HAT.out.byte
      go_wp2
      go_roundg t.length
      case measure=>omega
      case rel=>exact ⟨1,rfl,rfl,.inr (.inl ⟨0,[],t,rfl,by omega,rfl,rfl,rfl,by rw [pre_nil];exact HO.out⟩)⟩
    · have ha : At s l' i := by
        have h1:=HAT.out.tail
        rw [ht'] at h1
        have h2:=h1.app
        rw [show i=0+1+p.length by omega]
        exact h2
      have hlen:=ha.len
      have HT:=hid ht'
      have HI:=hid hi'
      have HP:=hid ho
      clear ht' ho
      cases l' with
      | nil=>
        have hge:s.length=i:=by simpa using hlen.symm
        have HN:Hid (o=none):=hid (by rw [HP.out];rfl)
        clear hi'
        go_wp2
        refine bodyPost_ret (v:=readAns (t.length+1) none) (by simp [readAns,results,Tryz.results170,go_sem]) rfl ?_
        exact ⟨by rw [HN.out],rfl⟩
      | cons c l'=>
        have hlt:=ha.lt
        have hx:=ha.byte
        have hB:=brace_cons D c l'
        rw [hB] at HP
        clear hB
        simp only [List.length_cons] at hD hlen
        by_cases h92:c=92
        · subst h92
          clear hi'
          cases l' with
          | nil=>
            go_wp2
            go_roundg 0
            case measure=>first | omega | simp
            case rel=>exact ⟨i+1+1,by go_num,rfl,.inr (.inr ⟨⟨_,rfl⟩,by simp at hlen;omega,by simp at hlen;omega,by rw [HP.out];rfl,rfl⟩)⟩
          | cons e t'=>
            go_wp2
            go_roundg t'.length
            case measure=>first | omega | simp
            case rel=>exact ⟨i+1+1,by go_num,rfl,.inr (.inl ⟨D,p++[92,e],t',rfl,by simp at hD;omega,by rw [HT.out];simp,by rw [HI.out];simp;omega,rfl,by rw [HP.out,if_pos (by decide)];exact pre_pre _ _ _⟩)⟩
        have n92:=byte_ne 92 h92 rfl
        have hP2:=HP.out
        rw [if_neg (by simpa using h92)] at hP2
        have HP2:=hid hP2
        clear hP2 HP
        by_cases h123:c=123
        · subst h123
          clear hi' h92
          go_wp2
          go_roundg l'.length
          case measure=>first | omega | simp
          case rel=>exact ⟨i+1,by go_num,rfl,.inr (.inl ⟨D+1,p++[123],l',by go_num,by omega,by rw [HT.out];simp,by rw [HI.out];simp;omega,rfl,by rw [HP2.out,if_pos (by decide)];exact pre_pre _ _ _⟩)⟩
        have n123:=byte_ne 123 h123 rfl
        have hP3:=HP2.out
        rw [if_neg (by simpa using h123)] at hP3
        have HP3:=hid hP3
        clear hP3 HP2
        by_cases h125:c=125
        · subst h125
          clear h92 h123
          cases D with
          | zero=>
            have hO:o=some (p,l'):=by rw [HP3.out,if_pos (by decide)];simp [pre]
            have hsl2:(⟨s.toArray⟩:ByteArray).extract 1 i=⟨p.toArray⟩:=by
              have h1:=HAT.out.tail
              rw [HT.out] at h1
              have h2:=At.text h1
              rw [HI.out]
              simpa using h2
            have hri:i+1=t.length+1-l'.length:=by rw [HT.out,HI.out];simp;omega
            have HRI:=hid hri
            have HO2:=hid hO
            have hi1:(1:Int)≤(i:Int):=by omega
            clear hri hO hi'
            go_wp2
            refine bodyPost_ret (v:=readAns (t.length+1) (some (p,l'))) (by rw [readAns,← HRI.out];simp [results,Tryz.results170,go_sem]) rfl ?_
            exact ⟨by rw [HO2.out],rfl⟩
          | succ d=>
            clear hi'
            go_wp2
            go_roundg l'.length
            case measure=>first | omega | simp
            case rel=>exact ⟨i+1,by go_num,rfl,.inr (.inl ⟨d,p++[125],l',by go_num,by omega,by rw [HT.out];simp,by rw [HI.out];simp;omega,rfl,by rw [HP3.out,if_pos (by decide)];exact pre_pre _ _ _⟩)⟩
        have n125:=byte_ne 125 h125 rfl
        have hP4:=HP3.out
        rw [if_neg (by simpa using h125)] at hP4
        have HP4:=hid hP4
        clear hP4 HP3 hi' h92 h123 h125
        go_wp2
        go_roundg l'.length
        case measure=>first | omega | simp
        case rel=>exact ⟨i+1,by go_num,rfl,.inr (.inl ⟨D,p++[c],l',rfl,by omega,by rw [HT.out];simp,by rw [HI.out];simp;omega,rfl,by rw [HP4.out];exact pre_pre _ _ _⟩)⟩
    · go_wp2
      refine bodyPost_ret (v:=readAns (t.length+1) none) (by simp [readAns,results,Tryz.results170,go_sem]) rfl ?_
      exact ⟨by rw [ho],rfl⟩
end Go.Proofs.YtbilphfbfnohmaaGreatDoor.Pz
namespace Go.Proofs.YtbilphfbfnohmaaGreatDoor.Pz
open Go.RowKit
theorem textLower_fn (x r:Nat) (hl:x<256) (hr:Hid (r=if 65≤x∧x≤90 then x+32 else x)) (w:World):Calls Tryz.prog 230 #[.int .u8 (x:Nat)] w fun e w'=>e=.returned (.int .u8 (r:Nat))∧w'=w:=by
 go_enter Tryz.func230,Tryz.ntmps230
 by_cases h1:65≤x
 ·by_cases h2:x≤90
  ·go_wp2
   go_ret
   exact ⟨ret_i (by rw [hr.out,if_pos ⟨h1,h2⟩];omega),rfl⟩
  ·have h2':decide ((x:Int)≤90)=false:=by simp;omega
   go_wp2
   go_ret
   exact ⟨ret_i (by rw [hr.out,if_neg (by omega)]),rfl⟩
 ·go_wp2
  go_ret
  exact ⟨ret_i (by rw [hr.out,if_neg (by omega)]),rfl⟩
theorem textDecimal_fn (x:Nat) (b:Bool) (hl:x<256) (hb:Hid (b=(decide (48≤x) && decide (x≤57)))) (w:World):Calls Tryz.prog 231 #[.int .u8 (x:Nat)] w fun e w'=>e=.returned (.bool b)∧w'=w:=by
 go_enter Tryz.func231,Tryz.ntmps231
 by_cases h1:48≤x
 ·by_cases h2:x≤57
  ·go_wp2
   go_ret
   refine ⟨?_,rfl⟩
   rw [hb.out,decide_eq_true h1,decide_eq_true h2]
   simp;omega
  ·have h2':¬ (x:Int)≤57:=by omega
   go_wp2
   go_ret
   refine ⟨?_,rfl⟩
   rw [hb.out,decide_eq_false h2]
   simp
 ·go_wp2
  go_ret
  refine ⟨?_,rfl⟩
  rw [hb.out,decide_eq_false h1]
  simp
theorem textDigit_fn (c:UInt8) (w:World):Calls Tryz.prog 228 #[.int .u8 c.toNat] w fun e w'=>e=.returned (.int .i64 (dig16 c:Nat))∧w'=w:=by
 have hW:=hid (hexv_nat c)
 have hl:c.toNat<256:=c.toNat_lt
 generalize dig16 c=W at hW ⊢
 generalize c.toNat=x at hl hW ⊢
 obtain ⟨y,hy⟩:∃ y,y=if 65≤x∧x≤90 then x+32 else x:=⟨_,rfl⟩
 have hy2:y<256:=by rw [hy];split<;>omega
 have hY:=hid hy
 have h1:=hid (textLower_fn x y hl hY w)
 obtain ⟨b,hb⟩:∃ b,b=(decide (48≤y) && decide (y≤57)):=⟨_,rfl⟩
 have hB:=hid hb
 have h2:=hid (textDecimal_fn y b hy2 hB w)
 clear hy hb
 go_enter Tryz.func228,Tryz.ntmps228
 go_wp2_with fail
 (with_reducible refine h1.out.mono ?_);rintro e w' ⟨rfl,rfl⟩
 go_wp2_with fail
 (with_reducible refine h2.out.mono ?_);rintro e w' ⟨rfl,rfl⟩
 cases b with
 | true=>
  have h5:=hB.out
  have h6:48≤y∧y≤57:=by simpa using h5.symm
  obtain ⟨h7,h8⟩:=h6
  clear h5
  have hz:IntKind.u8.wrap ((y:Int)-48)=((y-48:Nat):Int):=by rw [← u8_wrap (y-48) (by omega)];congr 1;omega
  go_wp2
  go_ret
  exact ⟨ret_i (by rw [hW.out];have:=hY.out;split at this<;>(repeat' split)<;>omega),rfl⟩
 | false=>
  have h5:=hB.out
  have h6:¬ (48≤y∧y≤57):=by
   rintro ⟨q1,q2⟩
   rw [decide_eq_true q1,decide_eq_true q2] at h5
   cases h5
  clear h5
  by_cases h7:97≤y
  ·have hz:IntKind.u8.wrap ((y:Int)-97)=((y-97:Nat):Int):=by rw [← u8_wrap (y-97) (by omega)];congr 1;omega
   by_cases h8:y≤102
   ·go_wp2
    go_ret
    exact ⟨ret_i (by rw [hW.out];have:=hY.out;split at this<;>(repeat' split)<;>omega),rfl⟩
   ·have h6':decide ((y:Int)≤102)=false:=by simp;omega
    go_wp2
    go_ret
    exact ⟨ret_i (by rw [hW.out];have:=hY.out;split at this<;>(repeat' split)<;>omega),rfl⟩
  ·go_wp2
   go_ret
   exact ⟨ret_i (by rw [hW.out];have:=hY.out;split at this<;>(repeat' split)<;>omega),rfl⟩
set_option maxRecDepth 100000 in
set_option maxHeartbeats 2000000 in
theorem textDigits_fn (l:Str) (_hl:l.length≤1000000000) (b m:Nat) (hb:b≤16) (hm:m≤3) (w:World) :
    Calls Tryz.prog 216 #[.string ⟨l.toArray⟩,.int .i64 (b:Nat),.int .i64 (m:Nat)] w fun e w'=>e=.returned (.tuple #[.int .u8 (((digs b m 0 l).1 % 256:Nat):Int),.int .i64 ((l.length-(digs b m 0 l).2.length:Nat):Int)])∧w'=w:=by
  have hsz:(⟨l.toArray⟩:ByteArray).size=l.length:=Lib.size_mk _
  obtain ⟨V,hV⟩:∃ V,V=(digs b m 0 l).1 % 256:=⟨_,rfl⟩
  obtain ⟨N,hN⟩:∃ N,N=l.length-(digs b m 0 l).2.length:=⟨_,rfl⟩
  rw [← hV,← hN]
  have HV:=hid hV
  have HN:=hid hN
  clear hV hN
  go_enter Tryz.func216,Tryz.ntmps216
  go_wp2
  go_loop [8,9] (fun vv nv=>∃ v n:Nat,vv=.int .i64 v∧nv=.int .i64 n∧n≤m∧n≤l.length∧v<16 ^ n∧digs b (m-n) v (l.drop n)=digs b m 0 l) (fun _ nv=>m-(intOf nv).toNat)
  case atStart=>exact ⟨0,0,rfl,rfl,Nat.zero_le _,Nat.zero_le _,(by simp),rfl⟩
  case round=>
    obtain ⟨v,n,rfl,rfl,hnm,hnl,hv,hd⟩:=hrel
    have hD:=hid hd
    have hV2:=hid hv
    have hv4:v<4096:=Nat.lt_of_lt_of_le hv (show 16 ^ n≤16 ^ 3 from Nat.pow_le_pow_right (by decide) (by omega))
    clear hd hv
    by_cases hlt:n<m∧n<l.length
    · obtain ⟨h1,h2⟩:=hlt
      have hx:∀ h,(⟨l.toArray⟩:ByteArray)[n]'h=l[n]'h2:=fun h=>rfl
      have hc:=hid (textDigit_fn (l[n]'h2) w)
      have hle:=dig16_le (l[n]'h2)
      have hdr:l.drop n=l[n]'h2::l.drop (n+1):=List.drop_eq_getElem_cons h2
      have hE:digs b (m-n) v (l.drop n)=if dig16 (l[n]'h2)<b then digs b (m-(n+1)) (v*b+dig16 (l[n]'h2)) (l.drop (n+1)) else (v,l.drop n):=by
        rw [hdr,show m-n=(m-(n+1))+1 by omega,digs_step b _ v hb]
      have HE:=hid hE
      clear hE hdr
      generalize dig16 (l[n]'h2)=d at *
      have hmul:v*b≤v*16:=Nat.mul_le_mul_left v hb
      have hmin:min (m:Int) (l.length:Int)=min m l.length:=by omega
      by_cases hdb:d<b
      · have hpow : v * b + d < 16 ^ (n + 1) := by
          have:=hV2.out
          rw [Nat.pow_succ]
          omega
        have HP:=hid hpow
        clear hpow
        obtain ⟨vb,hvb⟩:∃ vb,vb=v*b:=⟨_,rfl⟩
        have hvbI:(v:Int)*(b:Int)=(vb:Int):=by rw [hvb];simp
        rw [← hvb] at hmul HP HE
        clear hvb
        go_wp2_with (go_at_call 228;(with_reducible refine hc.out.mono ?_);rintro e w' ⟨rfl,rfl⟩)
        go_round
        case rel=>exact ⟨vb+d,n+1,by go_num,by go_num,by omega,by omega,HP.out,by rw [← hD.out,HE.out,if_pos hdb]⟩
        case measure=>simp [intOf];omega
      · have hres:digs b m 0 l=(v,l.drop n):=by rw [← hD.out,HE.out,if_neg hdb]
        have hV3:=HV.out
        have hN3:=HN.out
        rw [hres] at hV3 hN3
        have HV3:=hid hV3
        have HN3:=hid hN3
        clear hV3 hN3 hres
        have hvw:IntKind.u8.wrap (v:Int)=((v % 256:Nat):Int):=by show (v:Int) % 256=_;omega
        go_wp2_with (go_at_call 228;(with_reducible refine hc.out.mono ?_);rintro e w' ⟨rfl,rfl⟩)
        go_ret2
        exact ⟨ret_ii (by rw [HV3.out];omega) (by rw [HN3.out,List.length_drop];omega),rfl⟩
    · have hres : digs b m 0 l = (v, l.drop n) := by
        rw [← hD.out]
        rcases Nat.lt_or_ge n m with h | h
        · have:l.length≤n:=by omega
          rw [List.drop_eq_nil_of_le this,digs_nil]
        · rw [show m-n=0 by omega];rfl
      have hV3:=HV.out
      have hN3:=HN.out
      rw [hres] at hV3 hN3
      have HV3:=hid hV3
      have HN3:=hid hN3
      clear hV3 hN3 hres
      have hvw:IntKind.u8.wrap (v:Int)=((v % 256:Nat):Int):=by show (v:Int) % 256=_;omega
      have hmin:min (m:Int) (l.length:Int)=n:=by omega
      go_wp2
      go_ret2
      exact ⟨ret_ii (by rw [HV3.out];omega) (by rw [HN3.out,List.length_drop];omega),rfl⟩
set_option maxRecDepth 100000 in
set_option maxHeartbeats 2000000 in
theorem unescape_fn (t:Str) (ht:t.length≤1000000) (w:World) :
    Calls Tryz.prog 199 #[.string ⟨(92::t).toArray⟩] w fun e w'=>e=.returned (.tuple #[.string ⟨(unesc t).1.toArray⟩,.int .i64 (((t.length+1-(unesc t).2.length:Nat):Nat):Int)])∧Below w.heap.size w w':=by
  cases t with
  | nil=>
    have hsz:(⟨[(92:UInt8)].toArray⟩:ByteArray).size=1:=rfl
    have hx:∀ h,(⟨[(92:UInt8)].toArray⟩:ByteArray)[0]'h=92:=fun h=>rfl
    go_enter Tryz.func199,Tryz.ntmps199
    go_wp2
    go_ret2
    exact ⟨rfl,Below.refl _ _⟩
  | cons c t=>
    have hsz:(⟨(92::c::t).toArray⟩:ByteArray).size=t.length+2:=by rw [Lib.size_mk];simp
    have hx:∀ h,(⟨(92::c::t).toArray⟩:ByteArray)[0]'h=92:=fun h=>rfl
    have hx1:∀ h,(⟨(92::c::t).toArray⟩:ByteArray)[1]'h=c:=fun h=>rfl
    have hs2:(⟨(92::c::t).toArray⟩:ByteArray).extract 2 (t.length+2)=⟨t.toArray⟩:=by rw [Lib.extract_mk];simp
    have hs1:(⟨(92::c::t).toArray⟩:ByteArray).extract 1 (t.length+2)=⟨(c::t).toArray⟩:=by rw [Lib.extract_mk];simp
    have hs12:(⟨(92::c::t).toArray⟩:ByteArray).extract 1 2=⟨[c].toArray⟩:=by rw [Lib.extract_mk];simp
    have ht':t.length≤999999:=by simpa using ht
    have hc256:=c.toNat_lt
    obtain ⟨I,hI⟩:∃ I,I=Lib.indexByte [97,98,116,110,118,102,114] c:=⟨_,rfl⟩
    have hc:Calls Tryz.prog 88 #[.string ⟨#[97,98,116,110,118,102,114]⟩,.int .u8 c.toNat] w fun e w'=>e=.returned (.int .i64 I)∧w'=w:=by
      have h:=Tryz.strings_IndexByte ⟨#[97,98,116,110,118,102,114]⟩ (c.toNat:Int) w
      have e1:((c.toNat:Int)).toNat.toUInt8=c:=by simp
      rw [e1] at h
      rw [hI]
      exact h
    have hC:=hid hc
    rw [named1_idx] at hI
    clear hc ht
    show Calls _ _ _ _ fun e w'=>e=.returned (.tuple #[.string ⟨(unesc1 c t).1.toArray⟩,.int .i64 (((t.length+1+1-(unesc1 c t).2.length:Nat):Nat):Int)])∧Below w.heap.size w w'
    obtain ⟨r,hr⟩:∃ r,r=unesc1 c t:=⟨_,rfl⟩
    rw [← hr]
    unfold unesc1 at hr
    cases hn:named1 c with
    | some x=>
      rw [hn] at hI hr
      dsimp only at hI hr
      subst hr
      obtain ⟨q1,q2⟩:=named1_le hn
      have hw:IntKind.u8.wrap (x.toNat:Int)=x.toNat:=u8_wrap _ x.toNat_lt
      have hw2:(7:Int)+((x.toNat:Int)-7)=x.toNat:=by omega
      have hcv:=fun w=>one_back x w
      subst hI
      clear hn
      go_enter Tryz.func199,Tryz.ntmps199
      go_wp2_with fail
      (with_reducible refine hC.out.mono ?_);rintro e w' ⟨rfl,rfl⟩
      go_wp2
      go_ret2
      exact ⟨ret_si rfl (by omega),(Below.refl _ _).alloc (Nat.le_refl _) _⟩
    | none=>
      rw [hn] at hI hr
      dsimp only at hI hr
      subst hI
      clear hn
      obtain ⟨v8,hv8⟩:∃ v8,v8=digs 8 3 0 (c::t):=⟨_,rfl⟩
      have h8:Calls Tryz.prog 216 #[.string ⟨(c::t).toArray⟩,.int .i64 8,.int .i64 3] w fun e w'=>e=.returned (.tuple #[.int .u8 ((UInt8.ofNat v8.1).toNat:Int),.int .i64 (((t.length+1-v8.2.length:Nat):Nat):Int)])∧w'=w:=by
        have h:=textDigits_fn (c::t) (by simp;omega) 8 3 (by decide) (by decide) w
        rw [← hv8] at h
        rw [UInt8.toNat_ofNat']
        exact h
      have hl8:=(digs_suf 8 3 0 (c::t)).length_le
      rw [← hv8] at hl8 hr
      simp only [List.length_cons] at hl8
      by_cases h10:c=10
      · subst h10
        replace hC:Hid (Calls Tryz.prog 88 #[.string ⟨#[97,98,116,110,118,102,114]⟩,.int .u8 10] w fun e w'=>e=.returned (.int .i64 (-1))∧w'=w):=hC
        have hv8':v8=(0,10::t):=by rw [hv8];rfl
        rw [if_pos (by decide)] at hr
        subst hv8'
        subst hr
        clear hv8
        have H8:=hid h8
        clear h8 hl8
        go_enter Tryz.func199,Tryz.ntmps199
        go_wp2_with fail
        (with_reducible refine hC.out.mono ?_);rintro e w' ⟨rfl,rfl⟩
        go_wp2_with fail
        (with_reducible refine H8.out.mono ?_);rintro e w' ⟨rfl,rfl⟩
        go_wp2
        go_loop [9] (fun nv=>∃ n:Nat,nv=.int .i64 n∧2≤n∧n≤t.length+2∧blanks0 (t.drop (n-2))=blanks0 t) (fun nv=>t.length+2-(intOf nv).toNat)
        case atStart=>exact ⟨2,rfl,by omega,by omega,rfl⟩
        case round=>
          obtain ⟨n,rfl,hn2,hnl,hb⟩:=hrel
          have hB:=hid hb
          clear hb
          by_cases hlt:n<t.length+2
          · have hlt2:n-2<t.length:=by omega
            have hx:∀ h,(⟨(92::10::t).toArray⟩:ByteArray)[n]'h=t[n-2]'hlt2:=by
              intro h
              show (92::10::t)[n]'_=_
              obtain ⟨k,rfl⟩:∃ k,n=k+2:=⟨n-2,by omega⟩
              rfl
            have hdr:t.drop (n-2)=t[n-2]'hlt2::t.drop (n+1-2):=by
              rw [show n+1-2=(n-2)+1 by omega]
              exact List.drop_eq_getElem_cons hlt2
            have hB2:=hB.out
            rw [hdr,blanks0_cons] at hB2
            have HB2:=hid hB2
            have HD:=hid hdr
            clear hB2 hdr
            generalize t[n-2]'hlt2=d at *
            by_cases hd:d=32
            · subst hd
              go_wp2
              go_round
              case rel=>exact ⟨n+1,by go_num,by omega,by omega,by rw [← HB2.out];rfl⟩
              case measure=>simp [intOf];omega
            · have e1:=byte_ne 32 hd rfl
              by_cases hd9:d=9
              · subst hd9
                go_wp2
                go_round
                case rel=>exact ⟨n+1,by go_num,by omega,by omega,by rw [← HB2.out];rfl⟩
                case measure=>simp [intOf];omega
              · have e2:=byte_ne 9 hd9 rfl
                have hres:blanks0 t=t.drop (n-2):=by
                  rw [HD.out,← HB2.out,if_neg (by simp [hd,hd9])]
                have HR:=hid hres
                clear hres
                go_wp2
                go_ret2
                exact ⟨ret_si rfl (by rw [HR.out,List.length_drop];omega),Below.refl _ _⟩
          · have hres : blanks0 t = [] := by
              rw [← hB.out,List.drop_eq_nil_of_le (by omega)];rfl
            have HR:=hid hres
            clear hres
            go_wp2
            go_ret2
            exact ⟨ret_si rfl (by rw [HR.out];simp;omega),Below.refl _ _⟩
      · rw [if_neg (by simpa using h10)] at hr
        have n10:=byte_ne 10 h10 rfl
        by_cases h120:c=120
        · subst h120
          replace hC:Hid (Calls Tryz.prog 88 #[.string ⟨#[97,98,116,110,118,102,114]⟩,.int .u8 120] w fun e w'=>e=.returned (.int .i64 (-1))∧w'=w):=hC
          rw [if_pos (by decide)] at hr
          have hv8':v8=(0,120::t):=by rw [hv8];rfl
          subst hv8'
          clear hv8 hl8
          obtain ⟨v6,hv6⟩:∃ v6,v6=digs 16 2 0 t:=⟨_,rfl⟩
          have h6:Calls Tryz.prog 216 #[.string ⟨t.toArray⟩,.int .i64 16,.int .i64 2] w fun e w'=>e=.returned (.tuple #[.int .u8 ((UInt8.ofNat v6.1).toNat:Int),.int .i64 (((t.length-v6.2.length:Nat):Nat):Int)])∧w'=w:=by
            have h:=textDigits_fn t (by omega) 16 2 (by decide) (by decide) w
            rw [← hv6] at h
            rw [UInt8.toNat_ofNat']
            exact h
          have hl6:=(digs_suf 16 2 0 t).length_le
          rw [← hv6] at hl6 hr
          have H8:=hid h8
          have H6:=hid h6
          clear h8 h6 hv6
          obtain ⟨v61,v62⟩:=v6
          dsimp only at *
          generalize UInt8.ofNat v61=b at *
          obtain ⟨k,hk⟩:∃ k,k=t.length-v62.length:=⟨_,rfl⟩
          rw [← hk] at H6
          have hcv:=fun w=>one_back b w
          by_cases hlt:v62.length<t.length
          · rw [if_pos hlt] at hr
            subst hr
            have hk0:0<k:=by omega
            have HK:=hid hk
            clear hk
            have hkl:k≤t.length:=by rw [HK.out];omega
            go_enter Tryz.func199,Tryz.ntmps199
            go_wp2_with fail
            (with_reducible refine hC.out.mono ?_);rintro e w' ⟨rfl,rfl⟩
            go_wp2_with fail
            (with_reducible refine H6.out.mono ?_);rintro e w' ⟨rfl,rfl⟩
            go_wp2
            go_ret2
            exact ⟨ret_si rfl (by have:=HK.out;omega),(Below.refl _ _).alloc (Nat.le_refl _) _⟩
          · rw [if_neg hlt] at hr
            subst hr
            obtain rfl:k=0:=by omega
            clear hk
            go_enter Tryz.func199,Tryz.ntmps199
            go_wp2_with fail
            (with_reducible refine hC.out.mono ?_);rintro e w' ⟨rfl,rfl⟩
            go_wp2_with fail
            (with_reducible refine H6.out.mono ?_);rintro e w' ⟨rfl,rfl⟩
            go_wp2_with fail
            (with_reducible refine H8.out.mono ?_);rintro e w' ⟨rfl,rfl⟩
            go_wp2
            go_ret2
            exact ⟨ret_si rfl (by omega),Below.refl _ _⟩
        · have n120:=byte_ne 120 h120 rfl
          rw [if_neg (by simpa using h120)] at hr
          clear hv8
          obtain ⟨v81,v82⟩:=v8
          dsimp only at *
          have H8:=hid h8
          clear h8
          generalize UInt8.ofNat v81=b at *
          obtain ⟨k,hk⟩:∃ k,k=t.length+1-v82.length:=⟨_,rfl⟩
          rw [← hk] at H8
          have hcv:=fun w=>one_back b w
          by_cases hlt:v82.length<t.length+1
          · rw [if_pos (by simpa using hlt)] at hr
            subst hr
            have hk0:0<k:=by omega
            have HK:=hid hk
            clear hk
            have hkl:k≤t.length+1:=by rw [HK.out];omega
            go_enter Tryz.func199,Tryz.ntmps199
            go_wp2_with fail
            (with_reducible refine hC.out.mono ?_);rintro e w' ⟨rfl,rfl⟩
            go_wp2_with fail
            (with_reducible refine H8.out.mono ?_);rintro e w' ⟨rfl,rfl⟩
            go_wp2
            go_ret2
            exact ⟨ret_si rfl (by have:=HK.out;omega),(Below.refl _ _).alloc (Nat.le_refl _) _⟩
          · rw [if_neg (by simpa using hlt)] at hr
            subst hr
            obtain rfl:k=0:=by omega
            clear hk
            go_enter Tryz.func199,Tryz.ntmps199
            go_wp2_with fail
            (with_reducible refine hC.out.mono ?_);rintro e w' ⟨rfl,rfl⟩
            go_wp2_with fail
            (with_reducible refine H8.out.mono ?_);rintro e w' ⟨rfl,rfl⟩
            go_wp2
            go_ret2
            exact ⟨ret_si rfl (by omega),Below.refl _ _⟩
end Go.Proofs.YtbilphfbfnohmaaGreatDoor.Pz
namespace Go.Proofs.YtbilphfbfnohmaaGreatDoor.Pz
open Go.RowKit
theorem unesc_len (l:Str):(unesc l).1.length=1:=by
 cases l with
 | nil=>rfl
 | cons c t=>
  show (unesc1 c t).1.length=1
  unfold unesc1
  split
  ·rfl
  ·split
   ·rfl
   ·split
    ·split<;>rfl
    ·split<;>rfl
theorem belowA (w:World) (o:Obj):Below w.heap.size w (w.alloc o):=(Below.refl _ _).alloc (Nat.le_refl _) _
theorem quotedE_cons (c:UInt8) (t:Str):quotedE (c::t)=if c == 34 then some ([],t) else if c == 92 then pre (unesc t).1 (quotedE (unesc t).2) else pre [c] (quotedE t):=by rw [quotedE]
theorem bareE_cons (c:UInt8) (t:Str):bareE (c::t)=if white c then ([],c::t) else if c == 92 then preP (unesc t).1 (bareE (unesc t).2) else preP [c] (bareE t):=by rw [bareE]
set_option maxRecDepth 100000 in
set_option maxHeartbeats 2000000 in
theorem readQuoted_fn (t:Str) (ht:t.length≤1000000) (w:World):Calls Tryz.prog 171 #[.string ⟨(34::t).toArray⟩] w fun e w'=>e=.returned (readAns (t.length+1) (quotedE t))∧Below w.heap.size w w':=by
 obtain ⟨s,hs⟩:∃ s:Str,s=34::t:=⟨_,rfl⟩
 have hat:At s (34::t) 0:=by rw [hs];exact At.start _
 have hsl:s.length=t.length+1:=by rw [hs];rfl
 rw [← hs]
 have hsz:(⟨s.toArray⟩:ByteArray).size=s.length:=Lib.size_mk _
 obtain ⟨o,ho⟩:∃ o,o=quotedE t:=⟨_,rfl⟩
 rw [← ho]
 have HO:=hid ho
 have HAT:=hid hat.tail
 have hB0:=Bld.new w
 have hbl0:=belowA w (.cells #[.pointer none,.slice none 0 0] 73)
 have HB0:=hid hB0
 have HBL0:=hid hbl0
 clear ho hat hs hB0 hbl0
 go_enter Tryz.func171,Tryz.ntmps171
 go_wp2_with fail
 go_loopg [6] t.length (fun k iv wr=>∃ (i:Nat) (done l:Str),iv=.int .i64 (i:Nat)∧At s l i∧1≤i∧Bld wr w.heap.size done∧Below w.heap.size w wr∧k=l.length∧done.length+l.length≤t.length∧o=pre done (quotedE l))
 case atStart=>exact ⟨1,[],t,rfl,HAT.out,Nat.le_refl _,HB0.out,HBL0.out,rfl,by simp,by rw [pre_nil];exact HO.out⟩
 case round=>
  obtain ⟨i,done,l,rfl,ha,h1,hB,hbl,rfl,hdl,ho⟩:=hrel
  have hlen:=ha.len
  have hsz1:=hbl.size
  cases l with
  | nil=>
   have hge:i=s.length:=by simpa using hlen
   have HN:Hid (o=none):=hid (by rw [ho,quotedE];rfl)
   subst hge
   clear ho hB
   go_wp2
   refine bodyPost_ret (v:=readAns (t.length+1) none) (by simp [readAns,results,Tryz.results171,go_sem]) rfl ?_
   exact ⟨by rw [HN.out],hbl⟩
  | cons c l=>
   have hlt:=ha.lt
   have hx:=ha.byte
   rw [quotedE_cons] at ho
   simp only [List.length_cons] at hdl hlen
   by_cases h34:c=34
   ·subst h34
    rw [if_pos (by decide)] at ho
    have hO:o=some (done,l):=by rw [ho];simp [pre]
    have hst:=hid (str_fn hB)
    have hri:i+1=t.length+1-l.length:=by omega
    have HRI:=hid hri
    have HO2:=hid hO
    clear ho hO hri hB
    go_wp2_with fail
    (with_reducible refine hst.out.mono ?_);rintro e w1 ⟨rfl,_,hk1⟩
    have HB1:=hid (hbl.trans hk1.1)
    clear hk1
    go_wp2
    refine bodyPost_ret (v:=readAns (t.length+1) (some (done,l))) (by rw [readAns,← HRI.out];simp [results,Tryz.results171,go_sem]) rfl ?_
    exact ⟨by rw [HO2.out],HB1.out⟩
   have n34:=byte_ne 34 h34 rfl
   rw [if_neg (by simpa using h34)] at ho
   by_cases h92:c=92
   ·subst h92
    rw [if_pos (by decide)] at ho
    have hu:=suf_len (unesc_suf l)
    have hul:=unesc_len l
    have hex:(⟨s.toArray⟩:ByteArray).extract i s.length=⟨(92::l).toArray⟩:=At.all ha
    rw [hsl] at hex
    have HU:=hid (unescape_fn l (by omega) wr)
    have HS:=hid (unesc_suf l)
    obtain ⟨q,r,hqr⟩:∃ q r,unesc l=(q,r):=⟨_,_,rfl⟩
    rw [hqr] at HU ho hu hul HS
    dsimp only at HU ho hu hul HS
    have HP:=hid ho
    have HB:=hid hB
    have HA:=hid ha
    clear ho h34 hqr hB
    have HEX:=hid hex
    clear hex
    go_wp2_with fail
    rw [HEX.out]
    (with_reducible refine HU.out.mono ?_);rintro e w1 ⟨rfl,hb1⟩
    have hc:=hid (wstr_fn (HB.out.below hb1) q (by omega))
    have HL1:=hid (hbl.trans (hb1.mono hsz1))
    clear hb1
    go_wp2_with fail
    (with_reducible refine hc.out.mono ?_);rintro e w2 ⟨rfl,hB2,hk2⟩
    have HB2:=hid hB2
    have HL2:=hid (HL1.out.trans hk2.1)
    clear hB2 hk2
    go_wp2
    go_roundg r.length
    case measure=>simp only [List.length_cons];omega
    case rel=>exact ⟨i+(l.length+1-r.length),done++q,r,by go_num,by have h9:=HA.out.tail.suf HS.out;rw [show i+(l.length+1-r.length)=s.length-r.length by omega];exact h9,by omega,HB2.out,HL2.out,rfl,by rw [List.length_append];omega,by rw [HP.out];exact pre_pre _ _ _⟩
   ·have n92:=byte_ne 92 h92 rfl
    rw [if_neg (by simpa using h92)] at ho
    have hc:=hid (wbyte_fn hB c (by omega))
    have HP:=hid ho
    have HA:=hid ha
    clear ho h34 h92 hB
    go_wp2_with fail
    (with_reducible refine hc.out.mono ?_);rintro e w1 ⟨rfl,hB1,hk1⟩
    have HB1:=hid hB1
    have HL1:=hid (hbl.trans hk1.1)
    clear hB1 hk1
    go_wp2
    go_roundg l.length
    case measure=>first | omega | simp
    case rel=>exact ⟨i+1,done++[c],l,by go_num,HA.out.tail,by omega,HB1.out,HL1.out,rfl,by rw [List.length_append];simp;omega,by rw [HP.out];exact pre_pre _ _ _⟩
set_option maxRecDepth 100000 in
set_option maxHeartbeats 2000000 in
theorem readBare_fn (s:Str) (hs:s.length≤1000000) (w:World):Calls Tryz.prog 169 #[.string ⟨s.toArray⟩] w fun e w'=>e=.returned (readAns s.length (some (bareE s)))∧Below w.heap.size w w':=by
 have hsz:(⟨s.toArray⟩:ByteArray).size=s.length:=Lib.size_mk _
 obtain ⟨o,ho⟩:∃ o,o=bareE s:=⟨_,rfl⟩
 rw [← ho]
 have HO:=hid ho
 have hB0:=Bld.new w
 have hbl0:=belowA w (.cells #[.pointer none,.slice none 0 0] 73)
 have HB0:=hid hB0
 have HBL0:=hid hbl0
 clear ho hB0 hbl0
 go_enter Tryz.func169,Tryz.ntmps169
 go_wp2_with fail
 go_loopg [6] s.length (fun k iv wr=>∃ (i:Nat) (done l:Str),iv=.int .i64 (i:Nat)∧At s l i∧Bld wr w.heap.size done∧Below w.heap.size w wr∧k=l.length∧done.length+l.length≤s.length∧o=preP done (bareE l))
 case atStart=>exact ⟨0,[],s,rfl,At.start s,HB0.out,HBL0.out,rfl,by simp,HO.out⟩
 case round=>
  obtain ⟨i,done,l,rfl,ha,hB,hbl,rfl,hdl,ho⟩:=hrel
  have hlen:=ha.len
  have hsz1:=hbl.size
  cases l with
  | nil=>
   have hge:i=s.length:=by simpa using hlen
   have hO:o=(done,[]):=by rw [ho,bareE];simp [preP]
   have hst:=hid (str_fn hB)
   have HO2:=hid hO
   subst hge
   clear ho hB hO
   go_wp2_with fail
   (with_reducible refine hst.out.mono ?_);rintro e w1 ⟨rfl,_,hk1⟩
   have HB1:=hid (hbl.trans hk1.1)
   clear hk1
   go_wp2
   refine bodyPost_ret (v:=readAns s.length (some (done,[]))) (by simp [readAns,results,Tryz.results169,go_sem]) rfl ?_
   exact ⟨by rw [HO2.out],HB1.out⟩
  | cons c l=>
   have hlt:=ha.lt
   have hx:=ha.byte
   rw [bareE_cons] at ho
   simp only [List.length_cons] at hdl hlen
   have hwf:=hid (white_fn c wr)
   cases hw:white c with
   | true=>
    rw [hw] at hwf ho
    rw [if_pos rfl] at ho
    have hO:o=(done,c::l):=by rw [ho];simp [preP]
    have hst:=hid (str_fn hB)
    have hri:i=s.length-(c::l).length:=by simp only [List.length_cons];omega
    have HRI:=hid hri
    have HO2:=hid hO
    clear ho hO hri hB hw
    go_wp2_with fail
    (with_reducible refine hwf.out.mono ?_);rintro e w1 ⟨rfl,rfl⟩
    go_wp2_with fail
    (with_reducible refine hst.out.mono ?_);rintro e w1 ⟨rfl,_,hk1⟩
    have HB1:=hid (hbl.trans hk1.1)
    clear hk1
    go_wp2
    refine bodyPost_ret (v:=readAns s.length (some (done,c::l))) (by rw [readAns,← HRI.out];simp [results,Tryz.results169,go_sem]) rfl ?_
    exact ⟨by rw [HO2.out],HB1.out⟩
   | false=>
    rw [hw] at hwf ho
    rw [if_neg (by simp)] at ho
    clear hw
    by_cases h92:c=92
    ·subst h92
     rw [if_pos (by decide)] at ho
     replace hwf:=hid (show Calls Tryz.prog 95 #[.int .u8 92] wr _ from hwf.out)
     have hu:=suf_len (unesc_suf l)
     have hul:=unesc_len l
     have hex:(⟨s.toArray⟩:ByteArray).extract i s.length=⟨(92::l).toArray⟩:=At.all ha
     have HU:=hid (unescape_fn l (by omega) wr)
     have HS:=hid (unesc_suf l)
     obtain ⟨q,r,hqr⟩:∃ q r,unesc l=(q,r):=⟨_,_,rfl⟩
     rw [hqr] at HU ho hu hul HS
     dsimp only at HU ho hu hul HS
     have HP:=hid ho
     have HB:=hid hB
     have HA:=hid ha
     have HEX:=hid hex
     clear ho hqr hB hex
     go_wp2_with fail
     (with_reducible refine hwf.out.mono ?_);rintro e w0 ⟨rfl,rfl⟩
     go_wp2_with fail
     rw [HEX.out]
     (with_reducible refine HU.out.mono ?_);rintro e w1 ⟨rfl,hb1⟩
     have hc:=hid (wstr_fn (HB.out.below hb1) q (by omega))
     have HL1:=hid (hbl.trans (hb1.mono hsz1))
     clear hb1
     go_wp2_with fail
     (with_reducible refine hc.out.mono ?_);rintro e w2 ⟨rfl,hB2,hk2⟩
     have HB2:=hid hB2
     have HL2:=hid (HL1.out.trans hk2.1)
     clear hB2 hk2
     go_wp2
     go_roundg r.length
     case measure=>simp only [List.length_cons];omega
     case rel=>exact ⟨i+(l.length+1-r.length),done++q,r,by go_num,by have h9:=HA.out.tail.suf HS.out;rw [show i+(l.length+1-r.length)=s.length-r.length by omega];exact h9,HB2.out,HL2.out,rfl,by rw [List.length_append];omega,by rw [HP.out];simp [preP,List.append_assoc]⟩
    ·have n92:=byte_ne 92 h92 rfl
     rw [if_neg (by simpa using h92)] at ho
     have hc:=hid (wbyte_fn hB c (by omega))
     have HP:=hid ho
     have HA:=hid ha
     clear ho h92 hB
     go_wp2_with fail
     (with_reducible refine hwf.out.mono ?_);rintro e w0 ⟨rfl,rfl⟩
     go_wp2_with fail
     (with_reducible refine hc.out.mono ?_);rintro e w1 ⟨rfl,hB1,hk1⟩
     have HB1:=hid hB1
     have HL1:=hid (hbl.trans hk1.1)
     clear hB1 hk1
     go_wp2
     go_roundg l.length
     case measure=>first | omega | simp
     case rel=>exact ⟨i+1,done++[c],l,by go_num,HA.out.tail,HB1.out,HL1.out,rfl,by rw [List.length_append];simp;omega,by rw [HP.out];simp [preP,List.append_assoc]⟩
end Go.Proofs.YtbilphfbfnohmaaGreatDoor.Pz
namespace Go.Proofs.YtbilphfbfnohmaaGreatDoor.Pz
open Go.RowKit Go.Shelf
attribute [local go_sem] Oper.semAt_some
def encI (n:Nat) (x:Item):Array Value:=#[.int .i64 ((n:Int)-(x.1:Int)),.agg #[.string ⟨x.2.1.toArray⟩,.bool x.2.2]]
def KpL (B p q:Nat) (W W':World):Prop:=Below B W W'∧W'.heap[p]? = W.heap[p]?∧W'.heap[q]? = W.heap[q]?
theorem KpL.refl (B p q:Nat) (W:World):KpL B p q W W:=⟨Below.refl _ _,rfl,rfl⟩
theorem KpL.trans {B p q:Nat} {X Y Z:World} (h:KpL B p q X Y) (k:KpL B p q Y Z):KpL B p q X Z:=⟨h.1.trans k.1,k.2.1.trans h.2.1,k.2.2.trans h.2.2⟩
theorem KpL.of {B p q:Nat} {X Y:World} (h:Below X.heap.size X Y) (hB:B≤X.heap.size) (hp:p<X.heap.size) (hq:q<X.heap.size):KpL B p q X Y:=⟨h.mono hB,h.block p hp,h.block q hq⟩
def rdCells:Array Value:=#[.func (.func 169) #[] #[],.func (.func 170) #[] #[],.func (.func 171) #[] #[]]
theorem readBraced_fn' (t:Str) (ht:t.length≤1000000) (w:World):Calls Tryz.prog 170 #[.string ⟨(123::t).toArray⟩] w fun e w'=>e=.returned (readAns (t.length+1) (brace 0 t))∧Below w.heap.size w w':=
 (readBraced_fn t ht w).mono fun _ _ ⟨h1,h2⟩=>⟨h1,by rw [h2];exact Below.refl _ _⟩
set_option maxRecDepth 100000 in
set_option maxHeartbeats 700000 in
theorem elements1_in (l B p q:Nat) (s:Str) (hs:s.length≤1000000) (J Jx:List Item→World→Prop) (W:World) (N:Nat)
    (hY:∀ pre x W1,J pre W1→pre.length<(itemsE s).length→YieldAt Fence.wide (N-1) Tryz.prog l (encI s.length x) W1 fun e W'=>(e=.returned (.bool true)∧J (pre++[x]) W'∧KpL B p q W1 W')∨(e=.returned (.bool false)∧Jx (pre++[x]) W'))
    (hp:W.heap[p]? = some (.cells #[.string ⟨s.toArray⟩] 9 (0,0))) (hq:W.heap[q]? = some (.cells rdCells 159 (0,0))) (hBW:B≤W.heap.size)
    (hJd:∀ s W1 W2,J s W1→Below W1.heap.size W1 W2→J s W2) (h0:J [] W) :
    CallsIn Fence.wide N Tryz.prog 125 #[.func (.yield l) #[] #[],.pointer (some ⟨p,0,none⟩),.pointer (some ⟨q,0,none⟩)] W fun e W'=>(∃ v,e=.returned v)∧(J (itemsE s) W'∨∃ pre,pre <+: itemsE s∧Jx pre W'):=by
  have hsz:(⟨s.toArray⟩:ByteArray).size=s.length:=Lib.size_mk _
  have HY:=hid hY
  have HP:=hid hp
  have HQ:=hid hq
  have HJ:=hid hJd
  have H0:=hid h0
  have hpl:=(Array.getElem?_eq_some_iff.1 hp).1
  have hql:=(Array.getElem?_eq_some_iff.1 hq).1
  have hpc:W.cell? ⟨p,0,none⟩=some (.string ⟨s.toArray⟩):=by rw [Lib.cell_of_heap hp];rfl
  clear hY hp hq hJd h0
  refine callsIn_of_wp Tryz.func125 rfl trivial ?_ rfl
  simp only [Tryz.ntmps125,List.size_toArray,List.length_cons,List.length_nil,Nat.reduceAdd,Nat.reduceSub,Array.replicate_succ,Array.replicate_zero,List.push_toArray,List.append_toArray,List.nil_append,List.cons_append]
  gi_wp2
  gi_loopw [4] (fun iv wr=>∃ (i:Nat) (r:Str) (pre:List Item),iv=.int .i64 (i:Nat)∧(At s r i∨(r=[]∧s.length<i))∧i≤s.length+1∧itemsE s=pre++itemsE r∧J pre wr∧KpL B p q W wr)
    (fun iv _=>s.length+1-(intOf iv).toNat)
  case atStart=>exact ⟨0,s,[],rfl,.inl (At.start s),Nat.zero_le _,rfl,H0.out,KpL.refl _ _ _ _⟩
  case round=>
    obtain ⟨i,r,pre,rfl,hat,hi1,hpre,hJ,hkp⟩:=hrel
    have hsw:=hkp.1.size
    have hpc':wr.cell? ⟨p,0,none⟩=some (.string ⟨s.toArray⟩):=by rw [Lib.cell_of_heap (hkp.2.1.trans HP.out)];rfl
    cases r with
    | nil=>
      have hge:s.length≤i:=by
        rcases hat with h | h
        · exact h.nil_iff.1 rfl
        · omega
      rw [show itemsE []=[] by rw [itemsE],List.append_nil] at hpre
      clear hat
      gi_wp2
      go_end0
      exact ⟨⟨_,rfl⟩,.inl (by rw [hpre];exact hJ)⟩
    | cons c t=>
      have ha:At s (c::t) i:=by
        rcases hat with h | h
        · exact h
        · exact absurd h.1 (by simp)
      clear hat
      have hlt:=ha.lt
      have hx:=ha.byte
      have hlen:=ha.len
      simp only [List.length_cons] at hlen
      have HA:=hid ha
      have HPRE:=hid hpre
      have HJ1:=hid hJ
      have HKP:=hid hkp
      have hwf:=hid (callsIn_wide (n:=N-1).2 (white_fn c wr))
      clear hpre hJ hkp
      cases hw:white c with
      | true=>
        rw [hw] at hwf
        gi_wp2_with (refine ⟨trivial,fun h=>by (cases h),?_⟩;gi_at_call 95;(with_reducible refine hwf.out.mono ?_);rintro e wr ⟨rfl,rfl⟩)
        go_roundw
        case rel=>exact ⟨i+1,t,pre,by go_num,.inl HA.out.tail,by omega,by rw [HPRE.out,itemsE_white hw],HJ1.out,HKP.out⟩
        case measure=>simp [intOf]<;>omega
      | false=>
        rw [hw] at hwf
        have hex:(⟨s.toArray⟩:ByteArray).extract i s.length=⟨(c::t).toArray⟩:=At.all ha
        have HIT:=hid (itemsE_cons (t:=t) hw)
        have hmx:Tryz.prog.follows .mixedOrders=true:=by kernel_rfl
        have hcell:∀ (F:Nat) (k:Nat),rdCells[k]? = some (.func (.func F) #[] #[])→wr.cell? ⟨q,k,none⟩=some (.func (.func F) #[] #[]):=fun F k h=>by rw [Lib.cell_of_heap (HKP.out.2.2.trans HQ.out)];exact h
        obtain ⟨k, F, hcf, hk3, hk, hck, hr0⟩ : ∃ (k : Nat) (F : Nat), (∀ args w, Sem.run Tryz.prog (callFunc F args) w = .ok (.enter F args) w) ∧ k < 3 ∧ (∀ w, Calls Tryz.prog 126 #[.int .u8 (c.toNat : Nat)] w fun e w' => e = .returned (.int .i64 (k : Nat)) ∧ w' = w) ∧ wr.cell? ⟨q, k, none⟩ = some (.func (.func F) #[] #[]) ∧
            ∀ w,Calls Tryz.prog F #[.string ⟨(c::t).toArray⟩] w fun e w'=>e=.returned (readAns (t.length+1) (elemE (c::t)))∧Below w.heap.size w w':=by
          by_cases h1:c=123
          · subst h1
            exact ⟨1,170,fun _ _=>by go_simp,by omega,fun w=>kind_fn 123 w,hcell _ 1 rfl,fun w=>readBraced_fn' t (by omega) w⟩
          · by_cases h2:c=34
            · subst h2
              exact ⟨2,171,fun _ _=>by go_simp,by omega,fun w=>kind_fn 34 w,hcell _ 2 rfl,fun w=>readQuoted_fn t (by omega) w⟩
            · refine ⟨0,169,fun _ _=>by go_simp,by omega,fun w=>?_,hcell _ 0 rfl,fun w=>?_⟩
              · have h9:=kind_fn c w
                rw [show kindOf c=0 by unfold kindOf;rw [if_neg (by simpa using h1),if_neg (by simpa using h2)]] at h9
                exact h9
              · have h9:=readBare_fn (c::t) (by simp only [List.length_cons];omega) w
                rw [show elemE (c::t)=some (bareE (c::t)) by show (if (c == 123)=true then brace 0 t else if (c == 34)=true then quotedE t else some (bareE (c::t)))=_;rw [if_neg (by simpa using h1),if_neg (by simpa using h2)]]
                exact h9
        have hk0:(0:Int)≤(k:Int):=by omega
        have hk4:(k:Int)<3:=by omega
        clear ha hcell
        cases HEL:elemE (c::t) with
        | none=>
          rw [HEL] at hr0
          replace HIT:=hid (show itemsE (c::t)=[(t.length+1,[],false)] by rw [HIT.out,HEL])
          have hrd:=hid (show ∀ w,Calls Tryz.prog F #[.string ⟨(c::t).toArray⟩] w (fun e w'=>e=.returned (.tuple #[.string ⟨#[]⟩,.int .i64 0,.bool false])∧Below w.heap.size w w') from hr0)
          gi_wp2_with (refine ⟨trivial,fun h=>by (cases h),?_⟩;gi_at_call 95;(with_reducible refine hwf.out.mono ?_);rintro e wr ⟨rfl,rfl⟩)
          refine wpIn_wide.2 ?_
          have S0:Hid ((fun u:World=>u.cell? ⟨p,0,none⟩=some (.string ⟨s.toArray⟩)∧u.cell? ⟨q,k,none⟩=some (.func (.func F) #[] #[])) wr.drew):=hid ⟨hpc',hck⟩
          refine U_begin (late:=fun _=>false) (S:=fun u:World=>u.cell? ⟨p,0,none⟩=some (.string ⟨s.toArray⟩)∧u.cell? ⟨q,k,none⟩=some (.func (.func F) #[] #[])) hmx ?_
          clear hpc' hck
          refine U_take2 8 (i:=0) (v:=.string ⟨s.toArray⟩) rfl (by kernel_rfl) (by kernel_rfl) (by kernel_rfl) (by kernel_rfl) (by kernel_rfl) (fun _ _ _ h=>h) (.inl ⟨rfl,fun u hu=>(by obtain ⟨k1,k2⟩:=hu;go_simp)⟩) S0.out ?_
          refine U_take2 8 (i:=1) (v:=.int .i64 (i:Nat)) rfl (by kernel_rfl) (by kernel_rfl) (by kernel_rfl) (by kernel_rfl) (by kernel_rfl) (fun _ _ _ h=>h) (.inl ⟨rfl,fun u hu=>(by obtain ⟨k1,k2⟩:=hu;go_simp)⟩) S0.out ?_
          refine U_take2 8 (i:=2) (v:=.int .u8 (c.toNat:Nat)) rfl (by kernel_rfl) (by kernel_rfl) (by kernel_rfl) (by kernel_rfl) (by kernel_rfl) (fun _ _ _ h=>h) (.inl ⟨rfl,fun u hu=>(by obtain ⟨k1,k2⟩:=hu;go_simp)⟩) S0.out ?_
          refine U_take2 8 (i:=6) (v:=.string ⟨s.toArray⟩) rfl (by kernel_rfl) (by kernel_rfl) (by kernel_rfl) (by kernel_rfl) (by kernel_rfl) (fun _ _ _ h=>h) (.inl ⟨rfl,fun u hu=>(by obtain ⟨k1,k2⟩:=hu;go_simp)⟩) S0.out ?_
          refine U_take2 8 (i:=7) (v:=.int .i64 (i:Nat)) rfl (by kernel_rfl) (by kernel_rfl) (by kernel_rfl) (by kernel_rfl) (by kernel_rfl) (fun _ _ _ h=>h) (.inl ⟨rfl,fun u hu=>(by obtain ⟨k1,k2⟩:=hu;go_simp)⟩) S0.out ?_
          refine U_take2 8 (i:=8) (v:=.string ⟨(c::t).toArray⟩) rfl (by kernel_rfl) (by kernel_rfl) (by kernel_rfl) (by kernel_rfl) (by kernel_rfl) (fun _ _ _ h=>h) (.inl ⟨rfl,fun u hu=>(by obtain ⟨k1,k2⟩:=hu;go_simp;exact fun h=>absurd h (by omega))⟩) S0.out ?_
          refine U_step (j:=3) (by kernel_rfl) rfl (fun K hK=>?_)
          go_simp
          (with_reducible refine (hk _).mono ?_);rintro e w4 ⟨rfl,rfl⟩
          refine hK.out _ _ (.inr S0.out) ?_
          clear hK K
          refine U_take2 8 (i:=4) (v:=.pointer (some ⟨q,k,none⟩)) rfl (by kernel_rfl) (by kernel_rfl) (by kernel_rfl) (by kernel_rfl) (by kernel_rfl) (fun _ _ _ h=>h) (.inl ⟨rfl,fun u hu=>(by obtain ⟨k1,k2⟩:=hu;go_simp)⟩) S0.out ?_
          refine U_take2 8 (i:=5) (v:=.func (.func F) #[] #[]) rfl (by kernel_rfl) (by kernel_rfl) (by kernel_rfl) (by kernel_rfl) (by kernel_rfl) (fun _ _ _ h=>h) (.inl ⟨rfl,fun u hu=>(by obtain ⟨k1,k2⟩:=hu;go_simp)⟩) S0.out ?_
          refine U_step (j:=9) (by kernel_rfl) rfl (fun K hK=>?_)
          go_simp
          (with_reducible refine (hrd.out _).mono ?_);rintro e w3 ⟨rfl,hw3⟩
          have S3:Hid ((fun u:World=>u.cell? ⟨p,0,none⟩=some (.string ⟨s.toArray⟩)∧u.cell? ⟨q,k,none⟩=some (.func (.func F) #[] #[])) w3):=hid ⟨(hw3.cell (p:=⟨p,0,none⟩) (by show p<wr.heap.size;omega)).trans S0.out.1,(hw3.cell (p:=⟨q,k,none⟩) (by show q<wr.heap.size;omega)).trans S0.out.2⟩
          refine hK.out _ _ (.inr S3.out) ?_
          clear hK K S0
          refine U_take2 8 (i:=10) (v:=.tuple #[.string ⟨#[]⟩,.int .i64 0,.bool false]) rfl (by kernel_rfl) (by kernel_rfl) (by kernel_rfl) (by kernel_rfl) (by kernel_rfl) (fun _ _ _ h=>h) (.inl ⟨rfl,fun u hu=>(by obtain ⟨k1,k2⟩:=hu;go_simp)⟩) S3.out ?_
          refine U_take2 8 (i:=11) (v:=.string ⟨#[]⟩) rfl (by kernel_rfl) (by kernel_rfl) (by kernel_rfl) (by kernel_rfl) (by kernel_rfl) (fun _ _ _ h=>h) (.inl ⟨rfl,fun u hu=>(by obtain ⟨k1,k2⟩:=hu;go_simp)⟩) S3.out ?_
          refine U_take2 8 (i:=12) (v:=.int .i64 0) rfl (by kernel_rfl) (by kernel_rfl) (by kernel_rfl) (by kernel_rfl) (by kernel_rfl) (fun _ _ _ h=>h) (.inl ⟨rfl,fun u hu=>(by obtain ⟨k1,k2⟩:=hu;go_simp)⟩) S3.out ?_
          refine U_take2 8 (i:=13) (v:=.bool false) rfl (by kernel_rfl) (by kernel_rfl) (by kernel_rfl) (by kernel_rfl) (by kernel_rfl) (fun _ _ _ h=>h) (.inl ⟨rfl,fun u hu=>(by obtain ⟨k1,k2⟩:=hu;go_simp)⟩) S3.out ?_
          refine U_take2 8 (i:=14) (v:=.string ⟨#[]⟩) rfl (by kernel_rfl) (by kernel_rfl) (by kernel_rfl) (by kernel_rfl) (by kernel_rfl) (fun _ _ _ h=>h) (.inl ⟨rfl,fun u hu=>(by obtain ⟨k1,k2⟩:=hu;go_simp)⟩) S3.out ?_
          refine U_take2 8 (i:=15) (v:=.int .i64 0) rfl (by kernel_rfl) (by kernel_rfl) (by kernel_rfl) (by kernel_rfl) (by kernel_rfl) (fun _ _ _ h=>h) (.inl ⟨rfl,fun u hu=>(by obtain ⟨k1,k2⟩:=hu;go_simp)⟩) S3.out ?_
          refine U_take2 8 (i:=16) (v:=.bool false) rfl (by kernel_rfl) (by kernel_rfl) (by kernel_rfl) (by kernel_rfl) (by kernel_rfl) (fun _ _ _ h=>h) (.inl ⟨rfl,fun u hu=>(by obtain ⟨k1,k2⟩:=hu;go_simp)⟩) S3.out ?_
          refine U_done (by kernel_rfl) ?_ _
          have hw3:Below wr.heap.size wr w3:=(Below.refl _ _).drew.trans hw3
          have hpc3:=S3.out.1
          clear S3 hrd
          have hxe:encI s.length (t.length+1,[],false)=#[.int .i64 (i:Nat),.agg #[.string ⟨([]:Str).toArray⟩,.bool false]]:=by
            unfold encI
            rw [show ((s.length:Nat):Int)-(((t.length+1,[],false):Item).1:Nat)=(i:Int) by show ((s.length:Nat):Int)-((t.length+1:Nat):Int)=(i:Int);omega]
          obtain ⟨fn,tmps,assign,body,hy,hR⟩:=HY.out pre (t.length+1,[],false) w3 (HJ.out _ _ _ HJ1.out hw3) (by rw [HPRE.out,HIT.out];simp)
          rw [hxe] at hy
          have HR:=hid hR
          have HK3:=hid (HKP.out.trans (KpL.of hw3 (by omega) (by omega) (by omega)))
          clear hR hxe hw3
          have hun:undef=.tuple #[]:=rfl
          gi_wp2
          refine ⟨trivial,?_⟩
          gi_wp2
          clear hun
          refine ⟨fun h=>by (cases h),?_⟩
          refine HR.out.mono ?_
          rintro e W3 (⟨rfl,hJ3,hk3⟩ | ⟨rfl,hJx3⟩)
          · have HJ3:=hid hJ3
            have HK4:=hid (HK3.out.trans hk3)
            clear hJ3 hk3
            gi_wp2
            refine bodyPost_ret (results_none rfl _ _ _) rfl ?_
            exact ⟨⟨_,rfl⟩,.inl (by rw [HPRE.out,HIT.out];exact HJ3.out)⟩
          · have HX3:=hid hJx3
            clear hJx3
            gi_wp2
            refine bodyPost_ret (results_none rfl _ _ _) rfl ?_
            exact ⟨⟨_,rfl⟩,.inr ⟨_,by rw [HPRE.out,HIT.out];exact (List.prefix_append_right_inj pre).2 (by simp),HX3.out⟩⟩
        | some y=>
          obtain ⟨x,r⟩:=y
          rw [HEL] at hr0
          have hrs:=elemE_suf hw HEL
          obtain ⟨m,hm⟩:∃ m,m=t.length+1-r.length:=⟨_,rfl⟩
          have hr1:∀ w,Calls Tryz.prog F #[.string ⟨(c::t).toArray⟩] w (fun e w'=>e=.returned (.tuple #[.string ⟨x.toArray⟩,.int .i64 (m:Nat),.bool true])∧Below w.heap.size w w'):=fun w=>by rw [hm];exact hr0 w
          have hml:m≤t.length+1:=by omega
          have HM:=hid hm
          clear hr0 hm
          have hrd:=hid (show ∀ w,Calls Tryz.prog F #[.string ⟨(c::t).toArray⟩] w (fun e w'=>e=.returned (.tuple #[.string ⟨x.toArray⟩,.int .i64 (m:Nat),.bool true])∧Below w.heap.size w w') from hr1)
          gi_wp2_with (refine ⟨trivial,fun h=>by (cases h),?_⟩;gi_at_call 95;(with_reducible refine hwf.out.mono ?_);rintro e wr ⟨rfl,rfl⟩)
          refine wpIn_wide.2 ?_
          have S0:Hid ((fun u:World=>u.cell? ⟨p,0,none⟩=some (.string ⟨s.toArray⟩)∧u.cell? ⟨q,k,none⟩=some (.func (.func F) #[] #[])) wr.drew):=hid ⟨hpc',hck⟩
          refine U_begin (late:=fun _=>false) (S:=fun u:World=>u.cell? ⟨p,0,none⟩=some (.string ⟨s.toArray⟩)∧u.cell? ⟨q,k,none⟩=some (.func (.func F) #[] #[])) hmx ?_
          clear hpc' hck
          refine U_take2 8 (i:=0) (v:=.string ⟨s.toArray⟩) rfl (by kernel_rfl) (by kernel_rfl) (by kernel_rfl) (by kernel_rfl) (by kernel_rfl) (fun _ _ _ h=>h) (.inl ⟨rfl,fun u hu=>(by obtain ⟨k1,k2⟩:=hu;go_simp)⟩) S0.out ?_
          refine U_take2 8 (i:=1) (v:=.int .i64 (i:Nat)) rfl (by kernel_rfl) (by kernel_rfl) (by kernel_rfl) (by kernel_rfl) (by kernel_rfl) (fun _ _ _ h=>h) (.inl ⟨rfl,fun u hu=>(by obtain ⟨k1,k2⟩:=hu;go_simp)⟩) S0.out ?_
          refine U_take2 8 (i:=2) (v:=.int .u8 (c.toNat:Nat)) rfl (by kernel_rfl) (by kernel_rfl) (by kernel_rfl) (by kernel_rfl) (by kernel_rfl) (fun _ _ _ h=>h) (.inl ⟨rfl,fun u hu=>(by obtain ⟨k1,k2⟩:=hu;go_simp)⟩) S0.out ?_
          refine U_take2 8 (i:=6) (v:=.string ⟨s.toArray⟩) rfl (by kernel_rfl) (by kernel_rfl) (by kernel_rfl) (by kernel_rfl) (by kernel_rfl) (fun _ _ _ h=>h) (.inl ⟨rfl,fun u hu=>(by obtain ⟨k1,k2⟩:=hu;go_simp)⟩) S0.out ?_
          refine U_take2 8 (i:=7) (v:=.int .i64 (i:Nat)) rfl (by kernel_rfl) (by kernel_rfl) (by kernel_rfl) (by kernel_rfl) (by kernel_rfl) (fun _ _ _ h=>h) (.inl ⟨rfl,fun u hu=>(by obtain ⟨k1,k2⟩:=hu;go_simp)⟩) S0.out ?_
          refine U_take2 8 (i:=8) (v:=.string ⟨(c::t).toArray⟩) rfl (by kernel_rfl) (by kernel_rfl) (by kernel_rfl) (by kernel_rfl) (by kernel_rfl) (fun _ _ _ h=>h) (.inl ⟨rfl,fun u hu=>(by obtain ⟨k1,k2⟩:=hu;go_simp;exact fun h=>absurd h (by omega))⟩) S0.out ?_
          refine U_step (j:=3) (by kernel_rfl) rfl (fun K hK=>?_)
          go_simp
          (with_reducible refine (hk _).mono ?_);rintro e w4 ⟨rfl,rfl⟩
          refine hK.out _ _ (.inr S0.out) ?_
          clear hK K
          refine U_take2 8 (i:=4) (v:=.pointer (some ⟨q,k,none⟩)) rfl (by kernel_rfl) (by kernel_rfl) (by kernel_rfl) (by kernel_rfl) (by kernel_rfl) (fun _ _ _ h=>h) (.inl ⟨rfl,fun u hu=>(by obtain ⟨k1,k2⟩:=hu;go_simp)⟩) S0.out ?_
          refine U_take2 8 (i:=5) (v:=.func (.func F) #[] #[]) rfl (by kernel_rfl) (by kernel_rfl) (by kernel_rfl) (by kernel_rfl) (by kernel_rfl) (fun _ _ _ h=>h) (.inl ⟨rfl,fun u hu=>(by obtain ⟨k1,k2⟩:=hu;go_simp)⟩) S0.out ?_
          refine U_step (j:=9) (by kernel_rfl) rfl (fun K hK=>?_)
          go_simp
          (with_reducible refine (hrd.out _).mono ?_);rintro e w3 ⟨rfl,hw3⟩
          have S3:Hid ((fun u:World=>u.cell? ⟨p,0,none⟩=some (.string ⟨s.toArray⟩)∧u.cell? ⟨q,k,none⟩=some (.func (.func F) #[] #[])) w3):=hid ⟨(hw3.cell (p:=⟨p,0,none⟩) (by show p<wr.heap.size;omega)).trans S0.out.1,(hw3.cell (p:=⟨q,k,none⟩) (by show q<wr.heap.size;omega)).trans S0.out.2⟩
          refine hK.out _ _ (.inr S3.out) ?_
          clear hK K S0
          refine U_take2 8 (i:=10) (v:=.tuple #[.string ⟨x.toArray⟩,.int .i64 (m:Nat),.bool true]) rfl (by kernel_rfl) (by kernel_rfl) (by kernel_rfl) (by kernel_rfl) (by kernel_rfl) (fun _ _ _ h=>h) (.inl ⟨rfl,fun u hu=>(by obtain ⟨k1,k2⟩:=hu;go_simp)⟩) S3.out ?_
          refine U_take2 8 (i:=11) (v:=.string ⟨x.toArray⟩) rfl (by kernel_rfl) (by kernel_rfl) (by kernel_rfl) (by kernel_rfl) (by kernel_rfl) (fun _ _ _ h=>h) (.inl ⟨rfl,fun u hu=>(by obtain ⟨k1,k2⟩:=hu;go_simp)⟩) S3.out ?_
          refine U_take2 8 (i:=12) (v:=.int .i64 (m:Nat)) rfl (by kernel_rfl) (by kernel_rfl) (by kernel_rfl) (by kernel_rfl) (by kernel_rfl) (fun _ _ _ h=>h) (.inl ⟨rfl,fun u hu=>(by obtain ⟨k1,k2⟩:=hu;go_simp)⟩) S3.out ?_
          refine U_take2 8 (i:=13) (v:=.bool true) rfl (by kernel_rfl) (by kernel_rfl) (by kernel_rfl) (by kernel_rfl) (by kernel_rfl) (fun _ _ _ h=>h) (.inl ⟨rfl,fun u hu=>(by obtain ⟨k1,k2⟩:=hu;go_simp)⟩) S3.out ?_
          refine U_take2 8 (i:=14) (v:=.string ⟨x.toArray⟩) rfl (by kernel_rfl) (by kernel_rfl) (by kernel_rfl) (by kernel_rfl) (by kernel_rfl) (fun _ _ _ h=>h) (.inl ⟨rfl,fun u hu=>(by obtain ⟨k1,k2⟩:=hu;go_simp)⟩) S3.out ?_
          refine U_take2 8 (i:=15) (v:=.int .i64 (m:Nat)) rfl (by kernel_rfl) (by kernel_rfl) (by kernel_rfl) (by kernel_rfl) (by kernel_rfl) (fun _ _ _ h=>h) (.inl ⟨rfl,fun u hu=>(by obtain ⟨k1,k2⟩:=hu;go_simp)⟩) S3.out ?_
          refine U_take2 8 (i:=16) (v:=.bool true) rfl (by kernel_rfl) (by kernel_rfl) (by kernel_rfl) (by kernel_rfl) (by kernel_rfl) (fun _ _ _ h=>h) (.inl ⟨rfl,fun u hu=>(by obtain ⟨k1,k2⟩:=hu;go_simp)⟩) S3.out ?_
          refine U_done (by kernel_rfl) ?_ _
          have hw3:Below wr.heap.size wr w3:=(Below.refl _ _).drew.trans hw3
          have hpc3:=S3.out.1
          clear S3 hrd
          obtain ⟨e,he⟩:∃ e,e=s.length-r.length:=⟨_,rfl⟩
          have hie:(i:Int)+(m:Int)=(e:Int):=by have:=HM.out;omega
          have hae:At s r e:=by rw [he];exact HA.out.suf hrs.2
          have hae2:=hae.len
          clear he
          cases hsp:spaced r with
          | false=>
            replace HIT:=hid (show itemsE (c::t)=[(t.length+1,x,false)] by rw [HIT.out,HEL];dsimp only;rw [hsp];rfl)
            cases r with
            | nil=>cases hsp
            | cons c2 r2=>
              have hx2:=hae.byte
              have hlt2:=hae.lt
              have hne:((e:Int) == (s.length:Int))=false:=by rw [beq_eq_false_iff_ne];omega
              have hwf2:=hid (callsIn_wide (n:=N-1).2 (white_fn c2 w3))
              rw [show white c2=false from hsp] at hwf2
              have he0:(0:Int)≤(e:Int)∧(e:Int)<(s.length:Int):=by omega
              clear hsp hae
              have hxe:encI s.length (t.length+1,x,false)=#[.int .i64 (i:Nat),.agg #[.string ⟨(x:Str).toArray⟩,.bool false]]:=by
                unfold encI
                rw [show ((s.length:Nat):Int)-(((t.length+1,x,false):Item).1:Nat)=(i:Int) by show ((s.length:Nat):Int)-((t.length+1:Nat):Int)=(i:Int);omega]
              obtain ⟨fn,tmps,assign,body,hy,hR⟩:=HY.out pre (t.length+1,x,false) w3 (HJ.out _ _ _ HJ1.out hw3) (by rw [HPRE.out,HIT.out];simp)
              rw [hxe] at hy
              have HR:=hid hR
              have HK3:=hid (HKP.out.trans (KpL.of hw3 (by omega) (by omega) (by omega)))
              clear hR hxe hw3
              gi_wp2_with (refine ⟨trivial,fun h=>by (cases h),?_⟩;gi_at_call 95;(with_reducible refine hwf2.out.mono ?_);rintro e' w3 ⟨rfl,rfl⟩)
              refine ⟨fun h=>by (cases h),?_⟩
              refine HR.out.mono ?_
              rintro e W3 (⟨rfl,hJ3,hk3⟩ | ⟨rfl,hJx3⟩)
              · have HJ3:=hid hJ3
                have HK4:=hid (HK3.out.trans hk3)
                clear hJ3 hk3
                gi_wp2
                refine bodyPost_ret (results_none rfl _ _ _) rfl ?_
                exact ⟨⟨_,rfl⟩,.inl (by rw [HPRE.out,HIT.out];exact HJ3.out)⟩
              · have HX3:=hid hJx3
                clear hJx3
                gi_wp2
                refine bodyPost_ret (results_none rfl _ _ _) rfl ?_
                exact ⟨⟨_,rfl⟩,.inr ⟨_,by rw [HPRE.out,HIT.out];exact (List.prefix_append_right_inj pre).2 (by simp),HX3.out⟩⟩
          | true=>
            replace HIT:=hid (show itemsE (c::t)=(t.length+1,x,true)::itemsE r by rw [HIT.out,HEL];dsimp only;rw [hsp];rfl)
            cases r with
            | nil=>
              have hee:((e:Int) == (s.length:Int))=true:=by rw [beq_iff_eq];simp at hae2;omega
              simp only [List.length_nil] at hae2
              clear hsp hae
              have hxe:encI s.length (t.length+1,x,true)=#[.int .i64 (i:Nat),.agg #[.string ⟨(x:Str).toArray⟩,.bool true]]:=by
                unfold encI
                rw [show ((s.length:Nat):Int)-(((t.length+1,x,true):Item).1:Nat)=(i:Int) by show ((s.length:Nat):Int)-((t.length+1:Nat):Int)=(i:Int);omega]
              obtain ⟨fn,tmps,assign,body,hy,hR⟩:=HY.out pre (t.length+1,x,true) w3 (HJ.out _ _ _ HJ1.out hw3) (by rw [HPRE.out,HIT.out];simp)
              rw [hxe] at hy
              have HR:=hid hR
              have HK3:=hid (HKP.out.trans (KpL.of hw3 (by omega) (by omega) (by omega)))
              clear hR hxe hw3
              gi_wp2
              refine ⟨trivial,?_⟩
              gi_wp2
              refine ⟨fun h=>by (cases h),?_⟩
              refine HR.out.mono ?_
              rintro e W3 (⟨rfl,hJ3,hk3⟩ | ⟨rfl,hJx3⟩)
              · have HJ3:=hid hJ3
                have HK4:=hid (HK3.out.trans hk3)
                clear hJ3 hk3
                gi_wp2
                go_roundw
                case rel=>exact ⟨e+1,[],pre++[_],by go_num,.inr ⟨rfl,by omega⟩,by omega,by rw [HPRE.out,HIT.out];simp,HJ3.out,HK4.out⟩
                case measure=>simp [intOf]<;>omega
              · have HX3:=hid hJx3
                clear hJx3
                gi_wp2
                refine bodyPost_ret (results_none rfl _ _ _) rfl ?_
                exact ⟨⟨_,rfl⟩,.inr ⟨_,by rw [HPRE.out,HIT.out];exact (List.prefix_append_right_inj pre).2 (by simp),HX3.out⟩⟩
            | cons c2 r2=>
              have hx2:=hae.byte
              have hlt2:=hae.lt
              have hne:((e:Int) == (s.length:Int))=false:=by rw [beq_eq_false_iff_ne];omega
              have hwf2:=hid (callsIn_wide (n:=N-1).2 (white_fn c2 w3))
              rw [show white c2=true from hsp] at hwf2
              have HW2:=hid (show white c2=true from hsp)
              have he0:(0:Int)≤(e:Int)∧(e:Int)<(s.length:Int):=by omega
              have HAE:=hid hae
              simp only [List.length_cons] at hae2
              clear hsp hae
              have hxe:encI s.length (t.length+1,x,true)=#[.int .i64 (i:Nat),.agg #[.string ⟨(x:Str).toArray⟩,.bool true]]:=by
                unfold encI
                rw [show ((s.length:Nat):Int)-(((t.length+1,x,true):Item).1:Nat)=(i:Int) by show ((s.length:Nat):Int)-((t.length+1:Nat):Int)=(i:Int);omega]
              obtain ⟨fn,tmps,assign,body,hy,hR⟩:=HY.out pre (t.length+1,x,true) w3 (HJ.out _ _ _ HJ1.out hw3) (by rw [HPRE.out,HIT.out];simp)
              rw [hxe] at hy
              have HR:=hid hR
              have HK3:=hid (HKP.out.trans (KpL.of hw3 (by omega) (by omega) (by omega)))
              clear hR hxe hw3
              gi_wp2_with (refine ⟨trivial,fun h=>by (cases h),?_⟩;gi_at_call 95;(with_reducible refine hwf2.out.mono ?_);rintro e' w3 ⟨rfl,rfl⟩)
              refine ⟨fun h=>by (cases h),?_⟩
              refine HR.out.mono ?_
              rintro e W3 (⟨rfl,hJ3,hk3⟩ | ⟨rfl,hJx3⟩)
              · have HJ3:=hid hJ3
                have HK4:=hid (HK3.out.trans hk3)
                clear hJ3 hk3
                gi_wp2
                go_roundw
                case rel=>exact ⟨e+1,r2,pre++[_],by go_num,.inl HAE.out.tail,by omega,by rw [HPRE.out,HIT.out,itemsE_white HW2.out];simp,HJ3.out,HK4.out⟩
                case measure=>simp [intOf]<;>omega
              · have HX3:=hid hJx3
                clear hJx3
                gi_wp2
                refine bodyPost_ret (results_none rfl _ _ _) rfl ?_
                exact ⟨⟨_,rfl⟩,.inr ⟨_,by rw [HPRE.out,HIT.out];exact (List.prefix_append_right_inj pre).2 (by simp),HX3.out⟩⟩
end Go.Proofs.YtbilphfbfnohmaaGreatDoor.Pz
namespace Go.Proofs.YtbilphfbfnohmaaGreatDoor.Pz
open Go.RowKit Go.Shelf
attribute [local go_sem] Oper.semAt_some
set_option maxHeartbeats 1000000 in
theorem elements_fn (s:Str) (w:World):Calls Tryz.prog 73 #[.string ⟨s.toArray⟩] w fun e w'=>∃ q,e=.returned (.func (.func 125) #[] #[.pointer (some ⟨w.heap.size,0,none⟩),.pointer (some ⟨q,0,none⟩)])∧Below w.heap.size w w'∧
  w'.heap[w.heap.size]? = some (.cells #[.string ⟨s.toArray⟩] 9 (0,0))∧w'.heap[q]? = some (.cells rdCells 159 (0,0))∧w.heap.size<q:=by
 have hmf:∀ (fn:Fn) (first cap:Array Value) (w:World),(Instr.makeFunc fn first cap).run Tryz.prog w=.ok (.func fn first cap) w:=fun _ _ _ _=>rfl
 obtain ⟨w1,hw1⟩:∃ w1,w1=w.alloc (.cells #[.string ⟨s.toArray⟩] 9):=⟨_,rfl⟩
 have hb1:Below w.heap.size w w1:=by rw [hw1];exact belowA _ _
 have h1:w1.heap[w.heap.size]? = some (.cells #[.string ⟨s.toArray⟩] 9 (0,0)):=by rw [hw1];exact heap_alloc_new _ _
 have hs1:w1.heap.size=w.heap.size+1:=by rw [hw1];simp
 have hr:=hid (readers_fn w1)
 have HW1:=hid hw1
 have HB1:=hid hb1
 have H1:=hid h1
 have HS1:=hid hs1
 clear hw1 hb1 h1 hs1
 go_enter Tryz.func73,Tryz.ntmps73
 go_wp2_with fail
 rw [← HW1.out]
 (with_reducible refine hr.out.mono ?_);rintro e w2 ⟨rfl,hb2⟩
 have hs2:=hb2.size
 have H2:=hid ((hb2.block _ (by have:=HS1.out;omega)).trans H1.out)
 have HB2:=hid (HB1.out.trans (hb2.mono (by have:=HS1.out;omega)))
 clear hb2
 go_wp2
 go_ret
 refine ⟨w2.heap.size,rfl,HB2.out.trans ((belowA _ _).mono HB2.out.size),(Below.heap_alloc _ _ _ (by have:=HS1.out;omega)).trans H2.out,heap_alloc_new _ _,by have:=HS1.out;omega⟩
theorem app_oneIn {F:Fence} {nF:Nat} {w:World} {N:Nat} (hN:w.heap.size=N) {ops:Array Oper} {rest:List Oper} {o:Oper} {a:Act} {Q:Exit→Act→World→Prop} (hgd:o.guard=none) (s x:Operand)
  (ho:o.op=.call { callee:=.builtin .append,args:=#[s,x],argTypes:=#[26,26] }) (B:Nat) (v:Value) (l:List Str) (q:Str)
  (hs:a.eval s=v) (hown:RowS B w v l) (hx:a.eval x=.slice (some ⟨N,0,none⟩) 1 1) (hB:B≤w.heap.size) (hl:l.length≤10000000)
  (h:∀ v' w',RowS B w' v' (l++[q])→w.grownBy w' v.ownBlock→(∀ g,v'.ownBlock=some g→v.ownBlock=some g∨w.heap.size≤g)→wpListIn F nF Tryz.prog ops Q rest (a.put o.dst v') w') :
  wpListIn F nF Tryz.prog ops Q (o::rest) a (w.alloc (.cells #[.string ⟨q.toArray⟩] 9)):=by
 obtain ⟨i0,hi,hz0,hz1,hz2⟩:=info_parts Tryz.infoS
 subst hN
 have hown':(w.alloc (.cells #[.string ⟨q.toArray⟩] 9)).ownsRow B 9 1 v l.length (strCells l):=World.ownsRow.alloc hown _
 refine wpListIn_append_own_at _ hgd s x 26 ho B 9 i0 (.string ⟨#[]⟩) 1 16 Tryz.underlying26 hi hz0 hz1 hz2 rfl (by decide) v l.length (strCells l) hs hown' ⟨w.heap.size,0,none⟩ 1 1 [.string ⟨q.toArray⟩] hx rfl (cell_one_new _ _ _) (strCells_one [q]) ?_ ?_ ?_ ?_
 ·unfold maxLen;omega
 ·omega
 ·simp;omega
 ·intro v' w' hrow hg _ hat
  refine h v' w' ?_ ?_ ?_
  ·show w'.ownsRow B 9 1 v' (l++[q]).length (strCells (l++[q]))
   rw [strCells_app,List.length_append]
   exact hrow
  ·refine ⟨hg.os,hg.tape,hg.output,?_,fun k hk hr=>?_⟩
   ·have:=hg.size;simp at this;omega
   ·rw [hg.block k (by simp;omega) hr]
    exact Below.heap_alloc _ _ _ (by omega)
  ·intro g hgv
   rcases hat with h2 | h2
   ·exact .inl (by rw [← h2];exact hgv)
   ·rw [h2] at hgv
    have:=Option.some.inj hgv
    simp at this
    exact .inr (by omega)
theorem elements_stops {B p q:Nat} {s:Str} (hs:s.length≤1000000) {w:World} (N:Nat) (hp:w.heap[p]? = some (.cells #[.string ⟨s.toArray⟩] 9 (0,0))) (hq:w.heap[q]? = some (.cells rdCells 159 (0,0))) (hB:B≤w.heap.size) :
  SeqStopsK Fence.wide N Tryz.prog 125 #[.pointer (some ⟨p,0,none⟩),.pointer (some ⟨q,0,none⟩)] (encI s.length) (KpL B p q) (fun xs=>xs=itemsE s) (fun pre=>pre <+: itemsE s) (itemsE s).length w:=by
 intro l J Jx W hW hJ hJx hY h0
 refine (elements1_in l B p q s hs J Jx W N hY ((hW.block p (Array.getElem?_eq_some_iff.1 hp).1).trans hp) ((hW.block q (Array.getElem?_eq_some_iff.1 hq).1).trans hq) (Nat.le_trans hB hW.size)
  (fun s W1 W2 h hb=>hJ s W1 W2 none h ⟨hb.os,hb.tape,hb.output,hb.size,fun k hk _=>hb.block k hk⟩ (fun r e=>by cases e)) h0).mono ?_
 rintro e W' ⟨he,h | ⟨pre,hpre,h⟩⟩
 ·exact ⟨he,.inl ⟨_,rfl,h⟩⟩
 ·exact ⟨he,.inr ⟨pre,hpre,h⟩⟩
theorem cells_turn {X Y:World} {row:Option Nat} {B k:Nat} {cs:Array Value} {t:TypeId} {fz:Nat×Nat} (hg:X.grownBy Y row) (hr:∀ r,row=some r→B≤r∧∃ o:Obj,X.heap[r]? = some o∧o.isCells=false) (h:X.heap[k]? = some (.cells cs t fz)):Y.heap[k]? = some (.cells cs t fz):=by
 rw [hg.block k (Array.getElem?_eq_some_iff.1 h).1 fun e=>?_]
 ·exact h
 ·obtain ⟨_,o,ho,hc⟩:=hr k e.symm
  rw [h] at ho
  cases ho
  cases hc
theorem below_turn {w X Y:World} {row:Option Nat} {B:Nat} (hb:Below B w X) (hB:B≤w.heap.size) (hg:X.grownBy Y row) (hr:∀ r,row=some r→B≤r∧∃ o:Obj,X.heap[r]? = some o∧o.isCells=false):Below B w Y:=hb.grown hg (Nat.le_trans hB hb.size) fun k e=>(hr k e).1
structure SpAt (b M:Nat) (w:World) (v:Value) (pre:List Item) (W:World):Prop where
 big:M≤W.heap.size
 l:W.heap[b]? = some (.cells #[v] 26 (0,0))
 row:RowS M W v ((pre.map (fun x=>x.2.1)).take 10000)
 at0:W.heap[b+1]? = some (.cells #[.int .i64 0] 3 (0,0))
 e0:W.heap[b+1+1]? = some (.cells #[.int .i64 0] 22 (0,0))
 many:W.heap[b+1+1+1]? = some (.cells #[.bool (decide (10000<pre.length))] 4 (0,0))
 low:Below b w W
 oks:∀ x∈pre,x.2.2=true
structure SpEnd (b n:Nat) (w:World) (pre:List Item) (W:World):Prop where
 l:W.heap[b]? = some (.cells #[.slice none 0 0] 26 (0,0))
 at0:∃ (q:List Item) (k:Nat) (y:Str),pre=q++[(k,y,false)]∧W.heap[b+1]? = some (.cells #[.int .i64 ((n:Int)-(k:Int))] 3 (0,0))
 e0:W.heap[b+1+1]? = some (.cells #[.int .i64 2] 22 (0,0))
 low:Below b w W
theorem SpAt.own {b B M:Nat} {w:World} (hB:b≤B) (hbw:b≤w.heap.size):OwnFrom B (fun pre W=>∃ v,SpAt b M w v pre W):=by
 rintro pre X Y row ⟨v,h⟩ hg hr
 have hr':∀ r,row=some r→b≤r∧∃ o:Obj,X.heap[r]? = some o∧o.isCells=false:=fun r e=>⟨Nat.le_trans hB (hr r e).1,(hr r e).2⟩
 exact ⟨v,Nat.le_trans h.big hg.size,cells_turn hg hr h.l,ownsRow_heap2 h.row fun g cur _ hc=>cells_turn hg hr hc,cells_turn hg hr h.at0,cells_turn hg hr h.e0,cells_turn hg hr h.many,below_turn h.low hbw hg hr',h.oks⟩
theorem SpEnd.own {b B n:Nat} {w:World} (hB:b≤B) (hbw:b≤w.heap.size):OwnFrom B (fun pre W=>SpEnd b n w pre W):=by
 rintro pre X Y row h hg hr
 have hr':∀ r,row=some r→b≤r∧∃ o:Obj,X.heap[r]? = some o∧o.isCells=false:=fun r e=>⟨Nat.le_trans hB (hr r e).1,(hr r e).2⟩
 obtain ⟨q,k,y,e,h1⟩:=h.at0
 exact ⟨cells_turn hg hr h.l,⟨q,k,y,e,cells_turn hg hr h1⟩,cells_turn hg hr h.e0,below_turn h.low hbw hg hr'⟩
def SplitQ (s:Str) (w:World) (e:Ending) (w':World):Prop:=Below w.heap.size w w'∧∃ v,e=.returned (.tuple #[v,.int .i64 (splitE s).2.1,.int .i64 (splitE s).2.2])∧RowS w.heap.size w' v (splitE s).1
def spTmps (s:Str) (b q Bx:Nat) (x:Item):Array Value:=#[.string ⟨s.toArray⟩,undef,.pointer (some ⟨b,0,none⟩),.pointer (some ⟨b+1,0,none⟩),.pointer (some ⟨b+1+1,0,none⟩),.pointer (some ⟨b+1+1+1,0,none⟩),
 .int .i64 ((s.length:Int)-(x.1:Int)),.pointer (some ⟨Bx,0,none⟩),.string ⟨s.toArray⟩,.func (.func 125) #[] #[.pointer (some ⟨b+1+1+1+1,0,none⟩),.pointer (some ⟨q,0,none⟩)],
 .int .i64 ((s.length:Int)-(x.1:Int)),.agg #[.string ⟨x.2.1.toArray⟩,.bool x.2.2],undef,undef,undef,undef,undef,undef,undef,undef,undef,undef,undef,undef,undef,undef,undef,undef]
set_option maxRecDepth 100000 in
theorem split_end {s:Str} {b D M:Nat} {w W:World} {v u26 u27:Value} {l:List Str} {z1 z2:Int} {q:Nat} (hb:b=w.heap.size) (hM:b≤M) (hMD:M≤D) (h0:W.heap[b]? = some (.cells #[v] 26 (0,0))) (h1:W.heap[b+1]? = some (.cells #[.int .i64 z1] 3 (0,0)))
    (h2:W.heap[b+1+1]? = some (.cells #[.int .i64 z2] 22 (0,0))) (hK:W.heap[D]? = some (.deferred (some []))) (hrow:RowS M W v l) (hlow:Below b w W) (hsp:splitE s=(l,z1,z2)) :
    bodyPostM Fence.wide 5 Tryz.prog Tryz.f34 (SplitQ s w) Exit.ret
      { tmps := #[.string ⟨s.toArray⟩, undef, .pointer (some ⟨b, 0, none⟩), .pointer (some ⟨b + 1, 0, none⟩), .pointer (some ⟨b + 1 + 1, 0, none⟩), .pointer (some ⟨b + 1 + 1 + 1, 0, none⟩), undef, undef, .string ⟨s.toArray⟩,
          .func (.func 125) #[] #[.pointer (some ⟨b+1+1+1+1,0,none⟩),.pointer (some ⟨q,0,none⟩)],undef,undef,undef,undef,undef,undef,undef,undef,undef,undef,undef,undef,undef,undef,undef,undef,u26,u27],
        defers:=[{ target:=.collected D,args:=#[] }] } W:=by
  have hne:∀ k,(∃ (cs:Array Value) (t:TypeId),W.heap[k]? = some (Obj.cells cs t (0,0)))→(W.putObj D (.deferred none)).heap[k]? = W.heap[k]?:=fun k hk=>World.putObj_heap_other (by
    rintro rfl
    obtain ⟨cs,t,hk⟩:=hk
    rw [hK] at hk
    cases hk)
  have g0:=(hne b ⟨_,_,h0⟩).trans h0
  have g1:=(hne (b+1) ⟨_,_,h1⟩).trans h1
  have g2:=(hne (b+1+1) ⟨_,_,h2⟩).trans h2
  have c0:(W.putObj D (.deferred none)).cell? ⟨b,0,none⟩=some v:=by rw [Lib.cell_of_heap g0];rfl
  have c1:(W.putObj D (.deferred none)).cell? ⟨b+1,0,none⟩=some (.int .i64 z1):=by rw [Lib.cell_of_heap g1];rfl
  have c2:(W.putObj D (.deferred none)).cell? ⟨b+1+1,0,none⟩=some (.int .i64 z2):=by rw [Lib.cell_of_heap g2];rfl
  refine ⟨by simp,.inl ⟨_,_,rfl,run_takeDeferred hK,?_⟩⟩
  refine ⟨.tuple #[v,.int .i64 z1,.int .i64 z2],?_,?_,v,by rw [hsp],by rw [hsp];exact RowS.mono (B:=M) (show RowS M _ v l from ownsRow_heap2 hrow fun g cur hg hc=>(hne g ⟨_,_,hc⟩).trans hc) (by omega)⟩
  · simp [results,Tryz.results34,asAddr,go_sem,c0,c1,c2]
  · rw [← hb]
    exact hlow.trans ⟨rfl,rfl,rfl,by rw [World.putObj_size];exact Nat.le_refl _,fun k hk=>World.putObj_heap_other (by omega)⟩
set_option maxRecDepth 100000 in
set_option maxHeartbeats 1000000 in
theorem split_fn (s:Str) (hs:s.length≤1000000) (w:World):Calls Tryz.prog 34 #[.string ⟨s.toArray⟩] w (SplitQ s w):=by
  refine (callsIn_wide (n:=5)).1 ?_
  refine callsIn_of_wp_marks Tryz.func34 rfl trivial ?_ rfl
  simp only [Tryz.ntmps34,List.size_toArray,List.length_cons,List.length_nil,Nat.reduceAdd,Nat.reduceSub,Array.replicate_succ,Array.replicate_zero,List.push_toArray,List.append_toArray,List.nil_append,List.cons_append]
  obtain ⟨W0,hW0⟩:∃ W0,W0=(((w.alloc (.cells #[.slice none 0 0] 26)).alloc (.cells #[.int .i64 0] 3)).alloc (.cells #[.int .i64 0] 22)).alloc (.cells #[.bool false] 4):=⟨_,rfl⟩
  have hs0:W0.heap.size=w.heap.size+1+1+1+1:=by rw [hW0];simp
  have h0:W0.heap[w.heap.size]? = some (.cells #[.slice none 0 0] 26 (0,0)):=by rw [hW0,Below.heap_alloc _ _ _ (by simp<;>omega),Below.heap_alloc _ _ _ (by simp<;>omega),Below.heap_alloc _ _ _ (by simp)];exact heap_alloc_new _ _
  have h1:W0.heap[w.heap.size+1]? = some (.cells #[.int .i64 0] 3 (0,0)):=by
    rw [hW0,Below.heap_alloc _ _ _ (by simp<;>omega),Below.heap_alloc _ _ _ (by simp)]
    simpa using heap_alloc_new (w.alloc (.cells #[.slice none 0 0] 26)) (.cells #[.int .i64 0] 3)
  have h2:W0.heap[w.heap.size+1+1]? = some (.cells #[.int .i64 0] 22 (0,0)):=by
    rw [hW0,Below.heap_alloc _ _ _ (by simp)]
    simpa using heap_alloc_new ((w.alloc (.cells #[.slice none 0 0] 26)).alloc (.cells #[.int .i64 0] 3)) (.cells #[.int .i64 0] 22)
  have h3:W0.heap[w.heap.size+1+1+1]? = some (.cells #[.bool false] 4 (0,0)):=by
    rw [hW0]
    simpa using heap_alloc_new (((w.alloc (.cells #[.slice none 0 0] 26)).alloc (.cells #[.int .i64 0] 3)).alloc (.cells #[.int .i64 0] 22)) (.cells #[.bool false] 4)
  have hb0:Below w.heap.size w W0:=by rw [hW0];exact ((((Below.refl _ _).alloc (Nat.le_refl _) _).alloc (by simp) _).alloc (by simp;omega) _).alloc (by simp;omega) _
  have HE:=hid (elements_fn s W0)
  have HW0:=hid hW0
  have H0:=hid h0
  have H1:=hid h1
  have H2:=hid h2
  have H3:=hid h3
  have HB0:=hid hb0
  have HS0:=hid hs0
  clear hW0 h0 h1 h2 h3 hb0 hs0
  gi_wp2_with (refine ⟨trivial,?_⟩;gi_at_call 73;rw [← HW0.out];refine (callsIn_wide.2 HE.out).mono ?_;rintro e w1 ⟨q,rfl,hbe,hep,heq,hql⟩)
  rw [HS0.out] at hep hql
  rw [HS0.out]
  have hsz1:=hbe.size
  rw [HS0.out] at hsz1
  have kp:∀ k,k<w.heap.size+1+1+1+1→w1.heap[k]? = W0.heap[k]?:=fun k hk=>hbe.block k (by rw [HS0.out];exact hk)
  have hbw:Below w.heap.size w w1:=HB0.out.trans (hbe.mono (by rw [HS0.out];omega))
  have hI0:∃ v,SpAt w.heap.size w1.heap.size w v [] w1:=⟨_,Nat.le_refl _,(kp _ (by omega)).trans H0.out,RowS.nil _ _,(kp _ (by omega)).trans H1.out,(kp _ (by omega)).trans H2.out,(kp _ (by omega)).trans H3.out,hbw,fun x hx=>absurd hx (by simp)⟩
  obtain ⟨b,hb⟩:∃ b,b=w.heap.size:=⟨_,rfl⟩
  have HBE:=hid hb
  rw [← hb] at hep hql hsz1 hI0 ⊢
  have hbw1:b≤w.heap.size:=by omega
  have hepl:=(Array.getElem?_eq_some_iff.1 hep).1
  have hequ:=(Array.getElem?_eq_some_iff.1 heq).1
  clear hbe kp HE H0 H1 H2 H3 HB0 HW0 HS0 hb
  refine wpIn_rangeFunc_ownH rfl (by omega) (gf:=125) (lb:=#[.pointer (some ⟨b+1+1+1+1,0,none⟩),.pointer (some ⟨q,0,none⟩)]) rfl trivial (enters_of Tryz.func125 (by kernel_rfl) rfl)
    (elements_stops (B:=b) hs _ hep heq (by omega)) KpL.trans (fun W l o o' hl h h1 h2=>⟨belowK_b (w:=w1) (by omega) W l o o' hl h h1 h2,World.putObj_heap_other (by have:=(Array.getElem?_eq_some_iff.1 hep).1;omega),World.putObj_heap_other (by have:=(Array.getElem?_eq_some_iff.1 heq).1;omega)⟩) (Below.refl _ _) (fun _=>rfl)
    (fun pre W=>∃ v,SpAt b w1.heap.size w v pre W) (fun c pre W=>c=.ret∧SpEnd b s.length w pre W)
    (SpAt.own (by omega) hbw1) (fun c s' X Y row h hg hr=>⟨h.1,SpEnd.own (B:=w1.heap.size) (by omega) hbw1 s' X Y row h.2 hg hr⟩) hI0
    (fun x a' W=>∃ Bx,b+1+1+1<Bx∧W.heap[Bx]? = some (.cells #[.string ⟨x.2.1.toArray⟩,.bool x.2.2] 111 (0,0))∧a' = { tmps:=spTmps s b q Bx x,defers:=[] })
    (fun x a' s' X Y row h hg hr=>by obtain ⟨Bx,h1,h2,h3⟩:=h;exact ⟨Bx,h1,cells_turn hg hr h2,h3⟩) ?assign ?body ?done ?stop
  case assign=>
    rintro l pre x W K ⟨v,hi⟩ hK
    unfold encI
    gi_wp2
    exact hK _ _ ((KeepsOthers.alloc _ _).from _) (KpL.of (belowA _ _) (by have:=hi.big;omega) (by have:=hi.big;omega) (by have:=hi.big;omega)) ((SpAt.own (B:=b) (Nat.le_refl _) hbw1).alloc _ ⟨v,hi⟩) ⟨W.heap.size,by have:=hi.big;omega,heap_alloc_new _ _,rfl⟩
  case body=>
    rintro l pre ⟨k,y,ok⟩ a' W hl hr ⟨v,hi⟩ ⟨Bx,hBx,hX,rfl⟩ hlt
    dsimp only at hX
    have x0:W.cell? ⟨Bx,0,none⟩=some (.string ⟨y.toArray⟩):=by rw [Lib.cell_of_heap hX];rfl
    have x1:W.cell? ⟨Bx,1,none⟩=some (.bool ok):=by rw [Lib.cell_of_heap hX];rfl
    have l0:W.cell? ⟨b,0,none⟩=some v:=by rw [Lib.cell_of_heap hi.l];rfl
    have l1:W.frozen? ⟨b,0,none⟩=false:=Lib.frozen_of_heap hi.l 0
    have HI:=hid hi
    unfold spTmps
    dsimp only
    cases ok with
    | false=>
      have a0:W.cell? ⟨b+1,0,none⟩=some (.int .i64 0):=by rw [Lib.cell_of_heap hi.at0];rfl
      have a1:W.frozen? ⟨b+1,0,none⟩=false:=Lib.frozen_of_heap hi.at0 0
      have e0:W.cell? ⟨b+1+1,0,none⟩=some (.int .i64 0):=by rw [Lib.cell_of_heap hi.e0];rfl
      have e1:W.frozen? ⟨b+1+1,0,none⟩=false:=Lib.frozen_of_heap hi.e0 0
      clear hi
      gi_wp2
      refine ⟨(((KeepsOthers.setCell _ _ _).trans (KeepsOthers.setCell _ _ _)).trans (KeepsOthers.setCell _ _ _)).from _,rfl,?_,⟨pre,k,y,rfl,?_⟩,?_,?_⟩
      · have d1:¬ b+1+1=b:=by omega
        simp [World.setCell,Array.getElem?_modify,HI.out.l,d1]
      · simp [World.setCell,Array.getElem?_modify,HI.out.at0]
      · have d1:¬ b=b+1+1:=by omega
        simp [World.setCell,Array.getElem?_modify,HI.out.e0,d1]
      · exact ((HI.out.low.setCell (Nat.le_refl _) _).setCell (by show b≤b+1;omega) _).setCell (by show b≤b+1+1;omega) _
    | true=>
      have m0:W.cell? ⟨b+1+1+1,0,none⟩=some (.bool (decide (10000<pre.length))):=by rw [Lib.cell_of_heap hi.many];rfl
      have m1:W.frozen? ⟨b+1+1+1,0,none⟩=false:=Lib.frozen_of_heap hi.many 0
      obtain ⟨av,cv,ev⟩:=hi.row.shape
      obtain ⟨n,hn⟩:∃ n,n=((pre.map (fun x=>x.2.1)).take 10000).length:=⟨_,rfl⟩
      have hn2:n=min 10000 pre.length:=by rw [hn,List.length_take,List.length_map]
      rw [← hn] at ev
      subst ev
      have HN:=hid hn
      have HN2:=hid hn2
      have hil:=items_len s.length s (Nat.le_refl _)
      clear hn hi hn2
      by_cases hp:pre.length<10000
      · have hnb:n<10000:=by have:=HN2.out;omega
        have hne:((n:Int) == 10000)=false:=by rw [beq_eq_false_iff_ne];omega
        have hbW:b≤W.heap.size:=by have:=HI.out.big;omega
        have hnl:((pre.map (fun x=>x.2.1)).take 10000).length≤10000000:=by rw [List.length_take,List.length_map];omega
        have HX:=hid hX
        gi_wp2_with (gi_at_builtin;refine app_oneIn rfl rfl (.tmp 12) (.tmp 15) rfl w1.heap.size _ _ y rfl HI.out.row rfl HI.out.big hnl ?_;intro v9 w9 hr9 hg9 hv9;obtain ⟨a9,c9,e9⟩:=RowS.shape hr9;obtain ⟨n9,hn9⟩:∃ n9,n9=(List.take 10000 (List.map (fun x:Item=>x.2.1) pre)++[y]).length:=⟨_,rfl⟩;rw [← hn9] at e9;subst e9;have hob:=HI.out.row.lt;have hob9:w9.heap[b]? = some (.cells #[.slice av n cv] 26 (0,0)):=(hg9.block b (by have:=HI.out.big;omega) (fun e=>by have:=(hob b e.symm).2;omega)).trans HI.out.l;have co9:w9.cell? ⟨b,0,none⟩=some (.slice av n cv):=(by rw [Lib.cell_of_heap hob9];rfl);have fo9:w9.frozen? ⟨b,0,none⟩=false:=Lib.frozen_of_heap hob9 0;have HR9:=hid hr9;have HG9:=hid hg9;have HV9:=hid hv9;have HOB:=hid hob;have HOB9:=hid hob9;clear hr9 hg9 hv9 hob hob9 hn9)
        have same:∀ g,g<w1.heap.size→w9.heap[g]? = W.heap[g]?:=fun g hg=>HG9.out.block g (by have:=HI.out.big;omega) (fun e=>by have:=(HOB.out g e.symm).2;omega)
        have hset:∀ g,g≠b→(w9.setCell ⟨b,0,none⟩ (.slice a9 n9 c9)).heap[g]? = w9.heap[g]?:=fun g hg=>Below.heap_setCell _ _ _ _ fun e=>hg e
        have hbl:Below b W w9:=⟨HG9.out.os,HG9.out.tape,HG9.out.output,HG9.out.size,fun g hg=>same g (by omega)⟩
        have hk9:KeepsOthers W w9:=KeepsOthers.of_grownBy HG9.out fun j o e ho=>by
          obtain ⟨_,cur,hc⟩:=ownsRow_lt HI.out.row j e
          rw [hc] at ho
          cases ho
          rfl
        have hmp:((pre++[(k,y,true)]:List Item).map (fun x=>x.2.1)).take 10000=(pre.map (fun x=>x.2.1)).take 10000++[y]:=by
          rw [List.map_append,List.take_of_length_le (by rw [List.length_append,List.length_map];simp;omega),List.take_of_length_le (by rw [List.length_map];omega)]
          rfl
        refine ⟨(hk9.trans (KeepsOthers.setCell _ _ _)).from _,⟨hbl.setCell (Nat.le_refl _) _,?_,?_⟩,.slice a9 n9 c9,?_,?_,?_,?_,?_,?_,?_,?_⟩
        · exact (hset _ (by omega)).trans (same _ (by omega))
        · exact (hset _ (by omega)).trans (same _ (by omega))
        · have:=HI.out.big
          have:=HG9.out.size
          simp [World.setCell]
          omega
        · simp [World.setCell,Array.getElem?_modify,HOB9.out]
        · rw [hmp]
          exact ownsRow_heap HR9.out fun g hg=>hset g (by have:=(HR9.out.lt g hg).2;omega)
        · exact ((hset _ (by omega)).trans (same _ (by omega))).trans HI.out.at0
        · exact ((hset _ (by omega)).trans (same _ (by omega))).trans HI.out.e0
        · have hd : decide (10000 < (pre ++ [(k, y, true)] : List Item).length) = decide (10000 < pre.length) := by
            rw [decide_eq_false (show ¬ 10000<(pre++[(k,y,true)]:List Item).length by rw [List.length_append];simp;omega),decide_eq_false (show ¬ 10000<pre.length by omega)]
          rw [hd]
          exact ((hset _ (by omega)).trans (same _ (by omega))).trans HI.out.many
        · exact (HI.out.low.trans hbl).setCell (Nat.le_refl _) _
        · intro z hz
          rcases List.mem_append.1 hz with hz | hz
          · exact HI.out.oks z hz
          · rw [List.mem_singleton.1 hz]
      · have hne:((n:Int) == 10000)=true:=by rw [beq_iff_eq];have:=HN2.out;omega
        gi_wp2
        have hmp:((pre++[(k,y,true)]:List Item).map (fun x=>x.2.1)).take 10000=(pre.map (fun x=>x.2.1)).take 10000:=by rw [List.map_append,List.take_append_of_le_length (by rw [List.length_map];omega)]
        refine ⟨(KeepsOthers.setCell _ _ _).from _,⟨(Below.refl _ _).setCell (by show b≤b+1+1+1;omega) _,?_,?_⟩,.slice av n cv,?_,?_,?_,?_,?_,?_,?_,?_⟩
        · exact Below.heap_setCell _ _ _ _ (by show b+1+1+1+1≠b+1+1+1;omega)
        · exact Below.heap_setCell _ _ _ _ (by show q≠b+1+1+1;omega)
        · have:=HI.out.big
          simp [World.setCell]
          exact this
        · exact (Below.heap_setCell _ _ _ _ (by show b≠b+1+1+1;omega)).trans HI.out.l
        · rw [hmp]
          refine ownsRow_heap2 HI.out.row fun g cur hg hc=>?_
          have hgn:g≠b+1+1+1:=by
            rintro rfl
            have:=HI.out.many
            rw [hc] at this
            simp only [Option.some.injEq,Obj.cells.injEq] at this
            exact absurd this.2.1 (by decide)
          exact (Below.heap_setCell _ _ _ _ (fun e=>hgn e)).trans hc
        · exact (Below.heap_setCell _ _ _ _ (by show b+1≠b+1+1+1;omega)).trans HI.out.at0
        · exact (Below.heap_setCell _ _ _ _ (by show b+1+1≠b+1+1+1;omega)).trans HI.out.e0
        · have hd:decide (10000<(pre++[(k,y,true)]:List Item).length)=true:=decide_eq_true (by rw [List.length_append];simp;omega)
          rw [hd]
          simp [World.setCell,Array.getElem?_modify,HI.out.many]
        · exact HI.out.low.setCell (by show b≤b+1+1+1;omega) _
        · intro z hz
          rcases List.mem_append.1 hz with hz | hz
          · exact HI.out.oks z hz
          · rw [List.mem_singleton.1 hz]
  case done=>
    rintro D xs W hD rfl ⟨v,hi⟩ hK
    have m0:W.cell? ⟨b+1+1+1,0,none⟩=some (.bool (decide (10000<(itemsE s).length))):=by rw [Lib.cell_of_heap hi.many];rfl
    have l0:W.cell? ⟨b,0,none⟩=some v:=by rw [Lib.cell_of_heap hi.l];rfl
    have l1:W.frozen? ⟨b,0,none⟩=false:=Lib.frozen_of_heap hi.l 0
    have a0:W.cell? ⟨b+1,0,none⟩=some (.int .i64 0):=by rw [Lib.cell_of_heap hi.at0];rfl
    have a1:W.frozen? ⟨b+1,0,none⟩=false:=Lib.frozen_of_heap hi.at0 0
    have e0:W.cell? ⟨b+1+1,0,none⟩=some (.int .i64 0):=by rw [Lib.cell_of_heap hi.e0];rfl
    have e1:W.frozen? ⟨b+1+1,0,none⟩=false:=Lib.frozen_of_heap hi.e0 0
    obtain ⟨av,cv,ev⟩:=hi.row.shape
    obtain ⟨n,hn⟩:∃ n,n=(((itemsE s).map (fun x=>x.2.1)).take 10000).length:=⟨_,rfl⟩
    rw [← hn] at ev
    subst ev
    have HN:=hid hn
    have HI:=hid hi
    clear hn hi
    by_cases hm:10000<(itemsE s).length
    · rw [decide_eq_true hm] at m0
      gi_wp2
      have hxs:=items_list s.length s (Nat.le_refl _)
      have hsp:splitE s=([],0,4):=by
        rcases hxs with ⟨xs,e1,e2,_⟩ | ⟨k,q',y,_,e2,_⟩
        · unfold splitE
          rw [e1]
          dsimp only
          rw [if_neg (by rw [← e2,List.length_map];omega)]
        · exact absurd (HI.out.oks (k,y,false) (by rw [e2];simp)) (by simp)
      refine split_end HBE.out (M:=w1.heap.size) (by omega) hD ?_ ?_ ?_ ?_ (RowS.nil _ _) ?_ hsp
      · have d1:¬ b+1+1=b:=by omega
        simp [World.setCell,Array.getElem?_modify,HI.out.l,d1]
      · simp [World.setCell,Array.getElem?_modify,HI.out.at0]
      · have d1:¬ b=b+1+1:=by omega
        simp [World.setCell,Array.getElem?_modify,HI.out.e0,d1]
      · exact (((KeepsOthers.setCell _ _ _).trans (KeepsOthers.setCell _ _ _)).trans (KeepsOthers.setCell _ _ _)).same D _ hK rfl
      · exact ((HI.out.low.setCell (Nat.le_refl _) _).setCell (by show b≤b+1;omega) _).setCell (by show b≤b+1+1;omega) _
    · rw [decide_eq_false hm] at m0
      gi_wp2
      have hxs:=items_list s.length s (Nat.le_refl _)
      have hsp:splitE s=((itemsE s).map (fun x=>x.2.1),0,0):=by
        rcases hxs with ⟨xs,e1,e2,_⟩ | ⟨k,q',y,_,e2,_⟩
        · unfold splitE
          rw [e1]
          dsimp only
          rw [if_pos (by rw [← e2,List.length_map];omega),e2]
        · exact absurd (HI.out.oks (k,y,false) (by rw [e2];simp)) (by simp)
      have htk:((itemsE s).map (fun x=>x.2.1)).take 10000=(itemsE s).map (fun x=>x.2.1):=List.take_of_length_le (by rw [List.length_map];omega)
      have hrw:RowS w1.heap.size W (.slice av n cv) ((itemsE s).map (fun x=>x.2.1)):=by
        have h9:=HI.out.row
        rw [htk] at h9
        exact h9
      have hset:∀ g,g≠b→g≠b+1→g≠b+1+1→(((W.setCell ⟨b,0,none⟩ (.slice av n cv)).setCell ⟨b+1,0,none⟩ (.int .i64 0)).setCell ⟨b+1+1,0,none⟩ (.int .i64 0)).heap[g]? = W.heap[g]?:=fun g x1 x2 x3=>
        (Below.heap_setCell _ _ _ _ fun e=>x3 e).trans ((Below.heap_setCell _ _ _ _ fun e=>x2 e).trans (Below.heap_setCell _ _ _ _ fun e=>x1 e))
      refine split_end HBE.out (M:=w1.heap.size) (by omega) hD ?_ ?_ ?_ ?_ (l:=(itemsE s).map (fun x:Item=>x.2.1)) (v:=.slice av n cv) (ownsRow_heap (w:=W) hrw fun g hg=>by have:=(hrw.lt g hg).2;exact hset g (by omega) (by omega) (by omega)) ?_ hsp
      · have d1:¬ b+1+1=b:=by omega
        simp [World.setCell,Array.getElem?_modify,HI.out.l,d1]
      · simp [World.setCell,Array.getElem?_modify,HI.out.at0]
      · have d1:¬ b=b+1+1:=by omega
        simp [World.setCell,Array.getElem?_modify,HI.out.e0,d1]
      · exact (((KeepsOthers.setCell _ _ _).trans (KeepsOthers.setCell _ _ _)).trans (KeepsOthers.setCell _ _ _)).same D _ hK rfl
      · exact ((HI.out.low.setCell (Nat.le_refl _) _).setCell (by show b≤b+1;omega) _).setCell (by show b≤b+1+1;omega) _
  case stop=>
    rintro D c pre W hD hpre ⟨rfl,he⟩ hK
    gi_wp2
    obtain ⟨q',k,y,rfl,h1⟩:=he.at0
    have hsp:splitE s=([],(s.length:Int)-(k:Int),2):=by
      unfold splitE
      rw [items_wrong hpre]
    exact split_end HBE.out (M:=w1.heap.size) (by omega) hD he.l h1 he.e0 hK (RowS.nil _ _) he.low hsp
end Go.Proofs.YtbilphfbfnohmaaGreatDoor.Pz
namespace Go.Proofs.YtbilphfbfnohmaaGreatDoor.Pz
theorem bareE_slash:∀ (s:Str) (b:Bool) (r:Str),spaced r=true→bareE (slash b s++r)=(s,r)
 | [],b,[],_=>by rw [slash,List.nil_append,bareE]
 | [],b,c::r,h=>by
  have h:white c=true:=h
  rw [slash,List.nil_append,bareE,if_pos h]
 | c::t,b,r,h=>by
  rw [slash]
  split
  ·rename_i hc
   have hs:Slashy c:=slashy (by
    rw [Bool.or_eq_true,Bool.and_eq_true,beq_iff_eq] at hc
    exact hc.imp id And.right)
   rw [List.cons_append,List.cons_append,bareE,if_neg (by decide),if_pos (by decide),unesc_slash hs,bareE_slash t false r h]
   rfl
  ·rename_i hc
   have hc':special c=false:=by
    cases he:special c with
    | false=>rfl
    | true=>exact absurd (by rw [he];rfl) hc
   have hp:=plain_facts hc'
   rw [List.cons_append,bareE,if_neg (by rw [hp.1];decide),if_neg (by simpa using hp.2.1),bareE_slash t false r h]
   rfl
theorem elemE_quote (s r:Str) (hr:spaced r=true):(∃ e u,quote s=e::u∧white e=false)∧elemE (quote s++r)=some (s,r):=by
 unfold quote
 split
 ·rename_i h
  obtain rfl:s=[]:=List.isEmpty_iff.1 h
  refine ⟨⟨123,[125],rfl,by decide⟩,?_⟩
  show elemE (123::125::r)=_
  rw [elemE,if_pos (by decide)]
  exact brace_bal r 0 [] (Nat.le_refl _) 0 rfl
 ·rename_i h
  obtain ⟨c,t,rfl⟩:∃ c t,s=c::t:=by
   cases s with
   | nil=>exact absurd rfl h
   | cons c t=>exact ⟨c,t,rfl⟩
  split
  ·rename_i hp
   have hq:=quote_plain hp
   rw [plainW,Bool.and_eq_true,List.all_cons,Bool.and_eq_true] at hp
   have hc:special c=false:=by simpa using hp.2.1
   have hf:=plain_facts hc
   refine ⟨⟨c,t,rfl,hf.1⟩,?_⟩
   have hb:=bareE_slash (c::t) true r hr
   rw [hq] at hb
   rw [List.cons_append,elemE,if_neg (by simpa using hf.2.2.2.2.1),if_neg (by simpa using hf.2.2.2.2.2.1),← List.cons_append,hb]
  ·rename_i hp
   split
   ·rename_i hb
    refine ⟨⟨123,(c::t)++[125],rfl,by decide⟩,?_⟩
    rw [balanced,Bool.and_eq_true] at hb
    have h9:=brace_bal r _ (c::t) (Nat.le_refl _) 0 hb.1
    rw [List.cons_append,List.append_assoc,elemE,if_pos (by decide)]
    exact h9
   ·have hb:=bareE_slash (c::t) true r hr
    have hh:∃ e u,slash true (c::t)=e::u∧white e=false∧e≠123∧e≠34:=by
     rw [slash]
     split
     ·exact ⟨92,_,rfl,by decide,by decide,by decide⟩
     ·rename_i hc
      have hc':special c=false:=by
       cases he:special c with
       | false=>rfl
       | true=>exact absurd (by rw [he];rfl) hc
      have hf:=plain_facts hc'
      exact ⟨c,_,rfl,hf.1,hf.2.2.2.2.1,hf.2.2.2.2.2.1⟩
    obtain ⟨e,u,he,h1,h2,h3⟩:=hh
    refine ⟨⟨e,u,he,h1⟩,?_⟩
    rw [he] at hb ⊢
    rw [List.cons_append,elemE,if_neg (by simpa using h2),if_neg (by simpa using h3),← List.cons_append,hb]
theorem listE_quoted:∀ (l:List Str),listE (quotedL l)=.inr l
 | []=>by rw [quotedL,listE]
 | [s]=>by
  obtain ⟨⟨e,u,he,hw⟩,h⟩:=elemE_quote s [] rfl
  rw [List.append_nil] at h
  show listE (quote s)=_
  rw [he] at h ⊢
  rw [listE_cons hw,h]
  dsimp only
  rw [if_pos (show spaced []=true from rfl),listE]
 | s::s'::l=>by
  obtain ⟨⟨e,u,he,hw⟩,h⟩:=elemE_quote s (32::quotedL (s'::l)) rfl
  rw [quotedL_two]
  rw [he] at h ⊢
  rw [List.cons_append] at h ⊢
  rw [listE_cons hw,h]
  dsimp only
  rw [if_pos (show spaced (32::quotedL (s'::l))=true from rfl),listE_white (by decide),listE_quoted (s'::l)]
theorem splitE_quoted (l:List Str) (h:l.length≤10000):splitE (quotedL l)=(l,0,0):=by
 unfold splitE
 rw [listE_quoted]
 dsimp only
 rw [if_pos h]
end Go.Proofs.YtbilphfbfnohmaaGreatDoor.Pz
namespace Go.Proofs.YtbilphfbfnohmaaGreatDoor.Pz
open Go.RowKit
theorem quoted_out (s:Str):outF [.cnv [] [] 113] [s] 1=quote s:=by
 show []++(writeE [] (-1) (-1) 113 s).1=quote s
 show (spreadE [] (-1) (quote s) 0 false)=quote s
 unfold spreadE
 rw [if_pos (by omega)]
theorem splitE_quote (s:Str):splitE (quote s)=([s],0,0):=splitE_quoted [s] (by simp)
set_option maxRecDepth 1000000 in
theorem spellQuoted_fn (s:Str) (w:World) (hml:ML w) (hs:s.length≤9223372036854775807) :
  Calls Tryz.prog 9 #[.string ⟨s.toArray⟩] w fun e w'=>e=.returned (.bool true)∧Below w.heap.size w w':=by
 have hsz:(⟨s.toArray⟩:ByteArray).size=s.length:=Lib.size_mk _
 by_cases hlong:2000<s.length
 ·have hd:decide ((2000:Int)<(s.length:Int))=true:=decide_eq_true (by omega)
  have hd2:(2000:Int)<(s.length:Int):=by omega
  have HA:=hid (awake_fn w)
  clear hml
  go_enter Tryz.func9,Tryz.ntmps9
  go_wp2_with ((with_reducible refine HA.out.mono ?_);rintro e w1 ⟨rfl,hb1⟩)
  go_ret
  exact ⟨rfl,hb1⟩
 ·have hd:decide ((2000:Int)<(s.length:Int))=false:=decide_eq_false (by omega)
  have hd2:¬ (2000:Int)<(s.length:Int):=by omega
  have hw0:=(strs_new w [s])
  have hf:=format_fn (ps:=[.cnv [] [] 113]) (l:=[s]) (by decide) _ (by decide) (by simp) (by simp;omega) hw0 (by simp [cntC]) (by
   intro k hk
   have hk0:k=0:=by simpa using hk
   subst hk0
   rfl) (by rw [show [Pc.cnv [] [] 113].length=1 from rfl,quoted_out];have:=quote_len s;omega) (fun _=>hml.below (belowS _ _))
  rw [show [Pc.cnv [] [] 113].length=1 from rfl,quoted_out] at hf
  have hf2:Calls Tryz.prog 14 #[.string ⟨#[37,113]⟩,.slice (some ⟨w.heap.size,0,none⟩) 1 1] (w.alloc (.cells #[.string ⟨s.toArray⟩] 9)) fun e w'=>e=.returned (.tuple #[.string ⟨(quote s).toArray⟩,.int .i64 0,.int .i64 0])∧Below (w.heap.size+1) (w.alloc (.cells #[.string ⟨s.toArray⟩] 9)) w':=by
   unfold FmtQ at hf
   simp only [World.size_alloc] at hf
   exact hf
  have HF:=hid hf2
  have HSP:=hid (fun u=>by have h:=split_fn (quote s) (by have:=quote_len s;omega) u;unfold SplitQ at h;rw [splitE_quote] at h;exact h)
  clear hml hw0 hf hf2
  obtain ⟨qs,hqs⟩:∃ qs,qs=quote s:=⟨_,rfl⟩
  rw [← hqs] at HF HSP
  clear hqs
  have HS:=hid hlong
  clear hlong
  go_enter Tryz.func9,Tryz.ntmps9
  go_wp2_with fail
  (with_reducible refine HF.out.mono ?_);rintro e w1 ⟨rfl,hb1⟩
  have HB1:=hid (show Below w.heap.size w w1 from (belowS _ _).trans (hb1.mono (by simp)))
  clear hb1 HF
  go_wp2_with fail
  (with_reducible refine (HSP.out _).mono ?_);rintro e w2 ⟨hb2,v,rfl,hr2⟩
  have hs1:=HB1.out.size
  have HB2:=hid (HB1.out.trans (hb2.mono hs1))
  have hs2:=HB2.out.size
  have HR2:=hid hr2
  obtain ⟨a2,c2,he⟩:=hr2.shape
  subst he
  clear hb2 hr2 HSP
  have HSM:=hid (sameG_fn (w:=w2.alloc (.cells #[.string ⟨s.toArray⟩] 9)) (HR2.out.strs.below (belowS _ _)) (strs_new w2 [s]) (by simp) (by simp))
  have HSM2:=hid (show Calls Tryz.prog 16 #[.slice a2 1 c2,.slice (some ⟨w2.heap.size,0,none⟩) 1 1] (w2.alloc (.cells #[.string ⟨s.toArray⟩] 9)) fun e w'=>e=.returned (.bool true)∧Below (w2.heap.size+1) (w2.alloc (.cells #[.string ⟨s.toArray⟩] 9)) w' from by
   have h:=HSM.out
   simp only [World.size_alloc,decide_true] at h
   exact h)
  clear HSM
  have HA:=hid (fun u=>awake_fn u)
  go_wp2_with (first|(go_at_call 16;refine HSM2.out.mono ?_;rintro e w3 ⟨rfl,hb3⟩;have HB3:=hid (HB2.out.trans ((belowS w2 (.cells #[.string ⟨s.toArray⟩] 9)).mono hs2 |>.trans (hb3.mono (by omega))));clear hb3)|(go_at_call 12;refine (HA.out _).mono ?_;rintro e w4 ⟨rfl,hb4⟩;have HB4:=hid (HB3.out.trans (hb4.mono HB3.out.size));clear hb4))
  go_ret
  exact ⟨rfl,HB4.out⟩
end Go.Proofs.YtbilphfbfnohmaaGreatDoor.Pz
