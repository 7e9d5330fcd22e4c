/-
  Part K0 of the proofs of this seat, merged by a program out of 1 texts; remarks are struck.
-/
import Derived.WalkKit
namespace Go.Proofs.YtbilphfbfnohmaaGreatDoor.Pz
inductive Tok where
 | mk (kind:Nat) (text:List UInt8) (has:Bool) (index:List Tok)
abbrev Str:=List UInt8
structure Wd where
 spread:Bool
 toks:List Tok
structure Cmd where
 back:Nat
 words:List Wd
inductive Halt where
 | lacks (back:Nat)
 | wrong (back:Nat)
 | deep
inductive Res (α:Type) where
 | ok (a:α) (rest:Str)
 | halt (h:Halt)
def white (c:UInt8):Bool:=(9≤c && c≤13) || c == 32
def hexv (c:UInt8):Option Nat:=
 if 48≤c && c≤57 then some (c.toNat-48) else if 97≤c && c≤102 then some (c.toNat-87) else if 65≤c && c≤70 then some (c.toNat-55) else none
def digv (base:Nat) (c:UInt8):Option Nat:=
 match hexv c with
 | some v=>if v<base then some v else none
 | none=>none
def digs (base:Nat):Nat→Nat→Str→Nat×Str
 | 0,v,l=>(v,l)
 | _+1,v,[]=>(v,[])
 | n+1,v,c::t=>match digv base c with
  | some d=>digs base n (v*base+d) t
  | none=>(v,c::t)
def blanks0:Str→Str
 | []=>[]
 | c::t=>if c == 32 || c == 9 then blanks0 t else c::t
def named1 (c:UInt8):Option UInt8:=
 if c == 97 then some 7 else if c == 98 then some 8 else if c == 116 then some 9 else if c == 110 then some 10 else if c == 118 then some 11 else if c == 102 then some 12 else if c == 114 then some 13 else none
def unesc1 (c:UInt8) (t:Str):Str×Str:=
 match named1 c with
 | some x=>([x],t)
 | none=>
  if c == 10 then ([32],blanks0 t)
  else if c == 120 then
   if (digs 16 2 0 t).2.length<t.length then ([UInt8.ofNat (digs 16 2 0 t).1],(digs 16 2 0 t).2) else ([120],t)
  else if (digs 8 3 0 (c::t)).2.length<(c::t).length then ([UInt8.ofNat (digs 8 3 0 (c::t)).1],(digs 8 3 0 (c::t)).2) else ([c],t)
def unesc:Str→Str×Str
 | []=>([92],[])
 | c::t=>unesc1 c t
def joins:Str→Bool
 | 92::10::_=>true
 | _=>false
def blanks:Str→Str
 | []=>[]
 | [c]=>if c != 10 && white c then [] else [c]
 | c::d::t=>if c == 92 && d == 10 then blanks t else if c != 10 && white c then blanks (d::t) else c::d::t
def parted (w:Bool):Str→Bool
 | []=>true
 | c::_=>c == 10 || c == 59 || (w && c == 93)
def ended (w:Bool) (l:Str):Bool:=
 parted w l || (match l with | []=>true | c::_=>white c) || joins l
def comment:Bool→Str→Str
 | _,[]=>[]
 | odd,c::t=>if c == 92 then comment (!odd) t else if c == 10 && !odd then c::t else comment false t
def pre (p:Str):Option (Str×Str)→Option (Str×Str)
 | none=>none
 | some (a,r)=>some (p++a,r)
def brace:Nat→Str→Option (Str×Str)
 | _,[]=>none
 | d,c::t=>
  if c == 92 then
   match t with
   | []=>none
   | e::t'=>pre [c,e] (brace d t')
  else if c == 123 then pre [c] (brace (d+1) t)
  else if c == 125 then
   match d with
   | 0=>some ([],t)
   | d'+1=>pre [c] (brace d' t)
  else pre [c] (brace d t)
def joined:Bool→Str→Str
 | _,[]=>[]
 | skip,c::t=>
  if skip && (c == 32 || c == 9) then joined true t
  else if c == 92 then
   match t with
   | []=>[92]
   | e::t'=>if e == 10 then 32::joined true t' else 92::e::joined false t'
  else c::joined false t
def letter (c:UInt8):Bool:=c == 95 || (48≤c && c≤57) || (97≤c && c≤122) || (65≤c && c≤90)
def name:Bool→Str→Str×Str
 | _,[]=>([],[])
 | run,c::t=>
  if letter c then (c::(name false t).1,(name false t).2)
  else if c == 58 && (run || t.head? == some 58) then (c::(name true t).1,(name true t).2)
  else ([],c::t)
def upTo:Str→Option (Str×Str)
 | []=>none
 | c::t=>if c == 125 then some ([],t) else pre [c] (upTo t)
inductive Upto where
 | bare (within:Bool)
 | quote
 | paren
 | never
def headIs (c:UInt8):Str→Bool
 | []=>true
 | d::_=>d == c
def Upto.ends:Upto→Str→Bool
 | .bare w,l=>ended w l
 | .quote,l=>headIs 34 l
 | .paren,l=>headIs 41 l
 | .never,l=>l.isEmpty
def Tok.txt (s:Str):Tok:=.mk 1 s false []
def glue (p:Str):List Tok→List Tok
 | []=>[Tok.txt p]
 | .mk k s h ix::ts=>if k == 1 then .mk 1 (p++s) h ix::ts else Tok.txt p :: .mk k s h ix::ts
def filled (l:List Tok):List Tok:=if l.isEmpty then [Tok.txt []] else l
structure Told where
 slashes:Bool
 vars:Bool
 scripts:Bool
def Res.glue (p:Str):Res (List Tok)→Res (List Tok)
 | .ok ts r=>.ok (Pz.glue p ts) r
 | .halt h=>.halt h
def Res.cons {α:Type} (x:α):Res (List α)→Res (List α)
 | .ok ts r=>.ok (x::ts) r
 | .halt h=>.halt h
def all3:Told:=⟨true,true,true⟩
def maxDeep:Nat:=100
mutual
def commands (w:Bool) (d:Nat) (l:Str):Res (List Cmd):=
 if _h0:(blanks l).length≤l.length then
  match blanks l with
  | []=>.ok [] []
  | c::t=>
   if w && c == 93 then .ok [] (c::t)
   else if parted w (c::t) then
    if _h:t.length<l.length then commands w d t else .halt .deep
   else if c == 35 then
    if _h:(comment false (c::t)).length<l.length then commands w d (comment false (c::t)) else .halt .deep
   else
    if _h:(c::t).length≤l.length then
     match command w d (c::t) with
     | .halt h=>.halt h
     | .ok ws r=>if _h:r.length<l.length then (commands w d r).cons ⟨(c::t).length,ws⟩ else .halt .deep
    else .halt .deep
 else .halt .deep
termination_by l.length*8+5
decreasing_by all_goals (first | omega|(simp only [List.length_cons] at *;omega))
def command (w:Bool) (d:Nat) (l:Str):Res (List Wd):=
 if parted w l then .ok [] l
 else
  match word w d l with
  | .halt h=>.halt h
  | .ok x r=>if _h:(blanks r).length<l.length then (command w d (blanks r)).cons x else .halt .deep
termination_by l.length*8+4
decreasing_by all_goals (first | omega|(simp only [List.length_cons] at *;omega))
def word (w:Bool) (d:Nat) (l:Str):Res Wd:=
 match l with
 | []=>.halt .deep
 | c::t=>
  if c == 123 then
   match brace 0 t with
   | none=>.halt (.lacks (c::t).length)
   | some (s,r)=>
    if s == [42] && !ended w r then
     if _h:r.length<(c::t).length then
      match word w d r with
      | .ok x r'=>.ok ⟨true,x.toks⟩ r'
      | .halt h=>.halt h
     else .halt .deep
    else if ended w r then .ok ⟨false,[Tok.txt (joined false s)]⟩ r
    else .halt (.wrong r.length)
  else if c == 34 then
   match parts .quote all3 d t with
   | .halt h=>.halt h
   | .ok ts r=>
    match r with
    | []=>.halt (.lacks (c::t).length)
    | _::r'=>if ended w r' then .ok ⟨false,filled ts⟩ r' else .halt (.wrong r'.length)
  else
   match parts (.bare w) all3 d (c::t) with
   | .halt h=>.halt h
   | .ok ts r=>.ok ⟨false,filled ts⟩ r
termination_by l.length*8+3
decreasing_by all_goals (first | omega|(simp only [List.length_cons] at *;omega))
def parts (f:Upto) (g:Told) (d:Nat) (l:Str):Res (List Tok):=
 if f.ends l then .ok [] l
 else
  match l with
  | []=>.ok [] []
  | c::t=>
   if c == 92 && g.slashes then
    if _h:(unesc t).2.length<(c::t).length then (parts f g d (unesc t).2).glue (unesc t).1 else .halt .deep
   else if c == 36 && g.vars then
    match varOf g d t with
    | .halt h=>.halt h
    | .ok none _=>(parts f g d t).glue [c]
    | .ok (some x) r=>if _h:r.length<(c::t).length then (parts f g d r).cons x else .halt .deep
   else if c == 91 && g.scripts then
    match script d t with
    | .halt h=>.halt h
    | .ok s r=>if _h:r.length<(c::t).length then (parts f g d r).cons (.mk 3 s false []) else .halt .deep
   else (parts f g d t).glue [c]
termination_by l.length*8+2
decreasing_by all_goals (first | omega|(simp only [List.length_cons] at *;omega))
def script (d:Nat) (l:Str):Res Str:=
 if d == maxDeep then .halt .deep
 else
  match commands true (d+1) l with
  | .halt h=>.halt h
  | .ok _ r=>
   match r with
   | []=>.halt (.lacks (l.length+1))
   | _::r'=>.ok (l.take (l.length-r.length)) r'
termination_by l.length*8+6
decreasing_by all_goals (first | omega|(simp only [List.length_cons] at *;omega))
def varOf (g:Told) (d:Nat) (l:Str):Res (Option Tok):=
 if l.head? == some 123 then
  match upTo l.tail with
  | none=>.halt (.lacks (l.length+1))
  | some (s,r)=>.ok (some (.mk 2 s false [])) r
 else
  match name false l with
  | (s,r)=>
   if s.isEmpty then .ok none l
   else
    match r with
    | []=>.ok (some (.mk 2 s false [])) r
    | c::t=>
     if c == 40 then
      if d == maxDeep then .halt .deep
      else
       if _h:t.length<l.length then
        match parts .paren g (d+1) t with
        | .halt h=>.halt h
        | .ok ts r'=>
         match r' with
         | []=>.halt (.lacks (c::t).length)
         | _::r''=>.ok (some (.mk 2 s true (filled ts))) r''
       else .halt .deep
     else .ok (some (.mk 2 s false [])) (c::t)
termination_by l.length*8+1
decreasing_by all_goals (first | omega|(simp only [List.length_cons] at *;omega))
end
end Go.Proofs.YtbilphfbfnohmaaGreatDoor.Pz
