/-
  Part K0 of the proofs of this seat, merged by a program out of 1 texts; remarks are struck.
-/
import Derived.WalkKit
namespace Go.Proofs.YtbilphfbfnohmaaGreatDoor.Pz
inductive Tok where
 | mk (kind:Nat) (text:List UInt8) (has:Bool) (index:List Tok)
abbrev Str:=List UInt8
structure Wd where
 spread:Bool
 toks:List Tok
structure Cmd where
 back:Nat
 words:List Wd
inductive Halt where
 | lacks (back:Nat)
 | wrong (back:Nat)
 | deep
inductive Res (α:Type) where
 | ok (a:α) (rest:Str)
 | halt (h:Halt)
def white (c:UInt8):Bool:=(9≤c && c≤13) || c == 32
def hexv (c:UInt8):Option Nat:=
 if 48≤c && c≤57 then some (c.toNat-48) else if 97≤c && c≤102 then some (c.toNat-87) else if 65≤c && c≤70 then some (c.toNat-55) else none
def digv (base:Nat) (c:UInt8):Option Nat:=
 match hexv c with
 | some v=>if v<base then some v else none
 | none=>none
def digs (base:Nat):Nat→Nat→Str→Nat×Str
 | 0,v,l=>(v,l)
 | _+1,v,[]=>(v,[])
 | n+1,v,c::t=>match digv base c with
  | some d=>digs base n (v*base+d) t
  | none=>(v,c::t)
def blanks0:Str→Str
 | []=>[]
 | c::t=>if c == 32 || c == 9 then blanks0 t else c::t
def named1 (c:UInt8):Option UInt8:=
 if c == 97 then some 7 else if c == 98 then some 8 else if c == 116 then some 9 else if c == 110 then some 10 else if c == 118 then some 11 else if c == 102 then some 12 else if c == 114 then some 13 else none
def unesc1 (c:UInt8) (t:Str):Str×Str:=
 match named1 c with
 | some x=>([x],t)
 | none=>
  if c == 10 then ([32],blanks0 t)
  else if c == 120 then
   if (digs 16 2 0 t).2.length<t.length then ([UInt8.ofNat (digs 16 2 0 t).1],(digs 16 2 0 t).2) else ([120],t)
  else if (digs 8 3 0 (c::t)).2.length<(c::t).length then ([UInt8.ofNat (digs 8 3 0 (c::t)).1],(digs 8 3 0 (c::t)).2) else ([c],t)
def unesc:Str→Str×Str
 | []=>([92],[])
 | c::t=>unesc1 c t
def pre (p:Str):Option (Str×Str)→Option (Str×Str)
 | none=>none
 | some (a,r)=>some (p++a,r)
def brace:Nat→Str→Option (Str×Str)
 | _,[]=>none
 | d,c::t=>
  if c == 92 then
   match t with
   | []=>none
   | e::t'=>pre [c,e] (brace d t')
  else if c == 123 then pre [c] (brace (d+1) t)
  else if c == 125 then
   match d with
   | 0=>some ([],t)
   | d'+1=>pre [c] (brace d' t)
  else pre [c] (brace d t)
def letter (c:UInt8):Bool:=c == 95 || (48≤c && c≤57) || (97≤c && c≤122) || (65≤c && c≤90)
def Tok.txt (s:Str):Tok:=.mk 1 s false []
def Res.cons {α:Type} (x:α):Res (List α)→Res (List α)
 | .ok ts r=>.ok (x::ts) r
 | .halt h=>.halt h
end Go.Proofs.YtbilphfbfnohmaaGreatDoor.Pz
