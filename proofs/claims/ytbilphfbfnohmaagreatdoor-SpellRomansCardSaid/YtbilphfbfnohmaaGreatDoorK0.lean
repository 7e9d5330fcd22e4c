/-
  Part K0 of the proofs of this seat, merged by a program out of 1 texts; remarks are struck.
-/
import Derived.WalkKit
namespace Go.Proofs.YtbilphfbfnohmaaGreatDoor.Pz
inductive Tok where
 | mk (kind:Nat) (text:List UInt8) (has:Bool) (index:List Tok)
abbrev Str:=List UInt8
structure Wd where
 spread:Bool
 toks:List Tok
structure Cmd where
 back:Nat
 words:List Wd
inductive Halt where
 | lacks (back:Nat)
 | wrong (back:Nat)
 | deep
inductive Res (α:Type) where
 | ok (a:α) (rest:Str)
 | halt (h:Halt)
def white (c:UInt8):Bool:=(9≤c && c≤13) || c == 32
def letter (c:UInt8):Bool:=c == 95 || (48≤c && c≤57) || (97≤c && c≤122) || (65≤c && c≤90)
def name:Bool→Str→Str×Str
 | _,[]=>([],[])
 | run,c::t=>
  if letter c then (c::(name false t).1,(name false t).2)
  else if c == 58 && (run || t.head? == some 58) then (c::(name true t).1,(name true t).2)
  else ([],c::t)
def Tok.txt (s:Str):Tok:=.mk 1 s false []
def Res.cons {α:Type} (x:α):Res (List α)→Res (List α)
 | .ok ts r=>.ok (x::ts) r
 | .halt h=>.halt h
end Go.Proofs.YtbilphfbfnohmaaGreatDoor.Pz
