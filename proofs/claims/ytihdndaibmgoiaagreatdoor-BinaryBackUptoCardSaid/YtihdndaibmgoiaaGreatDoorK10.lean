/-
  Part K10 of the proofs of this seat, merged by a program out of 1 texts; remarks are struck.
-/
import Derived.Deep.QuietTactic
import Derived.BigQuiet
import Derived.Shelf.Strings.OnBuilder
import Derived.Ground.MpProg
import Derived.Shelf.Strings.Prefix
import Derived.Shelf.LaysM
import Derived.Test.YtihdndaibmgoiaaGreatDoorProg
import Derived.Test.YtihdndaibmgoiaaGreatDoorK9
namespace Go.Proofs.YtihdndaibmgoiaaGreatDoor.Pz
open Go.RowKit
attribute [local go_sem] Oper.semAt_some
def grt (c:UInt8):Bool:=decide (65≤c.toNat) && decide (c.toNat≤90)
theorem great_fn (c:UInt8) (w:World):Calls Tryz.prog 133 #[.int .u8 (c.toNat:Nat)] w fun e w'=>e=.returned (.bool (grt c))∧w'=w:=by
 have hcl:=c.toNat_lt
 obtain ⟨R,hR⟩:∃ R,R=grt c:=⟨_,rfl⟩
 rw [← hR]
 unfold grt at hR
 have HR:=hid hR
 clear hR
 generalize c.toNat=d at *
 rcases (show d<65∨(65≤d∧d≤90)∨90<d by omega) with h | ⟨h,h'⟩ | h
 ·have b1:¬ ((65:Int)≤(d:Int)):=by omega
  have HRR:=hid (show R=false by rw [HR.out];simp;omega)
  clear h
  go_enter Tryz.func133,Tryz.ntmps133
  go_wp2
  go_ret
  exact ⟨by rw [HRR.out];rfl,rfl⟩
 ·have b1:(65:Int)≤(d:Int):=by omega
  have b2:(d:Int)≤90:=by omega
  have HRR:=hid (show R=true by rw [HR.out];simp;omega)
  clear h h'
  go_enter Tryz.func133,Tryz.ntmps133
  go_wp2
  go_ret
  exact ⟨by rw [HRR.out];rfl,rfl⟩
 ·have b1:(65:Int)≤(d:Int):=by omega
  have b2:¬ ((d:Int)≤90):=by omega
  have HRR:=hid (show R=false by rw [HR.out];simp;omega)
  clear h
  go_enter Tryz.func133,Tryz.ntmps133
  go_wp2
  go_ret
  exact ⟨by rw [HRR.out];rfl,rfl⟩
end Go.Proofs.YtihdndaibmgoiaaGreatDoor.Pz
