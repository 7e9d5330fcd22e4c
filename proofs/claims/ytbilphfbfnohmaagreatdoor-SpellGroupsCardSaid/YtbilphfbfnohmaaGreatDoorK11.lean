/-
  Part K11 of the proofs of this seat, merged by a program out of 1 texts; remarks are struck.
-/
import Derived.Test.YtbilphfbfnohmaaGreatDoorK5
namespace Go.Proofs.YtbilphfbfnohmaaGreatDoor.Pz
open Go.RowKit
theorem within_fn (n lo hi:Int) (w:World):Calls Tryz.prog 57 #[.int .i64 n,.int .i64 lo,.int .i64 hi] w fun e w'=>e=.returned (.bool (decide (lo≤n) && decide (n≤hi)))∧w'=w:=by
 by_cases h1:lo≤n
 ·have d1:decide (lo≤n)=true:=decide_eq_true h1
  by_cases h2:n≤hi
  ·have d2:decide (n≤hi)=true:=decide_eq_true h2
   go_enter Tryz.func57,Tryz.ntmps57
   go_wp2
   go_ret
   first | exact ⟨rfl,rfl⟩ | exact ⟨by rw [d1,d2];rfl,rfl⟩ | exact ⟨by simp,rfl⟩
  ·have d2:decide (n≤hi)=false:=decide_eq_false h2
   go_enter Tryz.func57,Tryz.ntmps57
   go_wp2
   go_ret
   first | exact ⟨rfl,rfl⟩ | exact ⟨by rw [d1,d2];rfl,rfl⟩ | exact ⟨by simp,rfl⟩
 ·have d1:decide (lo≤n)=false:=decide_eq_false h1
  go_enter Tryz.func57,Tryz.ntmps57
  go_wp2
  go_ret
  first | exact ⟨rfl,rfl⟩ | exact ⟨by rw [d1];rfl,rfl⟩ | exact ⟨by simp,rfl⟩
end Go.Proofs.YtbilphfbfnohmaaGreatDoor.Pz
