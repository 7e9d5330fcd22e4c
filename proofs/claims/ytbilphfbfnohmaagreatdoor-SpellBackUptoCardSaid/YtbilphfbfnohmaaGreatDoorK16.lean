/-
  Part K16 of the proofs of this seat, merged by a program out of 1 texts; remarks are struck.
-/
import Derived.Test.YtbilphfbfnohmaaGreatDoorK11
namespace Go.Proofs.YtbilphfbfnohmaaGreatDoor.Pz
theorem byte_of_wf {n:Int} (h:(Lit.int .u8 n).wf=true):∃ y:UInt8,n=(y.toNat:Nat):=by
 simp only [Lit.wf,IntKind.min,IntKind.max,IntKind.signed,IntKind.bits,Bool.and_eq_true] at h
 have h2:0≤n∧n<256:=by
  obtain ⟨a,b⟩:=h
  simp at a b
  omega
 refine ⟨UInt8.ofNat n.toNat,?_⟩
 have e:(UInt8.ofNat n.toNat).toNat=n.toNat % 256:=UInt8.toNat_ofNat'
 rw [e]
 omega
end Go.Proofs.YtbilphfbfnohmaaGreatDoor.Pz
