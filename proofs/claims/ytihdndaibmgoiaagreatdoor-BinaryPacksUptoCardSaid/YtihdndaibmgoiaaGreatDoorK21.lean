/-
  Part K21 of the proofs of this seat, merged by a program out of 3 texts; remarks are struck.
-/
import Derived.Test.YtihdndaibmgoiaaGreatDoorRows
import Derived.Deep.DeepHandedRow
import Derived.ProofKit
import Derived.OpenShut
import Derived.ChangeMaps5
import Derived.Carry
import Derived.SliceStrings
import Derived.Test.YtihdndaibmgoiaaGreatDoorK18
namespace Go.Proofs.YtihdndaibmgoiaaGreatDoor.Pz
open Go.RowKit
def IntsAt (w:World) (v:Value) (l:List Int):Prop:=∃ a cap,v=.slice a l.length cap∧l.length≤cap∧∀ i (h:i<l.length),∃ p:Addr,a=some p∧p.block<w.heap.size∧w.cell? (p.add i)=some (.int .i64 l[i])
theorem IntsAt.below {w w':World} {v:Value} {l:List Int} (h:IntsAt w v l) (hb:Below w.heap.size w w'):IntsAt w' v l:=by
 obtain ⟨a,cap,rfl,hc,h⟩:=h
 refine ⟨a,cap,rfl,hc,fun i hi=>?_⟩
 obtain ⟨p,h1,h2,h3⟩:=h i hi
 have:=hb.size
 exact ⟨p,h1,by omega,by rw [hb.cell (p:=p.add i) (by rw [add_block];exact h2)];exact h3⟩
end Go.Proofs.YtihdndaibmgoiaaGreatDoor.Pz
namespace Go.Proofs.YtihdndaibmgoiaaGreatDoor.Opn
open Go.ChangeMaps Go.ChangeShapes Go.WideShapes Go.ChangeAt Go.RowKit
section
variable {P:Program} {H:Type} {enc:TypeId×Value→H} {W:World}
theorem getD_data (ss:List ByteArray) (n i:Nat) (h:i<((ss.take n).map (fun x:ByteArray=>x.data.toList)).length):(.string (ss.getD i ByteArray.empty):Value)=.string ⟨(((ss.take n).map (fun x:ByteArray=>x.data.toList))[i]).toArray⟩:=by
 simp only [List.length_map,List.length_take] at h
 have h1:i<ss.length:=by omega
 rw [List.getElem_map,List.getElem_take,List.getD_eq_getElem?_getD,List.getElem?_eq_getElem h1]
 cases ss[i]
 simp
theorem bulk_strs (ss:List ByteArray):Rows.uptoBulkAll (strs (H:=H) ss)=Pz.sumT (ss.map (·.data.toList))+ss.length:=by
 induction ss with
 | nil=>rfl
 | cons a ss ih=>
  show a.data.toList.length+1+Rows.uptoBulkAll (strs (H:=H) ss)=a.data.toList.length+Pz.sumT (ss.map (·.data.toList))+(ss.length+1)
  rw [ih]
  omega
theorem blk_lt {a:Addr} {n:Nat} {v:Value} (hlt:∀ x∈MemPlace.row a n,x.block<W.heap.size) (h0:0<n) (hc:W.cell? (a.add 0)=some v):a.block<W.heap.size:=by
 obtain ⟨b,off,spot⟩:=a
 have hspot:spot=none:=by simpa [Addr.add] using World.cell?_spot hc
 subst hspot
 exact hlt (.cell b off) (MemPlace.mem_row.2 ⟨0,h0,by simp⟩)
theorem opened_strs {t e:TypeId} (ht:P.underlying t=some (.slice e)) (he:P.underlying e=some .string) (hce:P.cellsOf e=1) {r:Reach} {b0:Nat} {v:Value} {d:DataW H} {p:List MemPlace} (hv:Value.okWide P W r b0 t v) (h:DataW.Trod enc P W 0 (fun _=>true) true t v d p) (hlt:∀ x∈p,x.block<W.heap.size) :
  ∃ l,Pz.StrsAt W v l∧Pz.sumT l+l.length≤Rows.uptoBulk d∧l.length≤maxLen:=by
 obtain ⟨a1,n1,c1,rfl⟩:=okWide_slice ht hv
 obtain ⟨fuel,hf⟩:=h
 rcases open_strings ht he hce hf with ⟨hcs,hx⟩ | ⟨a,len',cap',ss,hcs,_,hl,hm,hz,hx,hcell,hws⟩
 ·simp [Value.cells] at hcs
  obtain ⟨rfl,rfl,rfl⟩:=hcs
  exact ⟨[],⟨none,0,rfl,Nat.le_refl _,fun i hi=>absurd hi (Nat.not_lt_zero _)⟩,(by simp [Pz.sumT]),(by simp)⟩
 ·simp [Value.cells] at hcs
  obtain ⟨rfl,rfl,rfl⟩:=hcs
  simp only [Prod.mk.injEq] at hx
  obtain ⟨rfl,rfl⟩:=hx
  simp only [if_true] at hz
  have hln:((ss.take n1).map (·.data.toList)).length=n1:=by rw [List.length_map,List.length_take];omega
  refine ⟨(ss.take n1).map (·.data.toList),⟨some a,c1,by rw [hln],by rw [hln];exact hl,fun i hi=>⟨a,rfl,?_,?_⟩⟩,?_,by rw [hln];omega⟩
  ·rw [hln] at hi
   exact blk_lt hlt (by omega) (hcell 0 (by omega))
  ·rw [hcell i (by rw [hln] at hi;omega),getD_data ss n1 i hi]
  ·simp only [Rows.uptoBulk]
   rw [bulk_strs,bulk_strs,List.length_map]
   omega
end
end Go.Proofs.YtihdndaibmgoiaaGreatDoor.Opn
namespace Go.Proofs.YtihdndaibmgoiaaGreatDoor.Opn
open Go.ChangeMaps Go.ChangeShapes Go.WideShapes Go.ChangeAt Go.RowKit
section
variable {P:Program} {H:Type} {enc:TypeId×Value→H} {W:World}
theorem opened_nil {t e:TypeId} (ht:P.underlying t=some (.slice e)) (he:P.underlying e=some .string) (hce:P.cellsOf e=1) {r:Reach} {b0:Nat} {v:Value} {d:DataW H} {p:List MemPlace} (hv:Value.okWide P W r b0 t v) (h:DataW.Trod enc P W 0 (fun _=>true) true t v d p) :
  ∀ n c,v=.slice none n c→c=0:=by
 obtain ⟨a1,n1,c1,rfl⟩:=okWide_slice ht hv
 obtain ⟨fuel,hf⟩:=h
 rcases open_strings ht he hce hf with ⟨hcs,_⟩ | ⟨a,len',cap',ss,hcs,_⟩
 ·simp [Value.cells] at hcs
  obtain ⟨rfl,rfl,rfl⟩:=hcs
  intro n c e
  simp only [Value.slice.injEq,true_and] at e
  exact e.2.symm
 ·simp [Value.cells] at hcs
  obtain ⟨rfl,rfl,rfl⟩:=hcs
  intro n c e
  simp at e
end
end Go.Proofs.YtihdndaibmgoiaaGreatDoor.Opn
