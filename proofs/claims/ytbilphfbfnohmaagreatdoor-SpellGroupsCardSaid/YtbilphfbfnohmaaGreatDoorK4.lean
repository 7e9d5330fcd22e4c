/-
  Part K4 of the proofs of this seat, merged by a program out of 1 texts; remarks are struck.
-/
import Derived.Test.YtbilphfbfnohmaaGreatDoorK3
namespace Go.Proofs.YtbilphfbfnohmaaGreatDoor.Pz
structure OnlyS (A:List Nat) (w w':World):Prop where
 os:w'.os=w.os
 tape:w'.tape=w.tape
 output:w'.output=w.output
 size:w.heap.size≤w'.heap.size
 block:∀ k,k<w.heap.size→k ∉ A→w'.heap[k]? = w.heap[k]?
theorem OnlyS.refl (A:List Nat) (w:World):OnlyS A w w:=⟨rfl,rfl,rfl,Nat.le_refl _,fun _ _ _=>rfl⟩
theorem OnlyS.trans {A:List Nat} {x y z:World} (h:OnlyS A x y) (k:OnlyS A y z):OnlyS A x z:=
 ⟨k.os.trans h.os,k.tape.trans h.tape,k.output.trans h.output,Nat.le_trans h.size k.size,fun i hi hA=>(k.block i (Nat.lt_of_lt_of_le hi h.size) hA).trans (h.block i hi hA)⟩
theorem OnlyS.more {A A':List Nat} {x y:World} (h:OnlyS A x y) (hA:∀ k∈A,k∈A'):OnlyS A' x y:=
 ⟨h.os,h.tape,h.output,h.size,fun k hk hn=>h.block k hk fun e=>hn (hA k e)⟩
def isDig (c:UInt8):Bool:=decide (48≤c.toNat) && decide (c.toNat≤57)
def numGo (n:Nat) (l:Str):Nat:=l.foldl (fun n c=>10*n+(c.toNat-48)) n
def numE (l:Str):Int:=if l=[] then -1 else (numGo 0 l:Nat)
def digRun:Nat→Str→Str
 | 0,_=>[]
 | _+1,[]=>[]
 | m+1,c::t=>if isDig c then c::digRun m t else []
theorem digRun_pre:∀ (m:Nat) (l:Str),∃ r,l=digRun m l++r
 | 0,l=>⟨l,rfl⟩
 | _+1,[]=>⟨[],rfl⟩
 | m+1,c::t=>by
  rw [digRun]
  by_cases h:isDig c
  ·obtain ⟨r,hr⟩:=digRun_pre m t
   rw [if_pos h]
   exact ⟨r,by rw [List.cons_append,← hr]⟩
  ·rw [if_neg h]
   exact ⟨c::t,rfl⟩
theorem numGo_app (a:Str) (n:Nat) (c:UInt8):numGo n (a++[c])=10*numGo n a+(c.toNat-48):=by
 unfold numGo
 rw [List.foldl_append,List.foldl_cons,List.foldl_nil]
theorem numGo_cons (a:Str) (n:Nat) (c:UInt8):numGo n (c::a)=numGo (10*n+(c.toNat-48)) a:=by
 unfold numGo
 rw [List.foldl_cons]
theorem numGo_lt (a:Str):∀ n:Nat,a.all isDig=true→numGo n a<(n+1)*10 ^ a.length:=by
 induction a with
 | nil=>intro n _;show n<(n+1)*10 ^ 0;rw [Nat.pow_zero];omega
 | cons c a ih=>
  intro n h
  rw [List.all_cons,Bool.and_eq_true] at h
  have h1:=ih (10*n+(c.toNat-48)) h.2
  have h2:c.toNat≤57:=by
   have:=h.1
   unfold isDig at this
   simp at this
   exact this.2
  rw [numGo_cons,List.length_cons,Nat.pow_succ]
  refine Nat.lt_of_lt_of_le h1 ?_
  rw [Nat.mul_comm (10 ^ a.length) 10,← Nat.mul_assoc]
  exact Nat.mul_le_mul_right _ (by omega)
theorem digRun_dig:∀ (m:Nat) (l:Str),(digRun m l).all isDig=true
 | 0,_=>rfl
 | _+1,[]=>rfl
 | m+1,c::t=>by
  rw [digRun]
  by_cases h:isDig c=true
  ·rw [if_pos h,List.all_cons,h,digRun_dig m t]
   rfl
  ·rw [if_neg h]
   rfl
theorem digRun_all:∀ (m:Nat) (a r:Str),a.all isDig=true→a.length≤m→(a.length=m∨∀ c,r.head? = some c→isDig c=false)→digRun m (a++r)=a
 | 0,a,r,_,h,_=>by rw [List.eq_nil_of_length_eq_zero (show a.length=0 by omega)];rfl
 | m+1,[],r,_,_,h=>by
  cases r with
  | nil=>rfl
  | cons c t=>
   have:=h.resolve_left (by simp) c rfl
   show digRun (m+1) (c::t)=[]
   rw [digRun,this]
   rfl
 | m+1,c::a,r,h1,h2,h3=>by
  rw [List.all_cons,Bool.and_eq_true] at h1
  show digRun (m+1) (c::(a++r))=c::a
  rw [digRun,if_pos h1.1,digRun_all m a r h1.2 (by simpa using h2) (h3.imp (by intro h;simpa using h) id)]
inductive Pc where
 | txt (l:Str)
 | pct
 | cnv (fl wd:Str) (c:UInt8)
def Pc.shw:Pc→Str
 | .txt l=>l
 | .pct=>[37,37]
 | .cnv fl wd c=>37::(fl++(wd++[c]))
def shwAll:List Pc→Str
 | []=>[]
 | p::ps=>p.shw++shwAll ps
theorem shwAll_app:∀ (a b:List Pc),shwAll (a++b)=shwAll a++shwAll b
 | [],_=>rfl
 | p::a,b=>by show p.shw++shwAll (a++b)=(p.shw++shwAll a)++shwAll b;rw [shwAll_app a b,List.append_assoc]
def isFlag (c:UInt8):Bool:=c == 45 || c == 43 || c == 48 || c == 35 || c == 32
def isLet (scan:Bool) (c:UInt8):Bool:=c == 100 || c == 120 || c == 111 || c == 98 || c == 115 || (!scan && (c == 88 || c == 113))
def cnvOk (scan:Bool) (fl wd:Str) (c:UInt8):Bool:=
 isLet scan c && fl.all isFlag && wd.all isDig && decide (wd.length≤3) && (wd.head? != some 48) && (!scan || (fl.isEmpty && wd.isEmpty))
def Pc.ok (scan:Bool):Pc→Bool
 | .txt l=>!l.isEmpty && !l.contains 37
 | .pct=>!scan
 | .cnv fl wd c=>cnvOk scan fl wd c
def partsOk (scan:Bool):List Pc→Bool
 | []=>true
 | [p]=>p.ok scan
 | .txt _ :: .txt _::_=>false
 | p::q::ps=>p.ok scan && partsOk scan (q::ps)
def Pc.text:Pc→Str
 | .txt l=>l
 | _=>[]
def Pc.flags:Pc→Str
 | .cnv fl _ _=>fl
 | _=>[]
def Pc.letter:Pc→UInt8
 | .txt _=>0
 | .pct=>37
 | .cnv _ _ c=>c
def Pc.width:Pc→Int
 | .txt _=>0
 | .pct=>-1
 | .cnv _ wd _=>numE wd
def Pc.prec (scan:Bool):Pc→Int
 | .txt _=>0
 | _=>if scan then 0 else -1
def cvCells (at':Int) (tx fl:Str) (wd pr:Int) (wide precise:Bool) (c:UInt8) (quiet:Bool):Array Value:=
 #[.int .i64 at',.string ⟨tx.toArray⟩,.int .i64 0,.string ⟨fl.toArray⟩,.int .i64 wd,.int .i64 pr,.bool wide,.bool precise,.int .u8 (c.toNat:Nat),.bool quiet,.string ⟨#[]⟩]
def pcCells (scan:Bool) (at':Nat) (p:Pc):Array Value:=cvCells at' p.text p.flags p.width (p.prec scan) false false p.letter false
def offP (ps:List Pc) (k:Nat):Nat:=(shwAll (ps.take k)).length
def encP (scan:Bool) (ps:List Pc) (k:Nat):Array Value:=#[.agg (pcCells scan (offP ps k) (ps.getD k .pct))]
theorem off_at (ps:List Pc) (k:Nat):At (shwAll ps) (shwAll (ps.drop k)) (offP ps k):=by
 have h:shwAll ps=shwAll (ps.take k)++shwAll (ps.drop k):=by rw [← shwAll_app,List.take_append_drop]
 refine ⟨by rw [h,List.length_append];rfl,?_⟩
 unfold offP
 rw [h]
 simp
theorem off_succ {ps:List Pc} {k:Nat} (h:k<ps.length):offP ps (k+1)=offP ps k+(ps[k]).shw.length:=by
 unfold offP
 rw [List.take_succ_eq_append_getElem h,shwAll_app,List.length_append]
 show _+((ps[k]).shw++[]).length=_
 rw [List.append_nil]
theorem drop_shw {ps:List Pc} {k:Nat} (h:k<ps.length):shwAll (ps.drop k)=(ps[k]).shw++shwAll (ps.drop (k+1)):=by
 rw [List.drop_eq_getElem_cons h]
 rfl
theorem partsOk_cons {scan:Bool} {p:Pc} {ps:List Pc} (h:partsOk scan (p::ps)=true):p.ok scan=true∧partsOk scan ps=true∧∀ l,p=.txt l→∀ l',ps.head?≠some (.txt l'):=by
 cases ps with
 | nil=>cases p<;>exact ⟨h,rfl,fun _ _ _ e=>by cases e⟩
 | cons q ps=>
  cases p with
  | txt l=>
   cases q with
   | txt l'=>cases h
   | pct=>rw [partsOk,Bool.and_eq_true] at h;exact ⟨h.1,h.2,fun _ _ _ e=>by cases e⟩;all_goals simp
   | cnv a b c=>rw [partsOk,Bool.and_eq_true] at h;exact ⟨h.1,h.2,fun _ _ _ e=>by cases e⟩;all_goals simp
  | pct=>rw [partsOk,Bool.and_eq_true] at h;exact ⟨h.1,h.2,fun _ e=>by cases e⟩;all_goals simp
  | cnv a b c=>rw [partsOk,Bool.and_eq_true] at h;exact ⟨h.1,h.2,fun _ e=>by cases e⟩;all_goals simp
theorem partsOk_at {scan:Bool}:∀ {ps:List Pc} {k:Nat},partsOk scan ps=true→(h:k<ps.length)→(ps[k]).ok scan=true∧∀ l,ps[k]=.txt l→∀ l',(ps.drop (k+1)).head?≠some (.txt l')
 | [],_,_,h=>absurd h (Nat.not_lt_zero _)
 | p::ps,0,hp,_=>⟨(partsOk_cons hp).1,(partsOk_cons hp).2.2⟩
 | p::ps,k+1,hp,h=>partsOk_at (ps:=ps) (partsOk_cons hp).2.1 (by simpa using h)
theorem behind_txt {scan:Bool} {ps:List Pc} {k:Nat} (hp:partsOk scan ps=true) (h:k<ps.length) {l:Str} (hl:ps[k]=.txt l):shwAll (ps.drop (k+1))=[]∨∃ t,shwAll (ps.drop (k+1))=37::t:=by
 have h1:=(partsOk_at hp h).2 l hl
 cases hd:ps.drop (k+1) with
 | nil=>exact .inl rfl
 | cons q qs=>
  rw [hd] at h1
  cases q with
  | txt l'=>exact absurd rfl (h1 l')
  | pct=>exact .inr ⟨_,rfl⟩
  | cnv a b c=>exact .inr ⟨_,rfl⟩
theorem isLet_dig {scan:Bool} {c:UInt8} (h:isLet scan c=true):isDig c=false∧isFlag c=false∧c≠36∧c≠37∧c≠42∧c≠46∧c≠0:=by
 have h9:(List.range 256).all (fun n=>!isLet scan (UInt8.ofNat n) || (!isDig (UInt8.ofNat n) && !isFlag (UInt8.ofNat n) && (UInt8.ofNat n != 36) && (UInt8.ofNat n != 37) && (UInt8.ofNat n != 42) && (UInt8.ofNat n != 46) && (UInt8.ofNat n != 0)))=true:=by
  cases scan<;>decide +kernel
 have h8:=List.all_eq_true.1 h9 c.toNat (List.mem_range.2 c.toNat_lt)
 rw [UInt8.ofNat_toNat,h] at h8
 simpa [and_assoc] using h8
theorem isFlag_ne {c:UInt8} (h:isFlag c=true):c≠36∧c≠37:=by
 unfold isFlag at h
 constructor<;>(rintro rfl;revert h;decide)
theorem isDig_ne {c:UInt8} (h:isDig c=true):c≠36∧c≠37∧c≠42∧c≠46:=by
 unfold isDig at h
 refine ⟨?_,?_,?_,?_⟩<;>(rintro rfl;revert h;decide)
structure CnvP (scan:Bool) (fl wd:Str) (c:UInt8):Prop where
 letter:isLet scan c=true
 flags:fl.all isFlag=true
 digits:wd.all isDig=true
 three:wd.length≤3
 head:wd.head?≠some 48
 bare:scan=true→fl=[]∧wd=[]
theorem cnvOk_p {scan:Bool} {fl wd:Str} {c:UInt8} (h:cnvOk scan fl wd c=true):CnvP scan fl wd c:=by
 unfold cnvOk at h
 simp only [Bool.and_eq_true,Bool.or_eq_true,decide_eq_true_eq,bne_iff_ne,ne_eq,Bool.not_eq_true',List.isEmpty_iff] at h
 obtain ⟨⟨⟨⟨⟨h1,h2⟩,h3⟩,h4⟩,h5⟩,h6⟩:=h
 exact ⟨h1,h2,h3,h4,h5,fun hs=>by
  rcases h6 with h6 | h6
  ·rw [hs] at h6;cases h6
  ·exact h6⟩
theorem CnvP.ahead {scan:Bool} {fl wd:Str} {c:UInt8} (h:CnvP scan fl wd c) (m:Nat) (r:Str):∃ (x:UInt8) (t:Str),fl++(wd++c::r)=digRun m (fl++(wd++c::r))++x::t∧x≠36:=by
  obtain ⟨r1,hr1⟩:=digRun_pre m (fl++(wd++c::r))
  have hd:=digRun_dig m (fl++(wd++c::r))
  generalize digRun m (fl++(wd++c::r))=D at *
  have hX:fl++(wd++c::r)=(fl++(wd++[c]))++r:=by simp
  have hne:∀ y∈fl++(wd++[c]),y≠36:=by
    intro y hy
    rcases List.mem_append.1 hy with hy | hy
    · exact (isFlag_ne (List.all_eq_true.1 h.flags y hy)).1
    · rcases List.mem_append.1 hy with hy | hy
      · exact (isDig_ne (List.all_eq_true.1 h.digits y hy)).1
      · rw [List.mem_singleton.1 hy]
        exact (isLet_dig h.letter).2.2.1
  rw [hX] at hr1 ⊢
  rcases Nat.lt_or_ge D.length (fl++(wd++[c])).length with hlt | hge
  · have h1:(fl++(wd++[c]))[D.length]≠36:=hne _ (List.getElem_mem _)
    refine ⟨(fl++(wd++[c]))[D.length],(fl++(wd++[c])).drop (D.length+1)++r,?_,h1⟩
    have h2:r1=((fl++(wd++[c]))++r).drop D.length:=by rw [hr1];simp
    rw [hr1]
    congr 1
    rw [h2,List.drop_append_of_le_length (by omega),List.drop_eq_getElem_cons hlt]
    rfl
  · have h1 : c ∈ D := by
      have h2:(fl++(wd++[c]))=D.take (fl++(wd++[c])).length:=by
        have h3:=congrArg (List.take (fl++(wd++[c])).length) hr1
        rw [List.take_append_of_le_length (Nat.le_refl _),List.take_length,List.take_append_of_le_length hge] at h3
        exact h3
      have h4:c∈fl++(wd++[c]):=by simp
      rw [h2] at h4
      exact List.mem_of_mem_take h4
    have h5:=List.all_eq_true.1 hd c h1
    rw [(isLet_dig h.letter).1] at h5
    cases h5
theorem CnvP.behind {scan:Bool} {fl wd:Str} {c:UInt8} (h:CnvP scan fl wd c) (r:Str):∃ (z:UInt8) (t:Str),wd++c::r=z::t∧isFlag z=false∧z≠48∧z≠42:=by
 cases wd with
 | nil=>
  have h1:=isLet_dig h.letter
  exact ⟨c,r,rfl,h1.2.1,by rintro rfl;exact absurd h1.1 (by decide),h1.2.2.2.2.1⟩
 | cons y l=>
  have h1:isDig y=true:=List.all_eq_true.1 h.digits y (by simp)
  have h2:y≠48:=fun e=>h.head (by rw [e];rfl)
  refine ⟨y,_,rfl,?_,h2,(isDig_ne h1).2.2.1⟩
  have h9:(List.range 256).all (fun n=>!isDig (UInt8.ofNat n) || (UInt8.ofNat n == 48) || !isFlag (UInt8.ofNat n))=true:=by decide +kernel
  have h8:=List.all_eq_true.1 h9 y.toNat (List.mem_range.2 y.toNat_lt)
  rw [UInt8.ofNat_toNat,h1,show (y == 48)=false by simpa using h2] at h8
  simpa using h8
theorem CnvP.run {scan:Bool} {fl wd:Str} {c:UInt8} (h:CnvP scan fl wd c) (r:Str):digRun 3 (wd++c::r)=wd:=
 digRun_all 3 wd (c::r) h.digits h.three (.inr fun c' e=>by rw [← Option.some.inj e];exact (isLet_dig h.letter).1)
end Go.Proofs.YtbilphfbfnohmaaGreatDoor.Pz
