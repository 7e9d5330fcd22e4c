/-
  Part K14 of the proofs of this seat, merged by a program out of 4 texts; remarks are struck.
-/
import Derived.Shelf.LaysM
import Derived.Shelf.Strconv.Itoa3
import Derived.Test.YtbilphfbfnohmaaGreatDoorProg
import Derived.Test.YtbilphfbfnohmaaGreatDoorK9
namespace Go.Proofs.YtbilphfbfnohmaaGreatDoor.Pz
open Go.RowKit
theorem read_digits (b:Nat) (hb2:2≤b) (hb:b≤36) (l:List UInt8) (h:∀ c∈l,valOf c<b) (h0:l≠[]):readRes l b=resOf (numOf b l:Nat):=by
  have p1 := head_digit b hb 45 (by have : valOf 45 = 36 := by decide
                                    omega) l h
  have r1:rRest l=l:=by unfold rRest;rw [p1];rfl
  have n1:rNeg l=false:=p1
  have ho:=rOK_of b l h h0
  have hr:¬ ((b:Int)<2∨36<(b:Int)):=by omega
  unfold readRes
  rw [if_neg hr,Int.toNat_natCast,r1,n1,if_pos ho]
  rfl
theorem val_dig {c:UInt8} (h:valOf c<16):valE c=valOf c∧white c=false∧signC c=false:=by
 have h9:(List.range 256).all (fun n=>!decide (valOf (UInt8.ofNat n)<16) || (decide (valE (UInt8.ofNat n)=valOf (UInt8.ofNat n)) && !white (UInt8.ofNat n) && !signC (UInt8.ofNat n)))=true:=by decide +kernel
 have h8:=List.all_eq_true.1 h9 c.toNat (List.mem_range.2 c.toNat_lt)
 rw [UInt8.ofNat_toNat] at h8
 simpa [h,and_assoc] using h8
theorem drop_blanks:∀ (k:Nat) (c:UInt8) (t:Str),white c=false→(List.replicate k 32++c::t).dropWhile white=c::t
 | 0,c,t,h=>by rw [List.replicate_zero,List.nil_append,List.dropWhile_cons_of_neg (by rw [h];decide)]
 | k+1,c,t,h=>by
  rw [List.replicate_succ,List.cons_append,List.dropWhile_cons_of_pos (by decide)]
  exact drop_blanks k c t h
theorem num_parts {b:Nat} (hb:b≤16) (k m:Nat) (sg D:Str) (hsg:sg=[]∨sg=[45]∨sg=[43]) (hD:∀ c∈D,valOf c<b) (h0:D≠[]) :
    sgE (List.replicate k 32++(sg++(D++List.replicate m 32)))=sg∧dgE b (List.replicate k 32++(sg++(D++List.replicate m 32)))=D:=by
  obtain ⟨d,t,rfl⟩:∃ d t,D=d::t:=by
    cases D with
    | nil=>exact absurd rfl h0
    | cons d t=>exact ⟨d,t,rfl⟩
  have hd:=val_dig (Nat.lt_of_lt_of_le (hD d (by simp)) hb)
  have hw:(List.replicate k 32++(sg++(d::t++List.replicate m 32))).dropWhile white=sg++(d::t++List.replicate m 32):=by
    rcases hsg with rfl | rfl | rfl
    · exact drop_blanks k d _ hd.2.1
    · exact drop_blanks k 45 _ (by decide)
    · exact drop_blanks k 43 _ (by decide)
  have hs:sgE (List.replicate k 32++(sg++(d::t++List.replicate m 32)))=sg:=by
    unfold sgE
    rw [hw]
    unfold runE
    rw [if_neg (by omega),show (1:Int).toNat=1 from rfl]
    rcases hsg with rfl | rfl | rfl
    · rw [List.nil_append,List.cons_append,List.take_succ_cons,List.take_zero,List.takeWhile_cons,hd.2.2]
      rfl
    · rfl
    · rfl
  refine ⟨hs,?_⟩
  unfold dgE
  rw [hs,hw,List.drop_left]
  refine runE_stop (List.all_eq_true.2 fun c hc=>?_) (.inl (by omega)) (.inr fun c r e=>?_)
  · have h1:=hD c hc
    unfold dgF
    rw [(val_dig (Nat.lt_of_lt_of_le h1 hb)).1]
    exact decide_eq_true h1
  · have : c = 32 := by
      have h1:c∈List.replicate m (32:UInt8):=by rw [e];simp
      exact (List.mem_replicate.1 h1).2
    subst this
    unfold dgF
    rw [show valE 32=16 by decide]
    exact decide_eq_false (by omega)
theorem zeros_num (b:Nat):∀ (k:Nat) (D:Str),numOf b (List.replicate k 48++D)=numOf b D
 | 0,D=>rfl
 | k+1,D=>by
  have h:numOf b (48::(List.replicate k 48++D))=numOf b (List.replicate k 48++D):=by
   show numFrom b (0*b+valOf 48) _=numFrom b 0 _
   rw [Nat.zero_mul,show valOf 48=0 by decide]
  rw [List.replicate_succ,List.cons_append,h,zeros_num b k D]
theorem spread_parts (fl:Str) (width:Int) (sg D:Str) (z:Bool):∃ k j m,spreadE fl width (sg++D) sg.length z=List.replicate k 32++(sg++((List.replicate j 48++D)++List.replicate m 32)):=by
 unfold spreadE
 split
 ·exact ⟨0,0,0,by simp⟩
 ·split
  ·exact ⟨0,0,_,by simp;rfl⟩
  ·split
   ·exact ⟨0,_,0,by simp;rfl⟩
   ·exact ⟨_,0,0,by simp;rfl⟩
theorem numText_parts (b:Nat) (hb2:2≤b) (hb:b≤16) (c:UInt8) (hc:c≠88) (z:Int):negD (numText b z.natAbs (decide (z<0)))=decide (z<0)∧
  ∃ D:Str,bodyD c (numText b z.natAbs (decide (z<0)))=D∧(∀ x∈D,valOf x<b)∧D≠[]∧numOf b D=z.natAbs:=by
 unfold bodyD
 rw [if_neg hc]
 unfold numText
 by_cases h0:z.natAbs=0
 ·obtain rfl:z=0:=by omega
  refine ⟨rfl,[48],rfl,fun x hx=>?_,by simp,?_⟩
  ·rw [List.mem_singleton.1 hx,show valOf 48=0 by decide];omega
  ·show numFrom b (0*b+valOf 48) []=0
   rw [Nat.zero_mul,show valOf 48=0 by decide]
   rfl
 ·rw [if_neg h0]
  have hd:=strOf_digits b z.natAbs hb2 (by omega)
  have hne:strOf b z.natAbs≠[]:=by
   intro he
   have h1:=strOf_length b z.natAbs
   rw [he] at h1
   have h2:=dlen_zero_iff b z.natAbs hb2
   simp at h1
   omega
  have hnum:=numOf_strOf b z.natAbs hb2 (by omega)
  by_cases hn:z<0
  ·rw [decide_eq_true hn,if_pos rfl]
   exact ⟨rfl,_,rfl,hd,hne,hnum⟩
  ·rw [decide_eq_false hn,if_neg (by decide)]
   have hneg:negD (strOf b z.natAbs)=false:=by
    obtain ⟨x,t,e⟩:∃ x t,strOf b z.natAbs=x::t:=by
     cases h:strOf b z.natAbs with
     | nil=>exact absurd h hne
     | cons x t=>exact ⟨x,t,rfl⟩
    have h1:=hd x (by rw [e];simp)
    rw [e]
    show (some x == some 45)=false
    rw [beq_eq_false_iff_ne]
    intro h
    rw [Option.some.inj h,show valOf 45=36 by decide] at h1
    omega
   rw [hneg]
   exact ⟨rfl,_,rfl,hd,hne,hnum⟩
theorem negRes_txt {n:Nat} (h:n<big600):negRes (txt (n:Int))=(txt (-(n:Int)),0):=by
 unfold negRes oneRes
 obtain ⟨h1,h2⟩:=txt_read (n:Int)
 have hb:¬ big600≤((n:Int)).natAbs:=by omega
 rw [if_pos h1,h2,if_neg (by omega),← resOf_small _ (by omega)]
 rw [if_neg hb]
theorem numb_back (c:UInt8) (hc:c=100∨c=120∨c=111∨c=98) (fl:Str) (h32:fl.contains 32=false) (h35:fl.contains 35=false) (width:Int) (n:Str) (hok:(baseRes n (baseC c)).2=0) :
  NumOk (baseC c) (numbE fl width (-1) c (baseRes n (baseC c)).1)∧numIn (baseC c) (numbE fl width (-1) c (baseRes n (baseC c)).1)=txt (pVal n):=by
 have hb:2≤baseC c∧baseC c≤16∧c≠88:=by rcases hc with rfl | rfl | rfl | rfl<;>decide
 obtain ⟨hb2,hb16,hc88⟩:=hb
 clear hc
 obtain ⟨b,hbb⟩:∃ b,b=baseC c:=⟨_,rfl⟩
 rw [← hbb] at hok hb2 hb16 ⊢
 obtain ⟨-,hbig,he⟩:=baseRes_ok hb2 (by omega) hok
 rw [he]
 clear he hok
 generalize pVal n=z at *
 obtain ⟨hneg,D,hbody,hD,h0,hnum⟩:=numText_parts b hb2 hb16 c hc88 z
 unfold numbE
 rw [hneg,hbody]
 have hpad:padD (-1) D=D:=by
  unfold padD
  rw [show ((-1:Int)-(D.length:Int)).toNat=0 by omega]
  rfl
 rw [hpad]
 have hsg:signD fl c (decide (z<0))=[]∨signD fl c (decide (z<0))=[45]∨signD fl c (decide (z<0))=[43]:=by
  unfold signD
  rw [h32,h35]
  cases decide (z<0) with
  | true=>exact .inr (.inl rfl)
  | false=>
   cases fl.contains 43 with
   | true=>exact .inr (.inr rfl)
   | false=>exact .inl rfl
 have hsn:signD fl c (decide (z<0))=[45]↔z<0:=by
  unfold signD
  rw [h32,h35]
  by_cases hz:z<0
  ·rw [decide_eq_true hz]
   exact ⟨fun _=>hz,fun _=>rfl⟩
  ·rw [decide_eq_false hz]
   cases fl.contains 43 with
   | true=>exact ⟨fun h=>by simp at h,fun h=>absurd h hz⟩
   | false=>exact ⟨fun h=>by simp at h,fun h=>absurd h hz⟩
 generalize signD fl c (decide (z<0))=sg at *
 obtain ⟨k,j,m,e⟩:=spread_parts fl width sg D (fl.contains 48 && decide ((-1:Int)<0))
 rw [e]
 have hD2:∀ x∈List.replicate j 48++D,valOf x<b:=by
  intro x hx
  rcases List.mem_append.1 hx with h | h
  ·rw [(List.mem_replicate.1 h).2,show valOf 48=0 by decide];omega
  ·exact hD x h
 have h02:List.replicate j 48++D≠[]:=by
  intro h
  exact h0 (List.append_eq_nil_iff.1 h).2
 have hnum2:numOf b (List.replicate j 48++D)=z.natAbs:=by rw [zeros_num,hnum]
 clear e hnum hD h0 hbody hpad
 generalize List.replicate j (48:UInt8)++D=E at *
 obtain ⟨p1,p2⟩:=num_parts hb16 k m sg E hsg hD2 h02
 have hr:=read_digits b hb2 (by omega) E hD2 h02
 rw [hnum2,resOf_small _ (by omega)] at hr
 generalize List.replicate k (32:UInt8)++(sg++(E++List.replicate m 32))=l at *
 constructor
 ·refine ⟨by rw [p2];exact h02,by rw [p2,hr],?_,fun _=>?_⟩
  ·rw [p2,hr]
   have:=txt_len (z.natAbs:Nat) (by omega)
   show (txt ((z.natAbs:Nat):Int)).length≤1000000
   omega
  ·rw [p2,hr]
   show (negRes (txt ((z.natAbs:Nat):Int))).2=0
   rw [negRes_txt hbig]
 ·unfold numIn
  rw [p1,p2,hr]
  by_cases hz:z<0
  ·rw [if_pos (hsn.2 hz)]
   show (negRes (txt ((z.natAbs:Nat):Int))).1=_
   rw [negRes_txt hbig]
   show txt (-((z.natAbs:Nat):Int))=txt z
   congr 1
   omega
  ·rw [if_neg (fun h=>hz (hsn.1 h))]
   show txt ((z.natAbs:Nat):Int)=txt z
   congr 1
   omega
end Go.Proofs.YtbilphfbfnohmaaGreatDoor.Pz
namespace Go.Proofs.YtbilphfbfnohmaaGreatDoor.Pz
open Go.Shelf
def Tryz.laysM171_ren:Go.Shelf.Ren:=⟨fun | 171=>42 | 243=>83 | 246=>135 | 283=>179 | 284=>180 | 285=>181 | 286=>182 | 129=>204 | 317=>203 | 318=>205 | 319=>206 | 320=>207 | 337=>219 | 338=>220 | n=>n,fun | 3=>3 | 9=>9 | 2=>2 | 4=>4 | 171=>195 | 0=>0 | 53=>176 | 37=>71 | 5=>5 | 173=>198 | 212=>224 | 51=>173 | 20=>20 | 213=>225 | 46=>136 | 232=>258 | 233=>259 | n=>n,fun | 17=>5 | 18=>7 | 19=>8 | n=>n⟩
theorem Tryz.laysM171:Go.Proofs.LaysM.n171 Tryz.prog Tryz.laysM171_ren:={
 mixed:=by kernel_rfl
 f129:=Tryz.func204.trans (congrArg some (by kernel_rfl))
 f171:=Tryz.func42.trans (congrArg some (by kernel_rfl))
 f243:=Tryz.func83.trans (congrArg some (by kernel_rfl))
 f246:=Tryz.func135.trans (congrArg some (by kernel_rfl))
 f283:=Tryz.func179.trans (congrArg some (by kernel_rfl))
 f284:=Tryz.func180.trans (congrArg some (by kernel_rfl))
 f285:=Tryz.func181.trans (congrArg some (by kernel_rfl))
 f286:=Tryz.func182.trans (congrArg some (by kernel_rfl))
 f317:=Tryz.func203.trans (congrArg some (by kernel_rfl))
 f318:=Tryz.func205.trans (congrArg some (by kernel_rfl))
 f319:=Tryz.func206.trans (congrArg some (by kernel_rfl))
 f320:=Tryz.func207.trans (congrArg some (by kernel_rfl))
 f337:=Tryz.func219.trans (congrArg some (by kernel_rfl))
 f338:=Tryz.func220.trans (congrArg some (by kernel_rfl))
 t0:=Tryz.underlying0
 a0:=Tryz.isAgg0
 z0:=Tryz.sizeOf0
 v0:=Tryz.zeroValue0
 t2:=Tryz.underlying2
 a2:=Tryz.isAgg2
 z2:=Tryz.sizeOf2
 v2:=Tryz.zeroValue2
 t3:=Tryz.underlying3
 a3:=Tryz.isAgg3
 z3:=Tryz.sizeOf3
 v3:=Tryz.zeroValue3
 t4:=Tryz.underlying4
 a4:=Tryz.isAgg4
 z4:=Tryz.sizeOf4
 v4:=Tryz.zeroValue4
 t5:=Tryz.underlying5
 a5:=Tryz.isAgg5
 z5:=Tryz.sizeOf5
 v5:=Tryz.zeroValue5
 t9:=Tryz.underlying9
 a9:=Tryz.isAgg9
 z9:=Tryz.sizeOf9
 v9:=Tryz.zeroValue9
 t20:=Tryz.underlying20
 a20:=Tryz.isAgg20
 z20:=Tryz.sizeOf20
 v20:=Tryz.zeroValue20
 t37:=Tryz.underlying71
 a37:=Tryz.isAgg71
 z37:=Tryz.sizeOf71
 v37:=Tryz.zeroValue71
 t46:=Tryz.underlying136
 a46:=Tryz.isAgg136
 z46:=Tryz.sizeOf136
 v46:=Tryz.zeroValue136
 t51:=Tryz.underlying173
 a51:=Tryz.isAgg173
 z51:=Tryz.sizeOf173
 v51:=Tryz.zeroValue173
 t53:=Tryz.underlying176
 a53:=Tryz.isAgg176
 z53:=Tryz.sizeOf176
 v53:=Tryz.zeroValue176
 t171:=Tryz.underlying195
 a171:=Tryz.isAgg195
 z171:=Tryz.sizeOf195
 v171:=Tryz.zeroValue195
 t173:=Tryz.underlying198
 a173:=Tryz.isAgg198
 z173:=Tryz.sizeOf198
 v173:=Tryz.zeroValue198
 t212:=Tryz.underlying224
 a212:=Tryz.isAgg224
 z212:=Tryz.sizeOf224
 v212:=Tryz.zeroValue224
 t213:=Tryz.underlying225
 a213:=Tryz.isAgg225
 z213:=Tryz.sizeOf225
 t232:=Tryz.underlying258
 a232:=Tryz.isAgg258
 z232:=Tryz.sizeOf258
 v232:=Tryz.zeroValue258
 t233:=Tryz.underlying259
 a233:=Tryz.isAgg259
 z233:=Tryz.sizeOf259
 v233:=Tryz.zeroValue259
 g17:=by kernel_rfl
 g18:=by kernel_rfl
 g19:=by kernel_rfl
 i0:=by kernel_rfl
 i2:=by kernel_rfl
 i3:=by kernel_rfl
 i4:=by kernel_rfl
 i5:=by kernel_rfl
 i9:=by kernel_rfl
 i20:=by kernel_rfl
 i37:=by kernel_rfl
 i46:=by kernel_rfl
 i51:=by kernel_rfl
 i53:=by kernel_rfl
 i171:=by kernel_rfl
 i173:=by kernel_rfl
 i212:=by kernel_rfl
 i232:=by kernel_rfl
 i233:=by kernel_rfl
 m17:=by kernel_rfl
 m18:=by kernel_rfl
 m19:=by kernel_rfl }
open Go.RowKit Go.Sort Go.Lib in
theorem Tryz.strconv_Itoa (n:Int) (h0:-9223372036854775808≤n) (h1:n≤9223372036854775807) (w:World) (htab:Lib.TabIs Tryz.prog w "internal/strconv.uint64pow10" .u64 Lib.pow10Tab) :
  Calls Tryz.prog 42 #[.int .i64 n] w fun e w'=>e=.returned (.string ⟨(Lib.itoa n).toArray⟩)∧∃ k os,w'=grow (w.drewN k) os:=Any.strconv_Itoa Tryz.laysM171 n h0 h1 w htab
end Go.Proofs.YtbilphfbfnohmaaGreatDoor.Pz
namespace Go.Proofs.YtbilphfbfnohmaaGreatDoor.Pz
open Go.RowKit
theorem nDig (u:Nat) (h:0<u):Lib.nDigits u=dlen 10 u:=by
 have hp:=(dlen_pos_iff u).2 h
 have h1:=(lt_dlen_iff 10 u (dlen 10 u-1) (by decide)).1 (by omega)
 have h2:=dlen_lt 10 u (by decide)
 rw [Lib.nDigits_unique (dlen 10 u-1) u h1 (by rw [Nat.sub_add_cancel (by omega)];exact h2)]
 omega
theorem dec_str (u:Nat) (h:0<u):Lib.decDigits u=strOf 10 u:=by
 rw [Lib.decDigits_eq,nDig u h]
 unfold strOf
 apply List.map_congr_left
 intro t _
 unfold Lib.dg chN
 rw [if_pos (dgt_lt 10 u _ (by decide))]
 rfl
theorem itoa_pos (n:Nat) (h:0<n):Lib.itoa (n:Int)=strOf 10 n:=by
 unfold Lib.itoa
 rw [if_neg (by omega),show ((n:Nat):Int).toNat=n by omega,dec_str _ h]
theorem below_grows (w:World) (os:Array Obj):Below w.heap.size w (Sort.grow w os):=
 ⟨rfl,rfl,rfl,by simp [Sort.grow],fun k hk=>by simp only [Sort.grow];exact Array.getElem?_append_left hk⟩
abbrev TabW (w:World):Prop:=Lib.TabIs Tryz.prog w "internal/strconv.uint64pow10" .u64 Lib.pow10Tab
set_option maxRecDepth 100000 in
set_option maxHeartbeats 2000000 in
theorem ofR_pos (n:Nat) (h0:0<n) (h9:n≤1000000) (w:World) (htab:TabW w) :
  Calls Tryz.prog 13 #[.int .i64 (n:Nat)] w fun e w'=>e=.returned (.string ⟨(strOf 10 n).toArray⟩)∧Below w.heap.size w w':=by
 have HC:=hid (Tryz.strconv_Itoa (n:Int) (by omega) (by omega) w htab)
 rw [itoa_pos n h0] at HC
 clear htab
 go_enter Tryz.func13,Tryz.ntmps13
 go_wp2_with fail
 (with_reducible refine HC.out.mono ?_);rintro e w1 ⟨rfl,k,os,rfl⟩
 go_wp2
 go_ret
 have hs:(w.drewN k).heap.size=w.heap.size:=by first | rfl | simp [World.drewN]
 have hg:=below_grows (w.drewN k) os
 rw [hs] at hg
 exact ⟨rfl,((show Below w.heap.size w (w.drewN k) from ⟨rfl,rfl,rfl,Nat.le_refl _,fun _ _=>rfl⟩)).trans hg⟩
def wdOkB (k:Nat):Bool:=(strOf 10 k).all isDig && decide ((strOf 10 k).length≤3) && ((strOf 10 k).head? != some 48) && decide (numE (strOf 10 k)=(k:Nat))
theorem wd_all:(List.range 300).all (fun k=>wdOkB (k+1))=true:=by decide +kernel
def wdS (k:Nat):Str:=if k=0 then [] else strOf 10 k
theorem wd_facts {k:Nat} (h:k≤300):(wdS k).all isDig=true∧(wdS k).length≤3∧(wdS k).head?≠some 48∧numE (wdS k)=if k=0 then (-1:Int) else ((k:Nat):Int):=by
 unfold wdS
 by_cases h0:k=0
 ·rw [if_pos h0,if_pos h0]
  exact ⟨rfl,by simp,by simp,rfl⟩
 ·rw [if_neg h0,if_neg h0]
  have h1:=List.all_eq_true.1 wd_all (k-1) (List.mem_range.2 (by omega))
  rw [Nat.sub_add_cancel (by omega)] at h1
  unfold wdOkB at h1
  simp only [Bool.and_eq_true,decide_eq_true_eq,bne_iff_ne] at h1
  exact ⟨h1.1.1.1,h1.1.1.2,h1.1.2,h1.2⟩
def backE (fl:Str) (k:Nat) (c:UInt8) (n:Str):Str:=numbE fl (numE (wdS k)) (-1) c (baseRes n (baseC c)).1
structure BackOk (fl:Str) (k:Nat) (c:UInt8) (n:Str):Prop where
 parts:partsOk false [.cnv fl (wdS k) c]=true
 err:(pcOut (.cnv fl (wdS k) c) n).2=0
 out:(pcOut (.cnv fl (wdS k) c) n).1=backE fl k c n
 len:(backE fl k c n).length≤65536
 wide:k≤(backE fl k c n).length
 scan:partsOk true [.cnv [] [] c]=true
 reads:ReadOk c (backE fl k c n)
 told:(readIn c (backE fl k c n)).1=txt (pVal n)
 no113:c≠113
theorem back_ok {fl:Str} (hfl:∀ x∈fl,x=45∨x=43∨x=48) {k:Nat} (hk:k≤300) {c:UInt8} (hc:c=100∨c=120∨c=111∨c=98) {n:Str} (hok:(baseRes n (baseC c)).2=0):BackOk fl k c n:=by
 obtain ⟨w1,w2,w3,w4⟩:=wd_facts hk
 have hb:2≤baseC c∧baseC c≤36∧c≠115∧c≠113∧isLet false c=true∧partsOk true [.cnv [] [] c]=true∧(signD [] c true).length=1:=by rcases hc with rfl | rfl | rfl | rfl<;>decide
 obtain ⟨hb2,hb36,h115,h113,hlet,hscan,-⟩:=hb
 have h32:fl.contains 32=false:=by
  rw [← Bool.not_eq_true,List.contains_iff_mem]
  intro h
  rcases hfl 32 h with e | e | e<;>exact absurd e (by decide)
 have h35:fl.contains 35=false:=by
  rw [← Bool.not_eq_true,List.contains_iff_mem]
  intro h
  rcases hfl 35 h with e | e | e<;>exact absurd e (by decide)
 obtain ⟨hn1,hn2⟩:=numb_back c hc fl h32 h35 (numE (wdS k)) n hok
 have hwr:pcOut (.cnv fl (wdS k) c) n=(backE fl k c n,0):=by
  show writeE fl (numE (wdS k)) (-1) c n=_
  unfold writeE numberE
  rw [if_neg h115,if_neg h113,if_pos hok]
  rfl
 have hlen:((backE fl k c n).length:Int)=max (numE (wdS k)) ((signD fl c (negD (baseRes n (baseC c)).1)++padD (-1) (bodyD c (baseRes n (baseC c)).1)).length:Nat):=spreadE_len _ _ _ _ _
 have hsg:(signD fl c (negD (baseRes n (baseC c)).1)).length≤1:=by
  unfold signD
  rw [h32,h35]
  split
  ·simp
  ·split<;>simp
 have hbd:(padD (-1) (bodyD c (baseRes n (baseC c)).1)).length≤3000:=by
  obtain ⟨-,hbig,he⟩:=baseRes_ok hb2 hb36 hok
  have h1:=strOf_length (baseC c) (pVal n).natAbs
  have h2:=dlen_big (baseC c) (pVal n).natAbs hb2 hbig
  have h3:(baseRes n (baseC c)).1.length≤2011:=by
   rw [he]
   unfold numText
   split
   ·simp
   ·split
    ·rw [List.length_cons];omega
    ·omega
  have h4:(bodyD c (baseRes n (baseC c)).1).length≤2011:=by
   unfold bodyD
   rw [if_neg (by rcases hc with rfl | rfl | rfl | rfl<;>decide)]
   split
   ·rw [List.length_tail];omega
   ·exact h3
  unfold padD
  rw [List.length_append,List.length_replicate]
  omega
 rw [List.length_append] at hlen
 refine ⟨?_,by rw [hwr],by rw [hwr],?_,?_,hscan,?_,?_,h113⟩
 ·show cnvOk false fl (wdS k) c=true
  unfold cnvOk
  rw [hlet,w1]
  simp only [Bool.true_and,Bool.and_true,Bool.not_false,Bool.true_or,Bool.and_eq_true,decide_eq_true_eq,bne_iff_ne,ne_eq]
  refine ⟨⟨List.all_eq_true.2 fun x hx=>?_,w2⟩,w3⟩
  rcases hfl x hx with rfl | rfl | rfl<;>decide
 ·rw [w4] at hlen
  split at hlen<;>omega
 ·rw [w4] at hlen
  split at hlen<;>omega
 ·unfold ReadOk
  rw [if_neg h115]
  exact hn1
 ·unfold readIn
  rw [if_neg h115]
  exact hn2
theorem can_three (s:Str):canRes s=([],2)∨canRes s=([],4)∨(canRes s=(txt (pVal s),0)∧∀ b:Nat,2≤b→b≤36→(baseRes s b).2=0):=by
 rw [canRes_eq]
 by_cases h:pOK s=true
 ·rw [if_pos h]
  by_cases hb:big600≤(pVal s).natAbs
  ·rw [resOf_big _ hb]
   exact .inr (.inl rfl)
  ·rw [resOf_small _ (by omega)]
   refine .inr (.inr ⟨rfl,fun b h2 h36=>?_⟩)
   unfold baseRes
   rw [if_pos h,if_neg (by omega),if_neg hb]
 ·rw [if_neg h]
  exact .inl rfl
theorem back_format {fl:Str} {k:Nat} {c:UInt8} {n:Str} (h:BackOk fl k c n) (hfl:fl.length≤10) (hk:k≤300) (hn:n.length≤1000) (w:World) :
  Calls Tryz.prog 14 #[.string ⟨(37::(fl++(wdS k++[c]))).toArray⟩,.slice (some ⟨w.heap.size,0,none⟩) 1 1] (w.alloc (.cells #[.string ⟨n.toArray⟩] 9)) fun e w'=>e=.returned (.tuple #[.string ⟨(backE fl k c n).toArray⟩,.int .i64 0,.int .i64 0])∧Below w.heap.size w w':=by
 obtain ⟨-,w2,-⟩:=wd_facts hk
 have hsh:shwAll [.cnv fl (wdS k) c]=37::(fl++(wdS k++[c])):=by show (37::(fl++(wdS k++[c])))++[]=_;rw [List.append_nil]
 have hout:outF [.cnv fl (wdS k) c] [n] 1=backE fl k c n:=by
  show []++(pcOut (.cnv fl (wdS k) c) n).1=_
  rw [List.nil_append]
  exact h.out
 have hf:=format_fn (ps:=[.cnv fl (wdS k) c]) (l:=[n]) h.parts _ (by rw [hsh];simp;omega) (by simp) (by simp;omega) (strs_new w [n]) (by simp [cntC]) (by
  intro j hj
  have hj0:j=0:=by simpa using hj
  subst hj0
  exact h.err) (by rw [show [Pc.cnv fl (wdS k) c].length=1 from rfl,hout];exact h.len) (by
  rintro ⟨a,b,hm⟩
  have:=List.mem_singleton.1 hm
  injection this with _ _ e
  exact absurd e.symm h.no113)
 rw [show [Pc.cnv fl (wdS k) c].length=1 from rfl,hout,hsh] at hf
 refine hf.mono fun e w' ⟨he,hb⟩=>⟨he,?_⟩
 exact (belowS _ _).trans (hb.mono (by simp))
theorem back_scan {fl:Str} {k:Nat} {c:UInt8} {n:Str} (h:BackOk fl k c n) (w:World) :
  Calls Tryz.prog 15 #[.string ⟨(backE fl k c n).toArray⟩,.string ⟨([37]++[c]).toArray⟩] w fun e w'=>∃ v,e=.returned (.tuple #[v,.int .i64 1,.int .i64 0])∧StrsAt w' v [txt (pVal n)]∧Below w.heap.size w w':=by
 have hl:=h.len
 have hs:=scan_fn (ps:=[.cnv [] [] c]) h.scan (s:=backE fl k c n) w (by simp [shwAll,Pc.shw]) (by omega) (by
  intro j hj
  have hj0:j=0:=by simpa using hj
  subst hj0
  exact h.reads) (by simp)
 have ht:(scanK [.cnv [] [] c] (backE fl k c n) 1).1=[txt (pVal n)]:=by
  show []++[(readIn c (backE fl k c n)).1]=_
  rw [h.told]
  rfl
 rw [show [Pc.cnv [] [] c].length=1 from rfl,ht] at hs
 exact hs
end Go.Proofs.YtbilphfbfnohmaaGreatDoor.Pz
namespace Go.Proofs.YtbilphfbfnohmaaGreatDoor.Pz
open Go.RowKit
theorem tab_belowB {P:Program} {w w':World} {name:String} {k:IntKind} {zs:List Int} (h:Lib.TabIs P w name k zs) (hb:Below w.heap.size w w'):Lib.TabIs P w' name k zs:=by
 unfold Lib.TabIs World.var? at *
 cases hg:P.globalNamed name with
 | none=>simp [hg] at h
 | some g=>
  simp only [hg,Option.bind_some] at h ⊢
  have hlt:g<w.heap.size:=by
   rcases Nat.lt_or_ge g w.heap.size with h' | h'
   ·exact h'
   ·rw [Array.getElem?_eq_none h'] at h;simp at h
  rw [hb.block g hlt]
  exact h
theorem let_at (m:Nat) (h:m<4):∃ c:UInt8,(⟨#[100,120,111,98]⟩:ByteArray).extract m (m+1)=⟨[c].toArray⟩∧(c=100∨c=120∨c=111∨c=98):=by
 have:m=0∨m=1∨m=2∨m=3:=by omega
 rcases this with rfl | rfl | rfl | rfl
 ·exact ⟨100,rfl,by simp⟩
 ·exact ⟨120,rfl,by simp⟩
 ·exact ⟨111,rfl,by simp⟩
 ·exact ⟨98,rfl,by simp⟩
def flagsC:Array Value:=#[.string ⟨#[45]⟩,.string ⟨#[43]⟩,.string ⟨#[48]⟩]
theorem flag_cell (i:Nat) (hi:i<3):∃ f:UInt8,flagsC[i]? = some (.string ⟨[f].toArray⟩)∧(f=45∨f=43∨f=48):=by
 have:i=0∨i=1∨i=2:=by omega
 rcases this with rfl | rfl | rfl
 ·exact ⟨45,rfl,by simp⟩
 ·exact ⟨43,rfl,by simp⟩
 ·exact ⟨48,rfl,by simp⟩
set_option maxRecDepth 1000000 in
set_option maxHeartbeats 4000000 in
theorem spellBack_fn (n:Str) (x:UInt8) (flags width:Int) (w:World) (hn:n.length≤1048576) (htab:TabW w) :
  Calls Tryz.prog 3 #[.string ⟨n.toArray⟩,.int .u8 (x.toNat:Nat),.int .i64 flags,.int .i64 width] w fun e w'=>e=.returned (.bool true)∧Below w.heap.size w w':=by
 have hnz:(⟨n.toArray⟩:ByteArray).size=n.length:=Lib.size_mk _
 have HC:=hid (canR_fn n (by omega) w)
 have HA:=hid awake_fn
 rcases can_three n with hc | hc | ⟨hc,hbase⟩
 ·rw [hc] at HC
  clear hc htab
  go_enter Tryz.func3,Tryz.ntmps3
  go_wp2_with (first|(go_at_call 11;(with_reducible refine HC.out.mono ?_);rintro e w1 ⟨rfl,hb1⟩;have HB1:=hid hb1;clear hb1)|(go_at_call 12;refine (HA.out _).mono ?_;rintro e w2 ⟨rfl,hb2⟩;have HB2:=hid (HB1.out.trans (hb2.mono HB1.out.size));clear hb2))
  go_ret
  exact ⟨rfl,HB2.out⟩
 ·rw [hc] at HC
  clear hc htab
  go_enter Tryz.func3,Tryz.ntmps3
  go_wp2_with (first|(go_at_call 11;(with_reducible refine HC.out.mono ?_);rintro e w1 ⟨rfl,hb1⟩;have HB1:=hid hb1;clear hb1)|(go_at_call 12;refine (HA.out _).mono ?_;rintro e w2 ⟨rfl,hb2⟩;have HB2:=hid (HB1.out.trans (hb2.mono HB1.out.size));clear hb2))
  go_ret
  exact ⟨rfl,HB2.out⟩
 ·rw [hc] at HC
  have HBASE:=hid hbase
  clear hc hbase
  by_cases h1:width<0
  ·have d1:decide (width<0)=true:=decide_eq_true h1
   clear htab
   go_enter Tryz.func3,Tryz.ntmps3
   go_wp2_with (first|(go_at_call 11;(with_reducible refine HC.out.mono ?_);rintro e w1 ⟨rfl,hb1⟩;have HB1:=hid hb1;clear hb1)|(go_at_call 12;refine (HA.out _).mono ?_;rintro e w2 ⟨rfl,hb2⟩;have HB2:=hid (HB1.out.trans (hb2.mono HB1.out.size));clear hb2))
   go_ret
   exact ⟨rfl,HB2.out⟩
  ·have d1:decide (width<0)=false:=decide_eq_false h1
   by_cases h2:300<width
   ·have d2:decide (300<width)=true:=decide_eq_true h2
    clear htab
    go_enter Tryz.func3,Tryz.ntmps3
    go_wp2_with (first|(go_at_call 11;(with_reducible refine HC.out.mono ?_);rintro e w1 ⟨rfl,hb1⟩;have HB1:=hid hb1;clear hb1)|(go_at_call 12;refine (HA.out _).mono ?_;rintro e w2 ⟨rfl,hb2⟩;have HB2:=hid (HB1.out.trans (hb2.mono HB1.out.size));clear hb2))
    go_ret
    exact ⟨rfl,HB2.out⟩
   ·have d2:decide (300<width)=false:=decide_eq_false h2
    by_cases h3:700<n.length
    ·have d3:decide ((700:Int)<(n.length:Int))=true:=decide_eq_true (by omega)
     have d3b:(700:Int)<(n.length:Int):=by omega
     clear htab
     go_enter Tryz.func3,Tryz.ntmps3
     go_wp2_with (first|(go_at_call 11;(with_reducible refine HC.out.mono ?_);rintro e w1 ⟨rfl,hb1⟩;have HB1:=hid hb1;clear hb1)|(go_at_call 12;refine (HA.out _).mono ?_;rintro e w2 ⟨rfl,hb2⟩;have HB2:=hid (HB1.out.trans (hb2.mono HB1.out.size));clear hb2))
     go_ret
     exact ⟨rfl,HB2.out⟩
    ·have d3:decide ((700:Int)<(n.length:Int))=false:=decide_eq_false (by omega)
     have d3b:¬ (700:Int)<(n.length:Int):=by omega
     obtain ⟨k,rfl⟩:∃ k:Nat,width=(k:Nat):=⟨width.toNat,by omega⟩
     have hk:k≤300:=by omega
     have hm4:x.toNat % 4<4:=Nat.mod_lt _ (by omega)
     obtain ⟨c,hcx,hcc⟩:=let_at (x.toNat % 4) hm4
     obtain ⟨m,hm⟩:∃ m,m=x.toNat % 4:=⟨_,rfl⟩
     have hmI:(x.toNat:Int) % 4=(m:Nat):=by omega
     have hmT:Int.tmod (x.toNat:Int) 4=(m:Nat):=by rw [Int.tmod_eq_emod_of_nonneg (by omega)];exact hmI
     rw [← hm] at hcx hm4
     have HCX:=hid hcx
     have HCC:=hid hcc
     have HT:=hid htab
     clear htab hcc hm
     go_enter Tryz.func3,Tryz.ntmps3
     go_wp2_with (first|(go_at_call 11;(with_reducible refine HC.out.mono ?_);rintro e w1 ⟨rfl,hb1⟩;have HB1:=hid hb1;clear hb1))
     obtain ⟨w2,hw2⟩:∃ w2,w2=w1.alloc (.cells flagsC 9):=⟨_,rfl⟩
     have HB2:=hid (show Below w.heap.size w w2 from by rw [hw2];exact HB1.out.trans ((belowS _ _).mono HB1.out.size))
     have HF2:=hid (show w2.heap[w1.heap.size]? = some (.cells flagsC 9 (0,0)) by rw [hw2];exact heap_alloc_new _ _)
     have HW2:=hid (show w1.alloc (.cells #[.string ⟨#[45]⟩,.string ⟨#[43]⟩,.string ⟨#[48]⟩] 9)=w2 from hw2.symm)
     clear hw2
     rw [HW2.out]
     go_loopg [12,50] 4 (fun z sv iv wr=>∃ (i:Nat) (fl:Str),sv=.string ⟨(37::fl).toArray⟩∧iv=.int .i64 (i:Nat)∧i≤3∧(∀ y∈fl,y=45∨y=43∨y=48)∧fl.length≤i∧wr=w2∧z=4-i)
     case atStart=>exact ⟨0,[],rfl,rfl,by omega,by simp,Nat.le_refl _,rfl,rfl⟩
     case round=>
      obtain ⟨i,fl,rfl,rfl,hi,hfl,hfll,hw,rfl⟩:=hrel
      subst hw
      have HFL:=hid hfl
      clear hfl
      by_cases hi3:i<3
      ·obtain ⟨f,hf,hff⟩:=flag_cell i hi3
       have cf:wr.cell? ⟨w1.heap.size,i,none⟩=some (.string ⟨[f].toArray⟩):=by rw [Lib.cell_of_heap HF2.out];exact hf
       have hi3I:(i:Int)<3:=by omega
       have HFF:=hid hff
       clear hf hff
       have hct:∀ u,(Op.stringOp .add ⟨(37::fl).toArray⟩ ⟨#[f]⟩).run Tryz.prog u=.ok (.string ⟨(37::(fl++[f])).toArray⟩) u:=fun u=>cat_run (37::fl) [f] (by simp;omega) (by simp) u
       have HFL2:=hid (show ∀ y∈fl++[f],y=45∨y=43∨y=48 from fun y hy=>by
        rcases List.mem_append.1 hy with h | h
        ·exact HFL.out y h
        ·rw [List.mem_singleton.1 h];exact HFF.out)
       go_wp2_with fail
       ·go_roundg (4-(i+1))
        case measure=>omega
        case rel=>exact ⟨i+1,_,rfl,by go_num,by omega,by first | exact HFL2.out | exact HFL.out,by first | omega|(rw [List.length_append];simp;omega),rfl,rfl⟩
       ·go_roundg (4-(i+1))
        case measure=>omega
        case rel=>exact ⟨i+1,_,rfl,by go_num,by omega,by first | exact HFL2.out | exact HFL.out,by first | omega|(rw [List.length_append];simp;omega),rfl,rfl⟩
      ·have hi3I:¬ (i:Int)<3:=by omega
       have HOK:=hid (back_ok HFL.out hk HCC.out (HBASE.out (baseC c) (by rcases HCC.out with rfl | rfl | rfl | rfl<;>decide) (by rcases HCC.out with rfl | rfl | rfl | rfl<;>decide)))
       have HFM:=hid (fun u=>back_format HOK.out (by omega) hk (by omega) u)
       have HSC:=hid (fun u=>(show Calls Tryz.prog 15 #[.string ⟨(backE fl k c n).toArray⟩,.string ⟨#[37,c]⟩] u fun e w'=>∃ v,e=.returned (.tuple #[v,.int .i64 1,.int .i64 0])∧StrsAt w' v [txt (pVal n)]∧Below u.heap.size u w' from back_scan HOK.out u))
       have hct3:∀ u,(Op.stringOp .add ⟨#[37]⟩ ⟨#[c]⟩).run Tryz.prog u=.ok (.string ⟨#[37,c]⟩) u:=fun u=>cat_run [37] [c] (by simp) (by simp) u
       obtain ⟨E,hE⟩:∃ E,E=backE fl k c n:=⟨_,rfl⟩
       have hwide:(k:Int)≤(E.length:Int):=by have:=HOK.out.wide;rw [← hE] at this;omega
       have hEl:E.length≤65536:=by have:=HOK.out.len;rw [← hE] at this;exact this
       rw [← hE] at HFM HSC
       have hEz:(⟨E.toArray⟩:ByteArray).size=E.length:=Lib.size_mk _
       obtain ⟨TX,hTX⟩:∃ TX,TX=txt (pVal n):=⟨_,rfl⟩
       rw [← hTX] at HSC
       rw [← hTX]
       clear hE hTX HOK HBASE
       by_cases hk1:0<k
       ·have hk1I:(0:Int)<(k:Int):=by omega
        have HOF:=hid (ofR_pos k hk1 (by omega) wr (tab_belowB HT.out HB2.out))
        obtain ⟨-,hwl,-⟩:=wd_facts hk
        have hwdk:wdS k=strOf 10 k:=if_neg (by omega)
        rw [← hwdk] at HOF
        have hct1:∀ u,(Op.stringOp .add ⟨(37::fl).toArray⟩ ⟨(wdS k).toArray⟩).run Tryz.prog u=.ok (.string ⟨(37::(fl++wdS k)).toArray⟩) u:=fun u=>cat_run (37::fl) (wdS k) (by simp;omega) (by omega) u
        have hct2:∀ u,(Op.stringOp .add ⟨(37::(fl++wdS k)).toArray⟩ ⟨#[c]⟩).run Tryz.prog u=.ok (.string ⟨(37::(fl++(wdS k++[c]))).toArray⟩) u:=fun u=>by have h:=cat_run (37::(fl++wdS k)) [c] (by simp;omega) (by simp) u;rw [List.cons_append,List.append_assoc] at h;exact h
        obtain ⟨sp,hsp⟩:∃ sp,sp=37::(fl++(wdS k++[c])):=⟨_,rfl⟩
        rw [← hsp] at HFM hct2
        obtain ⟨wd,hwd⟩:∃ wd,wd=wdS k:=⟨_,rfl⟩
        rw [← hwd] at HOF hct1 hct2
        clear hsp hwd hwdk hwl
        go_wp2_with (go_at_call 13;(with_reducible refine HOF.out.mono ?_);rintro e w3 ⟨rfl,hb3⟩;have HB3:=hid (HB2.out.trans (hb3.mono HB2.out.size));clear hb3)
        (with_reducible refine (HFM.out _).mono ?_);rintro e w4 ⟨rfl,hb4⟩
        have hs3:=HB3.out.size
        have HB4:=hid (HB3.out.trans (hb4.mono hs3))
        clear hb4 HFM
        go_wp2_with fail
        (with_reducible refine (HSC.out _).mono ?_);rintro e w5 ⟨v5,rfl,hr5,hb5⟩
        have hs4:=HB4.out.size
        have HB5:=hid (HB4.out.trans (hb5.mono hs4))
        have hs5:=HB5.out.size
        have HR5:=hid hr5
        obtain ⟨a5,c5,he5,-⟩:=strsAt_off hr5
        subst he5
        clear hb5 hr5 HSC
        have HSM:=hid (sameG_fn (w:=w5.alloc (.cells #[.string ⟨TX.toArray⟩] 9)) (HR5.out.below (belowS _ _)) (strs_new w5 [TX]) (by simp) (by simp))
        have HSM2:=hid (show Calls Tryz.prog 16 #[.slice a5 1 c5,.slice (some ⟨w5.heap.size,0,none⟩) 1 1] (w5.alloc (.cells #[.string ⟨TX.toArray⟩] 9)) fun e w'=>e=.returned (.bool true)∧Below (w5.heap.size+1) (w5.alloc (.cells #[.string ⟨TX.toArray⟩] 9)) w' from by
         have h:=HSM.out
         simp only [World.size_alloc,decide_true] at h
         exact h)
        clear HSM
        go_wp2_with (first|(go_at_call 16;refine HSM2.out.mono ?_;rintro e w6 ⟨rfl,hb6⟩;have HB6:=hid (HB5.out.trans ((belowS w5 (.cells #[.string ⟨TX.toArray⟩] 9)).mono hs5 |>.trans (hb6.mono (by omega))));clear hb6)|(go_at_call 12;refine (HA.out _).mono ?_;rintro e w7 ⟨rfl,hb7⟩;have HB7:=hid (HB6.out.trans (hb7.mono HB6.out.size));clear hb7))
        go_ret
        exact ⟨rfl,HB7.out⟩
       ·have hk0:k=0:=by omega
        subst hk0
        have hct2:∀ u,(Op.stringOp .add ⟨(37::fl).toArray⟩ ⟨#[c]⟩).run Tryz.prog u=.ok (.string ⟨(37::(fl++(wdS 0++[c]))).toArray⟩) u:=fun u=>cat_run (37::fl) [c] (by simp;omega) (by simp) u
        obtain ⟨sp,hsp⟩:∃ sp,sp=37::(fl++(wdS 0++[c])):=⟨_,rfl⟩
        rw [← hsp] at HFM hct2
        clear hsp
        go_wp2_with fail
        (with_reducible refine (HFM.out _).mono ?_);rintro e w4 ⟨rfl,hb4⟩
        have hs3:=HB2.out.size
        have HB4:=hid (HB2.out.trans (hb4.mono hs3))
        clear hb4 HFM
        go_wp2_with fail
        (with_reducible refine (HSC.out _).mono ?_);rintro e w5 ⟨v5,rfl,hr5,hb5⟩
        have hs4:=HB4.out.size
        have HB5:=hid (HB4.out.trans (hb5.mono hs4))
        have hs5:=HB5.out.size
        have HR5:=hid hr5
        obtain ⟨a5,c5,he5,-⟩:=strsAt_off hr5
        subst he5
        clear hb5 hr5 HSC
        have HSM:=hid (sameG_fn (w:=w5.alloc (.cells #[.string ⟨TX.toArray⟩] 9)) (HR5.out.below (belowS _ _)) (strs_new w5 [TX]) (by simp) (by simp))
        have HSM2:=hid (show Calls Tryz.prog 16 #[.slice a5 1 c5,.slice (some ⟨w5.heap.size,0,none⟩) 1 1] (w5.alloc (.cells #[.string ⟨TX.toArray⟩] 9)) fun e w'=>e=.returned (.bool true)∧Below (w5.heap.size+1) (w5.alloc (.cells #[.string ⟨TX.toArray⟩] 9)) w' from by
         have h:=HSM.out
         simp only [World.size_alloc,decide_true] at h
         exact h)
        clear HSM
        go_wp2_with (first|(go_at_call 16;refine HSM2.out.mono ?_;rintro e w6 ⟨rfl,hb6⟩;have HB6:=hid (HB5.out.trans ((belowS w5 (.cells #[.string ⟨TX.toArray⟩] 9)).mono hs5 |>.trans (hb6.mono (by omega))));clear hb6)|(go_at_call 12;refine (HA.out _).mono ?_;rintro e w7 ⟨rfl,hb7⟩;have HB7:=hid (HB6.out.trans (hb7.mono HB6.out.size));clear hb7))
        go_ret
        exact ⟨rfl,HB7.out⟩
end Go.Proofs.YtbilphfbfnohmaaGreatDoor.Pz
