/-
  The document's texts of numbers: haymowref03. No conditions.
-/
import Derived.Test.YtlgnboohmahbaaaGreatDoorS13a
import Derived.Test.YtlgnboohmahbaaaGreatDoorT3
import Derived.Test.YtlgnboohmahbaaaGreatDoorT1
import Derived.Test.YtlgnboohmahbaaaGreatDoorI4
set_option linter.unusedVariables false
set_option linter.unusedSimpArgs false
set_option linter.constructorNameAsVariable false
set_option linter.unusedSimpArgs false
set_option linter.unusedVariables false
set_option maxHeartbeats 2000000
namespace Go.Abs.Tryz
open Go Go.Abs
variable {O:Type}
theorem acj (v:Nat):Int.tdiv (v:Int) 10=((v / 10:Nat):Int):=(Int.ofNat_tdiv v 10).symm
theorem NX:∀ bs:Bs,dO (bs.map fun c=>.i .u8 (c.toNat:Int))=some bs
  |[]=>rfl
  |c::bs=>by
    have:=NX bs
    simp only [List.map_cons,dO,this,Option.map_some];simp
theorem Jt {σ:AH O} {el b:Nat} {x:AV}:(σ.put b (.cells true el [x])).bC (.loc (.n b) 0 1) 1 1=some [x]:=by
  have:Rd (σ.put b (.cells true el [x])) 1 (.loc (.n b) 0 1) 1 [x]:=⟨rfl,rfl,[x],by simp [AH.cs],by simp,rfl⟩
  exact this.bC
theorem NY {u:Nat} (hu:u<18446744073709551616):(gP u).length ≤ 20:=NR (by decide) (Nat.lt_trans hu (by decide))
theorem xW {n:Int} (h:Kf n):(cw n).length ≤ 21:=by
  obtain ⟨h0,h1⟩:=h
  unfold cw;split
  · have:=NY (u:=(-n).toNat) (by omega);simp;omega
  · have:=NY (u:=n.toNat) (by omega);omega
end Go.Abs.Tryz
namespace Go.Abs.Tryz
open Go Go.Abs
variable {O:Type}
theorem WT {k:Nat} (h:k<16):16 ^ k*16 ≤ 18446744073709551616:=by
  have:16 ^ (k+1) ≤ 16 ^ 16:=Nat.pow_le_pow_right (by omega) (by omega)
  rw [Nat.pow_succ] at this;exact this
def UX (s:Bs):AV:=.aS [.i .i64 (tK s).1,.i .i64 ((tK s).2:Int)]
end Go.Abs.Tryz
namespace Go.Abs.Tryz
open Go Go.Abs
variable {O:Type}
def UY:Bs:=[48,49,50,51,52,53,54,55,56,57,97,98,99,100,101,102]
theorem ack:∀ n,n<256 → Lib.indexByte UY (UInt8.ofNat n)=(match HO (UInt8.ofNat n) with |some d=>(d:Int) |none => -1):=by decide +kernel
theorem ago (c:UInt8):Lib.indexByte UY c=(match HO c with |some d=>(d:Int) |none => -1):=by
  have:=ack c.toNat (UInt8.toNat_lt c)
  rw [UInt8.ofNat_toNat] at this;exact this
theorem agp {c:UInt8} {d:Nat} (h:HO c=some d):d<16:=(NS h).2
theorem agq {σ:AH O} {c:UInt8}:il [.s UY,.i .u8 (c.toNat:Int)] σ=some (.i .i64 (match HO c with |some d=>(d:Int) |none => -1),σ):=by
  have e:((c.toNat:Nat):Int).toNat.toUInt8=c:=by rw [Int.toNat_natCast];simp
  have h0:stringslite_IndexByte [.s UY,.i .u8 (c.toNat:Int)] σ=some (.i .i64 (match HO c with |some d=>(d:Int) |none => -1),σ):=by
    simp only [stringslite_IndexByte,e,ago]
  simp (maxSteps:=2000000) -implicitDefEqProofs (disch:=(first |omega |rfl |assumption |(simp only [aK];first |omega |assumption))) only [il,jP,h0,Nat.reduceAdd,Nat.reduceMul,Nat.reduceLT,Int.reduceToNat,Int.reduceAdd,Int.reduceSub,Int.reduceMul,aB,aX]
def acm (s:Bs):AV:=match O6 s with |some w=>.aS [.i .u64 (w:Int),.i .i64 0] |none=>.aS [.i .u64 0,.i .i64 5]
theorem UZ {σ:AH O} {s:Bs}:Ok (ck [.s s] σ) fun r=>r=(acm s,σ):=by
  by_cases hl:s.length=16
  · have f0:(((s.length:Int):Int) != 16)=false:=by simp [hl]
    simp (maxSteps:=2000000) -implicitDefEqProofs (disch:=(first |omega |rfl |assumption |(simp only [aK];first |omega |assumption))) only [ck,jq,f0,Nat.reduceAdd,Nat.reduceMul,Nat.reduceLT,Int.reduceToNat,Int.reduceAdd,Int.reduceSub,Int.reduceMul,aB,aX]
    have hh:acm s=match wb 0 s with |some w=>.aS [.i .u64 (w:Int),.i .i64 0] |none=>.aS [.i .u64 0,.i .i64 5]:=by unfold acm O6;rw [if_pos hl]
    refine Ok.bK (Q:=fun r=>match r with |.inl q=>∃ w:Nat,q=([.i .u64 (w:Int)],σ) ∧ wb 0 s=some w |.inr r=>wb 0 s=none ∧ r=(.aS [.i .u64 0,.i .i64 5],σ)) ?_ ?_ ?_
    · refine Ok.count 16 (fun k q=>∃ v:Nat,q=([.i .u64 (v:Int),.i .i64 (k:Int)],σ) ∧ v<16 ^ k ∧ wb 0 s=wb v (s.drop k)) ?_ ?_ ⟨0,rfl,by simp,by simp⟩
      · rintro k _ hk ⟨v,rfl,hv,hf⟩
        have hp:=WT hk
        have dk:decide ((k:Int)<(s.length:Int))=true:=decide_eq_true (by omega)
        have d0:decide ((0:Int) ≤ (k:Int))=true:=decide_eq_true (by omega)
        have e1:IntKind.i64.wrap ((k:Int)+1)=((k+1:Nat):Int):=by rw [bJ (by omega) (by omega)];omega
        have hg:s[k]? = some s[k]:=List.getElem?_eq_getElem (by omega)
        have hd:s.drop k=s[k]::s.drop (k+1):=List.drop_eq_getElem_cons (by omega)
        rw [hd,wb] at hf
        generalize s[k]=c at*
        have ix:=agq (σ:=σ) (c:=c)
        unfold UY at ix
        cases fv:HO c with
        |none=>
          rw [fv] at hf ix
          have d1:decide ((-1:Int)<0)=true:=rfl
          simp (maxSteps:=2000000) -implicitDefEqProofs (disch:=(first |omega |rfl |assumption |(simp only [aK];first |omega |assumption))) only [ir,dk,d0,Int.toNat_natCast,hg,ix,d1,Nat.reduceAdd,Nat.reduceMul,Nat.reduceLT,Int.reduceToNat,Int.reduceAdd,Int.reduceSub,Int.reduceMul,aB,aX]
          exact U.2 ⟨hf,rfl⟩
        |some d=>
          rw [fv] at hf ix
          have hd:=agp fv
          have d1:decide ((d:Int)<0)=false:=decide_eq_false (by omega)
          have ew:bE .or .u64 (IntKind.u64.wrap ((v:Int)*2 ^ 4)) (IntKind.u64.wrap (d:Int))=((v*16+d:Nat):Int):=by
            rw [uY (n:=(v:Int)*2 ^ 4) (by omega) (by omega),uY (n:=(d:Int)) (by omega) (by omega)]
            rw [aaf (by omega) (by omega) (by omega) (by omega)]
            have:=Nat.two_pow_add_eq_or_of_lt (i:=4) (b:=d) (by omega) v
            have e3:((v:Int)*2 ^ 4).toNat=2 ^ 4*v:=by omega
            rw [e3,Int.toNat_natCast,← this];omega
          simp -implicitDefEqProofs only [ir,dk,d0,Int.toNat_natCast,hg,ix,d1,ew,e1,Nat.reduceAdd,Nat.reduceMul,Nat.reduceLT,Int.reduceToNat,Int.reduceAdd,Int.reduceSub,Int.reduceMul,aB,ak,ao,au,aw,ax,ay,az,ah,Nat.reduceLeDiff,decide_true,decide_false]
          exact U.2 ⟨_,rfl,by rw [Nat.pow_succ];omega,hf⟩
      · rintro _ ⟨v,rfl,hv,hf⟩
        have dk:decide (((16:Nat):Int)<(s.length:Int))=false:=by rw [hl];rfl
        simp (maxSteps:=2000000) -implicitDefEqProofs (disch:=(first |omega |rfl |assumption |(simp only [aK];first |omega |assumption))) only [ir,dk,Nat.reduceAdd,Nat.reduceMul,Nat.reduceLT,Int.reduceToNat,Int.reduceAdd,Int.reduceSub,Int.reduceMul,aB,aX]
        exact U.2 ⟨v,rfl,by rw [hf,List.drop_eq_nil_of_le (by omega)];rfl⟩
    · rintro q ⟨w,rfl,hf⟩
      simp (maxSteps:=2000000) -implicitDefEqProofs (disch:=(first |omega |rfl |assumption |(simp only [aK];first |omega |assumption))) only [Nat.reduceAdd,Nat.reduceMul,Nat.reduceLT,Int.reduceToNat,Int.reduceAdd,Int.reduceSub,Int.reduceMul,aB,aX]
      exact U.2 (by rw [hh,hf])
    · rintro r ⟨hf,rfl⟩
      rw [hh,hf]
  · have f0:(((s.length:Int):Int) != 16)=true:=by simp;omega
    simp (maxSteps:=2000000) -implicitDefEqProofs (disch:=(first |omega |rfl |assumption |(simp only [aK];first |omega |assumption))) only [ck,jq,f0,Nat.reduceAdd,Nat.reduceMul,Nat.reduceLT,Int.reduceToNat,Int.reduceAdd,Int.reduceSub,Int.reduceMul,aB,aX]
    exact U.2 (by unfold acm O6;rw [if_neg hl])
end Go.Abs.Tryz
namespace Go.Abs.Tryz
open Go Go.Abs
variable {O:Type}
def EV (c:UInt8):AV:=.i .u8 (c.toNat:Int)
theorem st1 {σ:AH O} {b el:Nat} {cs:List AV} {j:Nat} {x:AV} (h:σ.ai b=some (.cells true el cs)) (hj:j<cs.length):σ.st (.n b) j [x]=some (σ.put b (.cells true el (cs.set j x))):=by
  have e:cs.take j++[x]++cs.drop (j+1)=cs.set j x:=by rw [List.set_eq_take_append_cons_drop,if_pos hj];simp
  simp only [AH.st,h]
  rw [Nat.ble_eq_true_of_le (by simp;omega)]
  simp only [List.length_cons,List.length_nil,Nat.zero_add,cond_true]
  rw [e]
theorem anw {σ:AH O} {b el:Nat} {cs:List AV} {o n:Nat} (h:σ.ai b=some (.cells true el cs)) (hn:o+n ≤ cs.length):σ.bC (.ar (.n b) o 1) n 1=some ((cs.drop o).take n):=by
  simp only [AH.bC,AH.O8,h]
  rw [Nat.mul_one,Nat.ble_eq_true_of_le hn];rfl
def sI (b:Bool) (v:Nat):Int:=if b then -(v:Int) else v
theorem ahJ (b:Bool) (v:Nat):Int.tmod (sI b v) 10=sI b (v % 10):=by
  cases b
  · rfl
  · simp only [sI,if_true,Int.neg_tmod];rfl
theorem ahK (b:Bool) (v:Nat):Int.tdiv (sI b v) 10=sI b (v / 10):=by
  cases b
  · exact acj v
  · simp only [sI,if_true,Int.neg_tdiv];rw [acj]
theorem ar2 {b:Bool} {r:Nat} (hr:r<10):(if IntKind.i64.wrap (0 - sI b r) > sI b r then IntKind.i64.wrap (0 - sI b r) else sI b r)=(r:Int):=by
  have:IntKind.i64.wrap (0 - sI b r)=0 - sI b r:=bJ (by unfold sI;split<;>omega) (by unfold sI;split<;>omega)
  rw [this];unfold sI;split<;>split<;>omega
theorem U2 {σ gJ:AH O} {sg:Bool} {u:Nat} (hu:u ≤ 9223372036854775808) (hs:sg=false → u ≤ 9223372036854775807) {cs:List AV} (hl:cs.length=20) (hb:σ.ai gJ.next=some (.cells true 139 cs)) (E:Ext gJ σ) (bS:gJ.next<σ.next):
    Ok (aQ (S:=List AV × AH O) (T:=List AV × AH O) (mh gJ) ([.i .i64 20,.i .i64 (sI sg u)],σ)) fun r=>∃ (i:Nat) (cs:List AV),r.1=[.i .i64 (i:Int)] ∧ i<20 ∧ cs.length=20 ∧ r.2.ai gJ.next=some (.cells true 139 cs) ∧ Ext gJ r.2 ∧ cs.drop i=(gP u).map EV:=by
  have kQ:u<10 ^ (19+1):=by
    have:(10:Nat) ^ (19+1)=100000000000000000000:=by decide
    omega
  refine Ok.loop (fun m (s:List AV × AH O)=>∃ (v j:Nat) (t:Bs) (cs:List AV) (aj:AH O),s=([.i .i64 ((j+1:Nat):Int),.i .i64 (sI sg v)],aj) ∧ m=j ∧ j<20 ∧ v<10 ^ (j+1) ∧ v ≤ u ∧ cs.length=20 ∧ aj.ai gJ.next=some (.cells true 139 cs) ∧ Ext gJ aj ∧ cs.drop (j+1)=t.map EV ∧ gP u=gP v++t) ?_ 19 _ ⟨u,19,[],cs,σ,rfl,rfl,by omega,kQ,by omega,hl,hb,E,by simp [hl],by simp⟩
  rintro j _ ⟨v,j',t,cs,aj,rfl,rfl,hj,hv,hvu,hl,hb,E,hd,ht⟩
  have e1:IntKind.i64.wrap (((j+1:Nat):Int) - 1)=(j:Int):=by rw [bJ (by omega) (by omega)];omega
  have d0:decide ((0:Int) ≤ (j:Int))=true:=decide_eq_true (by omega)
  have d1:decide ((j:Int)<20)=true:=decide_eq_true (by omega)
  have ab:=ar2 (b:=sg) (r:=v % 10) (by omega)
  have ew1:IntKind.u8.wrap (IntKind.i64.wrap (48+((v % 10:Nat):Int)))=(((UInt8.ofNat (48+v % 10)).toNat:Nat):Int):=by
    rw [bJ (by omega) (by omega),aae (by omega) (by omega),u8n (by omega)];omega
  have ew2:IntKind.i64.wrap (sI sg (v / 10))=sI sg (v / 10):=bJ (by unfold sI;split<;>omega) (by unfold sI;split<;>omega)
  have dg:gP v=if v<10 then [UInt8.ofNat (48+v % 10)] else gP (v / 10)++[UInt8.ofNat (48+v % 10)]:=by
    rw [gP];split
    · rw [Nat.mod_eq_of_lt (by assumption)]
    · rfl
  have lP:=st1 (x:=.i .u8 (((UInt8.ofNat (48+v % 10)).toNat:Nat):Int)) hb (j:=j) (by omega)
  have jj:0+j*1=j:=by omega
  have lP:stM aj gJ.next (aj.ai gJ.next) j [.i .u8 (((UInt8.ofNat (48+v % 10)).toNat:Nat):Int)]=some (aj.put gJ.next (.cells true 139 (cs.set j (.i .u8 (((UInt8.ofNat (48+v % 10)).toNat:Nat):Int))))):=lP
  have Y2:(cs.set j (.i .u8 (((UInt8.ofNat (48+v % 10)).toNat:Nat):Int))).drop j=(UInt8.ofNat (48+v % 10)::t).map EV:=by
    rw [List.drop_eq_getElem_cons (by simp;omega)]
    simp only [List.getElem_set_self,List.map_cons,EV]
    rw [List.drop_set_of_lt (by omega),hd]
  have hv9:v / 10<10 ^ j:=by rw [Nat.pow_succ] at hv;omega
  by_cases h9:v<10
  · have z:((sI sg (v / 10):Int) == 0)=true:=by
      have:v / 10=0:=by omega
      rw [this];cases sg<;>rfl
    simp -implicitDefEqProofs only [mh,e1,d0,d1,ahJ,ahK,ab,ew1,ew2,Int.toNat_natCast,jj,lP,z,Nat.reduceAdd,Nat.reduceMul,Nat.reduceLT,Int.reduceToNat,Int.reduceAdd,Int.reduceSub,Int.reduceMul,aB,ak,ao,au,aw,ax,ay,az,ah,Nat.reduceLeDiff,decide_true,decide_false]
    refine U.2 ⟨j,_,rfl,hj,by simp [hl],cH,E.put (Nat.le_refl _) _,?_⟩
    rw [Y2,ht,dg,if_pos h9];rfl
  · have z:((sI sg (v / 10):Int) == 0)=false:=by
      have:v / 10≠0:=by omega
      unfold sI;cases sg<;>simp<;>omega
    simp -implicitDefEqProofs only [mh,e1,d0,d1,ahJ,ahK,ab,ew1,ew2,Int.toNat_natCast,jj,lP,z,Nat.reduceAdd,Nat.reduceMul,Nat.reduceLT,Int.reduceToNat,Int.reduceAdd,Int.reduceSub,Int.reduceMul,aB,ak,ao,au,aw,ax,ay,az,ah,Nat.reduceLeDiff,decide_true,decide_false]
    have hj0:j≠0:=fun h=>by subst h;simp at hv9;omega
    obtain ⟨k,rfl⟩:∃ k,j=k+1:=⟨j - 1,by omega⟩
    refine U.2 ⟨k,by omega,v / 10,k,_,_,_,rfl,rfl,by omega,hv9,by omega,by simp [hl],cH,E.put (Nat.le_refl _) _,Y2,?_⟩
    rw [ht,dg,if_neg h9];simp
theorem HT {σ:AH O} {n:Int} (h:Kf n):Ok (lr [.i .i64 n] σ) fun r=>r.1=.s (cw n) ∧ Ext σ r.2:=by
  obtain ⟨h0,h1⟩:=h
  obtain ⟨sg,u,hn,hu,hs,Zd⟩:∃ (sg:Bool) (u:Nat),n=sI sg u ∧ u ≤ 9223372036854775808 ∧ (sg=false → u ≤ 9223372036854775807) ∧ (sg=decide (n<0)):=by
    by_cases hn:n<0
    · exact ⟨true,(-n).toNat,by simp [sI];omega,by omega,fun h=>(by cases h),(decide_eq_true hn).symm⟩
    · exact ⟨false,n.toNat,by simp [sI];omega,by omega,fun _=>by omega,(decide_eq_false hn).symm⟩
  simp (maxSteps:=2000000) -implicitDefEqProofs (disch:=(first |omega |rfl |assumption |(simp only [aK];first |omega |assumption))) only [lr,vg,Nat.reduceAdd,Nat.reduceMul,Nat.reduceLT,Int.reduceToNat,Int.reduceAdd,Int.reduceSub,Int.reduceMul,aB,aX]
  generalize dP:(σ.bump 1).put σ.next (oM.cells true 139 _)=aJ
  have hb:∃ cs,cs.length=20 ∧ aJ.ai σ.next=some (.cells true 139 cs):=⟨_,rfl,by rw [← dP];exact cH⟩
  have E:Ext σ aJ:=by rw [← dP];exact ((Ext.refl σ).bump 1).put (Nat.le_refl _) _
  have Xl:aJ.next=σ.next+1:=by rw [← dP];rfl
  clear dP
  obtain ⟨cs,hl,hb⟩:=hb
  have tl:=U2 (O:=O) hu hs hl hb E (by omega)
  rw [← hn] at tl
  refine Ok.step tl ?_
  rintro ⟨q,aP⟩ ⟨i,Wt,rfl,hi,hl2,Dm,E2,hd⟩
  simp only at Dm E2
  have d0:decide ((0:Int) ≤ (i:Int))=true:=decide_eq_true (by omega)
  have d1:decide ((i:Int)<20)=true:=decide_eq_true (by omega)
  have ii:0+i*1=i:=by omega
  have rr:=anw Dm (o:=i) (n:=20 - i) (by omega)
  rw [List.take_of_length_le (by simp;omega),hd] at rr
  have ab:dO ((gP u).map EV)=some (gP u):=NX _
  have t1:(true && true)=true:=rfl
  have Gk:(gP u).length ≤ 20:=NY (by omega)
  cases sg with
  |true=>
    have U3:decide (n<0)=true:=Zd.symm
    have bl:Nat.ble (1+(gP u).length) 9223372036854775807=true:=Nat.ble_eq_true_of_le (by omega)
    have e2:cw n=45::gP u:=by
      have:n<0:=of_decide_eq_true U3
      have e3:(-n).toNat=u:=by rw [hn];simp [sI]
      rw [cw,if_pos this,e3]
    simp -implicitDefEqProofs only [U3,d0,d1,t1,ii,Int.toNat_natCast,rr,ab,Nat.reduceAdd,Nat.reduceMul,Nat.reduceLT,Int.reduceToNat,Int.reduceAdd,Int.reduceSub,Int.reduceMul,aB,ak,ao,au,aw,ax,ay,az,ah,Nat.reduceLeDiff,decide_true,decide_false]
    simp (maxSteps:=2000000) -implicitDefEqProofs (disch:=(first |omega |rfl |assumption |(simp only [aK];first |omega |assumption))) only [bl,List.length_cons,List.length_nil,Nat.reduceAdd,Nat.reduceMul,Nat.reduceLT,Int.reduceToNat,Int.reduceAdd,Int.reduceSub,Int.reduceMul,aB,aX]
    exact U.2 ⟨by rw [e2],E2⟩
  |false=>
    have U3:decide (n<0)=false:=Zd.symm
    have e2:cw n=gP u:=by
      have:¬ n<0:=of_decide_eq_false U3
      have e3:n.toNat=u:=by rw [hn];simp [sI]
      rw [cw,if_neg this,e3]
    simp -implicitDefEqProofs only [U3,d0,d1,t1,ii,Int.toNat_natCast,rr,ab,Nat.reduceAdd,Nat.reduceMul,Nat.reduceLT,Int.reduceToNat,Int.reduceAdd,Int.reduceSub,Int.reduceMul,aB,ak,ao,au,aw,ax,ay,az,ah,Nat.reduceLeDiff,decide_true,decide_false]
    exact U.2 ⟨by rw [e2],E2⟩
end Go.Abs.Tryz
namespace Go.Abs.Tryz
open Go Go.Abs
variable {O:Type}
theorem U4:∀ (m w k:Nat),k<m → (Gb m w)[k]? = some (fig (w / 16 ^ (m - 1 - k) % 16))
  |0,_,_,h=>by omega
  |m+1,w,k,h=>by
    rw [Gb]
    by_cases hk:k<m
    · rw [List.getElem?_append_left (by rw [jf];exact hk),U4 m (w / 16) k hk,Nat.div_div_eq_div_mul]
      have:16*16 ^ (m - 1 - k)=16 ^ (m+1 - 1 - k):=by rw [show m+1 - 1 - k=(m - 1 - k)+1 by omega,Nat.pow_succ,Nat.mul_comm]
      rw [this]
    · have:k=m:=by omega
      subst this
      rw [List.getElem?_append_right (by rw [jf];omega),jf]
      simp
theorem acn:∀ d,d<16 → ([48,49,50,51,52,53,54,55,56,57,97,98,99,100,101,102]:List UInt8)[d]? = some (fig d):=by decide
theorem agr {σ:AH O} {w:Nat} (hw:w<18446744073709551616):Ok (oh [.i .u64 (w:Int)] σ) fun r=>r.1=.s (HP w) ∧ Ext σ r.2:=by
  simp (maxSteps:=2000000) -implicitDefEqProofs (disch:=(first |omega |rfl |assumption |(simp only [aK];first |omega |assumption))) only [oh,yB,Nat.reduceAdd,Nat.reduceMul,Nat.reduceLT,Int.reduceToNat,Int.reduceAdd,Int.reduceSub,Int.reduceMul,aB,aX]
  generalize dP:(σ.bump 1).put σ.next (oM.cells true 140 _)=aJ
  have hb:∃ cs,cs.length=16 ∧ aJ.ai σ.next=some (.cells true 140 cs):=⟨_,rfl,by rw [← dP];exact cH⟩
  have E:Ext σ aJ:=by rw [← dP];exact ((Ext.refl σ).bump 1).put (Nat.le_refl _) _
  clear dP
  obtain ⟨cs,hl,hb⟩:=hb
  refine Ok.step (Q:=fun r=>∃ cs,r.1=[] ∧ r.2.ai σ.next=some (.cells true 140 cs) ∧ cs=(HP w).map EV ∧ Ext σ r.2) ?_ ?_
  · refine Ok.count 16 (fun k s=>∃ (cs:List AV) (aj:AH O),s=([.i .i64 (k:Int)],aj) ∧ cs.length=16 ∧ aj.ai σ.next=some (.cells true 140 cs) ∧ Ext σ aj ∧ ∀ j,j<k → cs[j]? = ((HP w).map EV)[j]?) ?_ ?_ ⟨cs,aJ,rfl,hl,hb,E,fun j h=>by omega⟩
    · rintro k _ hk ⟨cs,aj,rfl,hl,hb,E,hc⟩
      have dk:decide ((k:Int)<16)=true:=decide_eq_true (by omega)
      have d0:decide ((0:Int) ≤ (k:Int))=true:=decide_eq_true (by omega)
      have e1:IntKind.i64.wrap ((k:Int)+1)=((k+1:Nat):Int):=by rw [bJ (by omega) (by omega)];omega
      have e5:IntKind.i64.wrap (60 - IntKind.i64.wrap (4*(k:Int)))=((60 - 4*k:Nat):Int):=by
        rw [bJ (n:=4*(k:Int)) (by omega) (by omega),bJ (by omega) (by omega)];omega
      have d5:decide (((60 - 4*k:Nat):Int)<0)=false:=decide_eq_false (by omega)
      have wB:min (60 - 4*k) 64=60 - 4*k:=by omega
      have hp:(2:Nat) ^ (60 - 4*k)=16 ^ (15 - k):=by rw [show 60 - 4*k=4*(15 - k) by omega,Nat.pow_mul]
      have ef:Int.fdiv (w:Int) (2 ^ (60 - 4*k))=((w / 16 ^ (15 - k):Nat):Int):=by
        have:((2:Int) ^ (60 - 4*k))=((16 ^ (15 - k):Nat):Int):=by rw [← hp];push_cast;rfl
        rw [this,Int.fdiv_eq_ediv_of_nonneg _ (Int.natCast_nonneg _)];rfl
      have hle:w / 16 ^ (15 - k) ≤ w:=Nat.div_le_self _ _
      have hg:=U4 16 w k hk
      have oY:16 - 1 - k=15 - k:=by omega
      rw [oY] at hg
      generalize w / 16 ^ (15 - k)=qq at*
      have e6:bE .and .u64 ((qq:Nat):Int) 15=((qq % 16:Nat):Int):=by
        rw [adg (by omega) (by omega) (by omega) (by omega)]
        have:=Nat.and_two_pow_sub_one_eq_mod (qq) 4
        rw [Int.toNat_natCast];exact congrArg Int.ofNat this
      have d6:decide ((0:Int) ≤ ((qq % 16:Nat):Int))=true:=decide_eq_true (by omega)
      have hf:=acn (qq % 16) (by omega)
      have jj:0+k*1=k:=by omega
      generalize qq % 16=d at*
      have lP:=st1 (x:=EV (fig d)) hb (j:=k) (by omega)
      have lP:stM aj σ.next (aj.ai σ.next) k [.i .u8 (((fig d).toNat:Nat):Int)]=some (aj.put σ.next (.cells true 140 (cs.set k (EV (fig d))))):=lP
      simp -implicitDefEqProofs only [vh,dk,d0,e5,d5,wB,ef,e6,d6,Int.toNat_natCast,hf,jj,lP,e1,Nat.reduceAdd,Nat.reduceMul,Nat.reduceLT,Int.reduceToNat,Int.reduceAdd,Int.reduceSub,Int.reduceMul,aB,ak,ao,au,aw,ax,ay,az,ah,Nat.reduceLeDiff,decide_true,decide_false]
      refine U.2 ⟨_,_,rfl,by simp [hl],cH,E.put (Nat.le_refl _) _,fun j hj=>?_⟩
      by_cases h:j=k
      · subst h
        rw [List.getElem?_set_self (by omega),List.getElem?_map,HP,hg];rfl
      · rw [List.getElem?_set_ne (by omega)];exact hc j (by omega)
    · rintro _ ⟨cs,aj,rfl,hl,hb,E,hc⟩
      have dk:decide (((16:Nat):Int)<16)=false:=rfl
      simp (maxSteps:=2000000) -implicitDefEqProofs (disch:=(first |omega |rfl |assumption |(simp only [aK];first |omega |assumption))) only [vh,dk,Nat.reduceAdd,Nat.reduceMul,Nat.reduceLT,Int.reduceToNat,Int.reduceAdd,Int.reduceSub,Int.reduceMul,aB,aX]
      refine U.2 ⟨cs,rfl,hb,?_,E⟩
      refine List.ext_getElem? fun j=>?_
      by_cases hj:j<16
      · exact hc j hj
      · rw [List.getElem?_eq_none (by omega),List.getElem?_eq_none (by simp [HP,jf];omega)]
  · rintro ⟨q,aP⟩ ⟨Wt,rfl,Dm,rfl,E2⟩
    have rr:=anw Dm (o:=0) (n:=16) (by simp [HP,jf])
    rw [List.drop_zero,List.take_of_length_le (by simp [HP,jf])] at rr
    have ab:dO ((HP w).map EV)=some (HP w):=NX _
    simp only at rr
    simp -implicitDefEqProofs only [rr,ab,Nat.sub_zero,Nat.reduceAdd,Nat.reduceMul,Nat.reduceLT,Int.reduceToNat,Int.reduceAdd,Int.reduceSub,Int.reduceMul,aB,ak,ao,au,aw,ax,ay,az,ah,Nat.reduceLeDiff,decide_true,decide_false]
    exact U.2 ⟨rfl,E2⟩
end Go.Abs.Tryz
namespace Go.Abs.Tryz
open Go Go.Abs
variable {O:Type}
theorem X4 {σ:AH O} {s p:Bs}:Ok (cy [.s s,.s p] σ) fun r=>r=(.b (decide (s.take p.length=p)),σ):=by
  have t1:(true == true)=true:=rfl
  have t2:(false == true)=false:=rfl
  by_cases hl:p.length ≤ s.length
  · have g1:decide ((s.length:Int) ≥ (p.length:Int))=true:=decide_eq_true (by omega)
    have g2:decide ((0:Int) ≤ (p.length:Int))=true:=decide_eq_true (by omega)
    have g3:decide ((p.length:Int) ≤ (s.length:Int))=true:=decide_eq_true (by omega)
    have t3:(true && true)=true:=rfl
    simp -implicitDefEqProofs only [cy,dF,g1,g2,g3,t1,t3,Int.toNat_natCast,Nat.sub_zero,List.drop_zero,Nat.reduceAdd,Nat.reduceMul,Nat.reduceLT,Int.reduceToNat,Int.reduceAdd,Int.reduceSub,Int.reduceMul,aB,ak,ao,au,aw,ax,ay,az,ah,Nat.reduceLeDiff,decide_true,decide_false]
    refine U.2 ?_
    have:(s.take p.length == p)=decide (s.take p.length=p):=by
      by_cases h:s.take p.length=p<;>simp [h]
    rw [this]
  · have g1:decide ((s.length:Int) ≥ (p.length:Int))=false:=decide_eq_false (by omega)
    simp -implicitDefEqProofs only [cy,dF,g1,t2,Nat.reduceAdd,Nat.reduceMul,Nat.reduceLT,Int.reduceToNat,Int.reduceAdd,Int.reduceSub,Int.reduceMul,aB,ak,ao,au,aw,ax,ay,az,ah,Nat.reduceLeDiff,decide_true,decide_false]
    refine U.2 ?_
    have:decide (s.take p.length=p)=false:=decide_eq_false fun h=>hl (by have:=congrArg List.length h;simp at this;omega)
    rw [this]
theorem ajd {σ:AH O} {s p:Bs}:Ok (cx [.s s,.s p] σ) fun r=>r=(.b (decide (s.take p.length=p)),σ):=by
  simp -implicitDefEqProofs only [cx,jO,Nat.reduceAdd,Nat.reduceMul,Nat.reduceLT,Int.reduceToNat,Int.reduceAdd,Int.reduceSub,Int.reduceMul,aB,ak,ao,au,aw,ax,ay,az,ah,Nat.reduceLeDiff,decide_true,decide_false]
  refine Ok.step X4 ?_
  rintro _ rfl
  simp -implicitDefEqProofs only [Nat.reduceAdd,Nat.reduceMul,Nat.reduceLT,Int.reduceToNat,Int.reduceAdd,Int.reduceSub,Int.reduceMul,aB,ak,ao,au,aw,ax,ay,az,ah,Nat.reduceLeDiff,decide_true,decide_false]
  exact U.2 rfl
theorem X5 {σ:AH O} {s:Bs}:Ok (eA [.s s,.s ([45]:List UInt8)] σ) fun r=>r=(.s (bo s),σ):=by
  simp -implicitDefEqProofs only [eA,iP,gm,fh,Nat.reduceAdd,Nat.reduceMul,Nat.reduceLT,Int.reduceToNat,Int.reduceAdd,Int.reduceSub,Int.reduceMul,aB,ak,ao,au,aw,ax,ay,az,ah,Nat.reduceLeDiff,decide_true,decide_false]
  refine Ok.step X4 ?_
  rintro _ rfl
  have t3:(true && true)=true:=rfl
  by_cases h:s.take 1=[45]
  · have g0:decide (s.take ([45]:Bs).length=[45])=true:=decide_eq_true h
    have g0':decide (s.take 1=[45])=true:=decide_eq_true h
    have hl:1 ≤ s.length:=by have:=congrArg List.length h;simp at this;omega
    have g2:decide ((0:Int) ≤ ((1:Nat):Int))=true:=rfl
    have g3:decide (((1:Nat):Int) ≤ (s.length:Int))=true:=decide_eq_true (by omega)
    have g4:decide ((s.length:Int) ≤ (s.length:Int))=true:=decide_eq_true (by omega)
    have e5:List.take (s.length - 1) (List.drop 1 s)=bo s:=by
      cases s with
      |nil=>simp at hl
      |cons c t=>simp at h;subst h;simp [bo]
    simp -implicitDefEqProofs only [g0,g0',g2,g3,g4,t3,e5,Nat.reduceAdd,Nat.reduceMul,Nat.reduceLT,Int.reduceToNat,Int.reduceAdd,Int.reduceSub,Int.reduceMul,aB,ak,ao,au,aw,ax,ay,az,ah,Nat.reduceLeDiff,decide_true,decide_false]
    exact U.2 rfl
  · have g0:decide (s.take ([45]:Bs).length=[45])=false:=decide_eq_false h
    have g0':decide (s.take 1=[45])=false:=decide_eq_false h
    have ns:bo s=s:=by
      unfold bo;rw [if_neg]
      intro h2;apply h
      cases s with
      |nil=>cases h2
      |cons c t=>simp at h2;simp [h2]
    simp -implicitDefEqProofs only [g0,g0',Nat.reduceAdd,Nat.reduceMul,Nat.reduceLT,Int.reduceToNat,Int.reduceAdd,Int.reduceSub,Int.reduceMul,aB,ak,ao,au,aw,ax,ay,az,ah,Nat.reduceLeDiff,decide_true,decide_false]
    exact U.2 (by rw [ns])
def shp (s:Bs):Bool := !(decide (bo s=[] ∨ ((bo s).head? = some 48 ∧ 1<s.length))) && (bo s).all Kb
theorem ajf {σ:AH O} {d:Bs} (hl:d.length ≤ 1000000000):Ok (aQ (S:=List AV × AH O) (T:=(List AV × AH O) ⊕ (AV × AH O)) (du d) ([.i .i64 0],σ)) fun r=>match r with |.inl q=>q=([],σ) ∧ d.all Kb=true |.inr r=>r=(.b false,σ) ∧ d.all Kb=false:=by
  refine Ok.count d.length (fun k q=>q=([.i .i64 (k:Int)],σ) ∧ (d.take k).all Kb=true) ?_ ?_ ⟨rfl,by simp⟩
  · rintro k _ hk ⟨rfl,ha⟩
    have dk:decide ((k:Int)<(d.length:Int))=true:=decide_eq_true (by omega)
    have d0:decide ((0:Int) ≤ (k:Int))=true:=decide_eq_true (by omega)
    have e1:IntKind.i64.wrap ((k:Int)+1)=((k+1:Nat):Int):=by rw [bJ (by omega) (by omega)];omega
    have hg:d[k]? = some d[k]:=List.getElem?_eq_getElem hk
    have ht:(d.take (k+1)).all Kb=((d.take k).all Kb && Kb d[k]):=by rw [List.take_succ_eq_append_getElem hk,List.all_append];simp
    have hn:Kb d[k]=false → d.all Kb=false:=fun h=>by
      rw [Bool.eq_false_iff];intro e
      rw [List.all_eq_true.1 e _ (List.getElem_mem hk)] at h;cases h
    rw [ha,Bool.true_and] at ht
    generalize d[k]=c at*
    have t1:(true == false)=false:=rfl
    have t2:(false == false)=true:=rfl
    by_cases h48:c.toNat<48
    · have g1:decide (((c.toNat:Nat):Int)<48)=true:=decide_eq_true (by omega)
      simp (maxSteps:=2000000) -implicitDefEqProofs (disch:=(first |omega |rfl |assumption |(simp only [aK];first |omega |assumption))) only [du,dk,d0,Int.toNat_natCast,hg,g1,t1,Nat.reduceAdd,Nat.reduceMul,Nat.reduceLT,Int.reduceToNat,Int.reduceAdd,Int.reduceSub,Int.reduceMul,aB,aX]
      exact U.2 ⟨rfl,hn (by unfold Kb;exact decide_eq_false (by omega))⟩
    · have g1:decide (((c.toNat:Nat):Int)<48)=false:=decide_eq_false (by omega)
      by_cases Rb:57<c.toNat
      · have g2:decide (((c.toNat:Nat):Int) > 57)=true:=decide_eq_true (by omega)
        simp (maxSteps:=2000000) -implicitDefEqProofs (disch:=(first |omega |rfl |assumption |(simp only [aK];first |omega |assumption))) only [du,dk,d0,Int.toNat_natCast,hg,g1,g2,t2,Nat.reduceAdd,Nat.reduceMul,Nat.reduceLT,Int.reduceToNat,Int.reduceAdd,Int.reduceSub,Int.reduceMul,aB,aX]
        exact U.2 ⟨rfl,hn (by unfold Kb;exact decide_eq_false (by omega))⟩
      · have g2:decide (((c.toNat:Nat):Int) > 57)=false:=decide_eq_false (by omega)
        simp (maxSteps:=2000000) -implicitDefEqProofs (disch:=(first |omega |rfl |assumption |(simp only [aK];first |omega |assumption))) only [du,dk,d0,Int.toNat_natCast,hg,g1,g2,t2,e1,Nat.reduceAdd,Nat.reduceMul,Nat.reduceLT,Int.reduceToNat,Int.reduceAdd,Int.reduceSub,Int.reduceMul,aB,aX]
        exact U.2 ⟨rfl,by rw [ht];unfold Kb;exact decide_eq_true (by omega)⟩
  · rintro _ ⟨rfl,ha⟩
    have dk:decide ((d.length:Int)<(d.length:Int))=false:=decide_eq_false (by omega)
    simp (maxSteps:=2000000) -implicitDefEqProofs (disch:=(first |omega |rfl |assumption |(simp only [aK];first |omega |assumption))) only [du,dk,Nat.reduceAdd,Nat.reduceMul,Nat.reduceLT,Int.reduceToNat,Int.reduceAdd,Int.reduceSub,Int.reduceMul,aB,aX]
    exact U.2 ⟨rfl,by rw [List.take_length] at ha;exact ha⟩
theorem NZ (s:Bs):(bo s).length ≤ s.length:=by unfold bo;split<;>simp
theorem ZQ {σ:AH O} {s:Bs} (hl:s.length ≤ 1000000000):Ok (oI [.s s] σ) fun r=>r=(.b (shp s),σ):=by
  have t1:(true == true)=true:=rfl
  have t2:(false == true)=false:=rfl
  have t3:(true == false)=false:=rfl
  have t4:(false == false)=true:=rfl
  simp -implicitDefEqProofs only [oI,qd,Nat.reduceAdd,Nat.reduceMul,Nat.reduceLT,Int.reduceToNat,Int.reduceAdd,Int.reduceSub,Int.reduceMul,aB,ak,ao,au,aw,ax,ay,az,ah,Nat.reduceLeDiff,decide_true,decide_false]
  refine Ok.step X5 ?_
  rintro _ rfl
  have hle:=NZ s
  have Vn:shp s=(!(decide (bo s=[] ∨ ((bo s).head? = some 48 ∧ 1<s.length))) && (bo s).all Kb):=rfl
  generalize bo s=d at*
  have body:¬ (d=[] ∨ (d.head? = some 48 ∧ 1<s.length)) → Ok (bK (S:=List AV × AH O) (R:=(AV × AH O)) (aQ (S:=List AV × AH O) (T:=(List AV × AH O) ⊕ (AV × AH O)) (du d) ([(.i .i64 0)],σ)) fun rn=>
      some ((.b true),rn.2)) fun r=>r=(.b (shp s),σ):=fun nc=>by
    rw [decide_eq_false nc,Bool.not_false,Bool.true_and] at Vn
    refine Ok.bK (ajf (by omega)) (fun q hq=>?_) (fun r hr=>?_)
    · obtain ⟨rfl,ha⟩:=hq
      simp -implicitDefEqProofs only [Nat.reduceAdd,Nat.reduceMul,Nat.reduceLT,Int.reduceToNat,Int.reduceAdd,Int.reduceSub,Int.reduceMul,aB,ak,ao,au,aw,ax,ay,az,ah,Nat.reduceLeDiff,decide_true,decide_false]
      exact U.2 (by rw [Vn,ha])
    · obtain ⟨rfl,ha⟩:=hr
      rw [Vn,ha]
  by_cases hd:d=[]
  · subst hd
    have z:(([]:List UInt8) == ([]:List UInt8))=true:=rfl
    simp -implicitDefEqProofs only [z,t1,t2,t3,t4,Nat.reduceAdd,Nat.reduceMul,Nat.reduceLT,Int.reduceToNat,Int.reduceAdd,Int.reduceSub,Int.reduceMul,aB,ak,ao,au,aw,ax,ay,az,ah,Nat.reduceLeDiff,decide_true,decide_false]
    exact U.2 (by rw [Vn];rfl)
  · have z:(d == ([]:List UInt8))=false:=by simpa using hd
    obtain ⟨e,Vg⟩:∃ e,d[0]? = some e:=⟨d[0]'(List.length_pos_iff.2 hd),List.getElem?_eq_getElem _⟩
    have hh:d.head? = some e:=by rw [List.head?_eq_getElem?];exact Vg
    by_cases h48:e=48
    · have q48:(((e.toNat:Int):Int) == 48)=true:=by subst h48;rfl
      by_cases h1:1<s.length
      · have res:shp s=false:=by rw [Vn,decide_eq_true (.inr ⟨by rw [hh,h48],h1⟩)];rfl
        have g2:decide ((s.length:Int) > 1)=true:=decide_eq_true (by omega)
        cases g1:decide ((d.length:Int) > 1) with
        |true=>
          simp -implicitDefEqProofs only [z,Vg,q48,g1,t1,t2,t3,t4,Nat.reduceAdd,Nat.reduceMul,Nat.reduceLT,Int.reduceToNat,Int.reduceAdd,Int.reduceSub,Int.reduceMul,aB,ak,ao,au,aw,ax,ay,az,ah,Nat.reduceLeDiff,decide_true,decide_false]
          exact U.2 (by rw [res])
        |false=>
          simp -implicitDefEqProofs only [z,Vg,q48,g1,g2,t1,t2,t3,t4,Nat.reduceAdd,Nat.reduceMul,Nat.reduceLT,Int.reduceToNat,Int.reduceAdd,Int.reduceSub,Int.reduceMul,aB,ak,ao,au,aw,ax,ay,az,ah,Nat.reduceLeDiff,decide_true,decide_false]
          exact U.2 (by rw [res])
      · have g1:decide ((d.length:Int) > 1)=false:=decide_eq_false (by omega)
        have g2:decide ((s.length:Int) > 1)=false:=decide_eq_false (by omega)
        simp -implicitDefEqProofs only [z,Vg,q48,g1,g2,t1,t2,t3,t4,Nat.reduceAdd,Nat.reduceMul,Nat.reduceLT,Int.reduceToNat,Int.reduceAdd,Int.reduceSub,Int.reduceMul,aB,ak,ao,au,aw,ax,ay,az,ah,Nat.reduceLeDiff,decide_true,decide_false]
        exact body fun h=>h.elim hd fun h=>h1 h.2
    · have q48:(((e.toNat:Int):Int) == 48)=false:=by
        simp;intro h;exact h48 (UInt8.toNat.inj (by
         have:e.toNat=48:=by omega
         exact this))
      simp -implicitDefEqProofs only [z,Vg,q48,t1,t2,t3,t4,Nat.reduceAdd,Nat.reduceMul,Nat.reduceLT,Int.reduceToNat,Int.reduceAdd,Int.reduceSub,Int.reduceMul,aB,ak,ao,au,aw,ax,ay,az,ah,Nat.reduceLeDiff,decide_true,decide_false]
      exact body fun h=>h.elim hd fun h=>h48 (by rw [hh] at h;exact Option.some.inj h.1)
end Go.Abs.Tryz
namespace Go.Abs.Tryz
open Go Go.Abs
variable {O:Type}
theorem ldF {d:Bs} {k:Nat} {c:UInt8} (h:d[k]? = some c):(d.map fun c=>AV.i .u8 (c.toNat:Int))[k]? = some (.i .u8 (c.toNat:Int)):=by
  rw [List.getElem?_map,h];rfl
theorem aco {d:Bs} (k:Nat):dc 0 (d.take k) ≤ dc 0 d:=by
  have h:dc 0 d=dc (dc 0 (d.take k)) (d.drop k):=by rw [← uW,List.take_append_drop]
  rw [h]
  have:=HN (dc 0 (d.take k)) (d.drop k)
  exact Nat.le_trans (Nat.le_mul_of_pos_right _ (Nat.pow_pos (by omega))) this
theorem acp {σ:AH O} {d:Bs} (hl:d.length ≤ 1000000000) (ha:d.all Kb=true):Ok (aQ (S:=List AV × AH O) (T:=(List AV × AH O) ⊕ (AV × AH O)) (iQ d) ([.i .i64 0,.i .i64 0],σ)) fun r=>match r with |.inl q=>q=([.i .i64 (-(dc 0 d:Int))],σ) ∧ dc 0 d ≤ 9223372036854775808 |.inr r=>r=(.aS [.i .i64 0,.i .i64 2],σ) ∧ 9223372036854775808<dc 0 d:=by
  refine Ok.count d.length (fun k q=>q=([.i .i64 (-(dc 0 (d.take k):Int)),.i .i64 (k:Int)],σ) ∧ dc 0 (d.take k) ≤ 9223372036854775808) ?_ ?_ ⟨rfl,by simp [dc]⟩
  · rintro k _ hk ⟨rfl,hv⟩
    have dk:decide ((k:Int)<(d.length:Int))=true:=decide_eq_true (by omega)
    have d0:decide ((0:Int) ≤ (k:Int))=true:=decide_eq_true (by omega)
    have t3:(true && true)=true:=rfl
    have e1:IntKind.i64.wrap ((k:Int)+1)=((k+1:Nat):Int):=by rw [bJ (by omega) (by omega)];omega
    have hg:d[k]? = some d[k]:=List.getElem?_eq_getElem hk
    have hv2:dc 0 (d.take (k+1))=dc 0 (d.take k)*10+(d[k].toNat - 48):=by rw [List.take_succ_eq_append_getElem hk,uW];rfl
    have hp:=aco (d:=d) (k+1)
    have hc:=of_decide_eq_true (List.all_eq_true.1 ha _ (List.getElem_mem hk))
    rw [hv2] at*
    have ld:=ldF hg
    have jj:0+k*1=k:=by omega
    generalize d[k]=c at*
    generalize dc 0 (d.take k)=v at*
    have ec:IntKind.i64.wrap (IntKind.u8.wrap (((c.toNat:Nat):Int) - 48))=((c.toNat - 48:Nat):Int):=by
      rw [aae (by omega) (by omega),bJ (by omega) (by omega)];omega
    have hx:c.toNat - 48 ≤ 9:=by omega
    generalize c.toNat - 48=x at*
    have e2:IntKind.i64.wrap (-9223372036854775808+(x:Int)) = -((9223372036854775808 - x:Nat):Int):=by rw [bJ (by omega) (by omega)];omega
    have e3:Int.tdiv (-((9223372036854775808 - x:Nat):Int)) 10 = -(((9223372036854775808 - x) / 10:Nat):Int):=by rw [Int.neg_tdiv,acj]
    have e4:IntKind.i64.wrap (-(((9223372036854775808 - x) / 10:Nat):Int)) = -(((9223372036854775808 - x) / 10:Nat):Int):=bJ (by omega) (by omega)
    by_cases hb:v*10+x ≤ 9223372036854775808
    · have g:decide (-(v:Int) < -(((9223372036854775808 - x) / 10:Nat):Int))=false:=decide_eq_false (by omega)
      have e5:IntKind.i64.wrap (-(v:Int)*10) = -(v:Int)*10:=bJ (by omega) (by omega)
      have e6:IntKind.i64.wrap (-(v:Int)*10 - (x:Int)) = -((v*10+x:Nat):Int):=by rw [bJ (by omega) (by omega)];omega
      simp -implicitDefEqProofs only [iQ,dk,d0,t3,Int.toNat_natCast,jj,ld,ec,e2,e3,e4,g,e5,e6,e1,Nat.reduceAdd,Nat.reduceMul,Nat.reduceLT,Int.reduceToNat,Int.reduceAdd,Int.reduceSub,Int.reduceMul,aB,ak,ao,au,aw,ax,ay,az,ah,Nat.reduceLeDiff,decide_true,decide_false]
      exact U.2 ⟨rfl,hb⟩
    · have g:decide (-(v:Int) < -(((9223372036854775808 - x) / 10:Nat):Int))=true:=decide_eq_true (by omega)
      simp -implicitDefEqProofs only [iQ,dk,d0,t3,Int.toNat_natCast,jj,ld,ec,e2,e3,e4,g,Nat.reduceAdd,Nat.reduceMul,Nat.reduceLT,Int.reduceToNat,Int.reduceAdd,Int.reduceSub,Int.reduceMul,aB,ak,ao,au,aw,ax,ay,az,ah,Nat.reduceLeDiff,decide_true,decide_false]
      exact U.2 ⟨rfl,by omega⟩
  · rintro _ ⟨rfl,hv⟩
    have dk:decide ((d.length:Int)<(d.length:Int))=false:=decide_eq_false (by omega)
    simp -implicitDefEqProofs only [iQ,dk,Nat.reduceAdd,Nat.reduceMul,Nat.reduceLT,Int.reduceToNat,Int.reduceAdd,Int.reduceSub,Int.reduceMul,aB,ak,ao,au,aw,ax,ay,az,ah,Nat.reduceLeDiff,decide_true,decide_false]
    rw [List.take_length] at hv
    exact U.2 ⟨rfl,hv⟩
theorem acq {σ:AH O} {s:Bs} (hl:s.length ≤ 1000000000):Ok (ed [.s s] σ) fun r=>r=(UX s,σ):=by
  simp -implicitDefEqProofs only [ed,vm,Nat.reduceAdd,Nat.reduceMul,Nat.reduceLT,Int.reduceToNat,Int.reduceAdd,Int.reduceSub,Int.reduceMul,aB,ak,ao,au,aw,ax,ay,az,ah,Nat.reduceLeDiff,decide_true,decide_false]
  refine Ok.step (ZQ hl) ?_
  rintro _ rfl
  have hle:=NZ s
  have hR:tK s=tK s:=rfl
  cases Vn:shp s with
  |false=>
    have t1:(!false)=true:=rfl
    simp -implicitDefEqProofs only [t1,Nat.reduceAdd,Nat.reduceMul,Nat.reduceLT,Int.reduceToNat,Int.reduceAdd,Int.reduceSub,Int.reduceMul,aB,ak,ao,au,aw,ax,ay,az,ah,Nat.reduceLeDiff,decide_true,decide_false]
    refine U.2 ?_
    unfold shp at Vn
    have:tK s=(0,5):=by
      unfold tK
      by_cases h:bo s=[] ∨ ((bo s).head? = some 48 ∧ 1<s.length)
      · rw [if_pos h]
      · rw [decide_eq_false h,Bool.not_false,Bool.true_and] at Vn
        rw [if_neg h,if_pos Vn]
    unfold UX;rw [this];rfl
  |true=>
    have t1:(!true)=false:=rfl
    unfold shp at Vn
    rw [Bool.and_eq_true] at Vn
    obtain ⟨hc,ha⟩:=Vn
    have hc:¬ (bo s=[] ∨ ((bo s).head? = some 48 ∧ 1<s.length)):=fun h=>by rw [decide_eq_true h] at hc;cases hc
    have jL:bo s≠[]:=fun h=>hc (.inl h)
    have hs0:0<s.length:=Nat.lt_of_lt_of_le (List.length_pos_iff.2 jL) hle
    obtain ⟨c,hg⟩:∃ c,s[0]? = some c:=⟨s[0],List.getElem?_eq_getElem hs0⟩
    have hh:s.head? = some c:=by rw [List.head?_eq_getElem?];exact hg
    simp -implicitDefEqProofs only [t1,hg,Nat.reduceAdd,Nat.reduceMul,Nat.reduceLT,Int.reduceToNat,Int.reduceAdd,Int.reduceSub,Int.reduceMul,aB,ak,ao,au,aw,ax,ay,az,ah,Nat.reduceLeDiff,decide_true,decide_false]
    refine Ok.step X5 ?_
    rintro _ rfl
    have bl:Nat.ble ((bo s).length*2) 35184372088832=true:=Nat.ble_eq_true_of_le (by omega)
    have bl':decide ((bo s).length*2 ≤ 35184372088832)=true:=decide_eq_true (by omega)
    have big:19<(bo s).length → 9223372036854775808<dc 0 (bo s):=fun h=>agm ha (fun h48=>hc (.inr ⟨h48,by omega⟩)) h
    have nR:tK s=if 19<(bo s).length then (0,2) else if (bo s).length=s.length then (if 9223372036854775807<dc 0 s then (0,2) else ((dc 0 s:Int),0)) else (if 9223372036854775808<dc 0 (bo s) then (0,2) else (-(dc 0 (bo s):Int),0)):=by
      conv=>lhs;unfold tK
      rw [if_neg hc,ha,if_neg (by simp)]
    by_cases h45:c=45
    · have y45:(((c.toNat:Int):Int) == 45)=true:=by subst h45;rfl
      have ns:bo s=s.tail:=by unfold bo;rw [hh,h45];simp
      have bS:(bo s).length≠s.length:=by rw [ns];simp;omega
      rw [if_neg bS] at nR
      generalize bo s=d at*
      simp -implicitDefEqProofs only [bl,bl',Nat.reduceAdd,Nat.reduceMul,Nat.reduceLT,Int.reduceToNat,Int.reduceAdd,Int.reduceSub,Int.reduceMul,aB,ak,ao,au,aw,ax,ay,az,ah,Nat.reduceLeDiff,decide_true,decide_false]
      refine Ok.bK (acp (by omega) ha) (fun q hq=>?_) (fun r hr=>?_)
      · obtain ⟨rfl,hv⟩:=hq
        simp -implicitDefEqProofs only [y45,Nat.reduceAdd,Nat.reduceMul,Nat.reduceLT,Int.reduceToNat,Int.reduceAdd,Int.reduceSub,Int.reduceMul,aB,ak,ao,au,aw,ax,ay,az,ah,Nat.reduceLeDiff,decide_true,decide_false]
        refine U.2 ?_
        have Oc:¬ 19<d.length:=fun h=>by have:=big h;omega
        unfold UX;rw [nR,if_neg Oc,if_neg (by omega)];rfl
      · obtain ⟨rfl,hv⟩:=hr
        have:tK s=(0,2):=by rw [nR];split<;>first |rfl |rw [if_pos hv]
        unfold UX;rw [this];rfl
    · have y45:(((c.toNat:Int):Int) == 45)=false:=by
        simp;intro h;exact h45 (UInt8.toNat.inj (by
         have:c.toNat=45:=by omega
         exact this))
      have ns:bo s=s:=by unfold bo;rw [hh,if_neg (by simp [h45])]
      rw [ns] at nR big hc ha jL bl bl' ⊢
      rw [if_pos rfl] at nR
      simp -implicitDefEqProofs only [bl,bl',Nat.reduceAdd,Nat.reduceMul,Nat.reduceLT,Int.reduceToNat,Int.reduceAdd,Int.reduceSub,Int.reduceMul,aB,ak,ao,au,aw,ax,ay,az,ah,Nat.reduceLeDiff,decide_true,decide_false]
      refine Ok.bK (acp (by omega) ha) (fun q hq=>?_) (fun r hr=>?_)
      · obtain ⟨rfl,hv⟩:=hq
        have Oc:¬ 19<s.length:=fun h=>by have:=big h;omega
        rw [if_neg Oc] at nR
        generalize dc 0 s=v at*
        by_cases hv2:9223372036854775807<v
        · have z:((-(v:Int)) == -9223372036854775808)=true:=by simp;omega
          simp -implicitDefEqProofs only [y45,z,Nat.reduceAdd,Nat.reduceMul,Nat.reduceLT,Int.reduceToNat,Int.reduceAdd,Int.reduceSub,Int.reduceMul,aB,ak,ao,au,aw,ax,ay,az,ah,Nat.reduceLeDiff,decide_true,decide_false]
          refine U.2 ?_
          rw [if_pos hv2] at nR
          unfold UX;rw [nR];rfl
        · have z:((-(v:Int)) == -9223372036854775808)=false:=by simp;omega
          have e0:IntKind.i64.wrap (0 - -(v:Int))=(v:Int):=by rw [bJ (by omega) (by omega)];omega
          simp -implicitDefEqProofs only [y45,z,e0,Nat.reduceAdd,Nat.reduceMul,Nat.reduceLT,Int.reduceToNat,Int.reduceAdd,Int.reduceSub,Int.reduceMul,aB,ak,ao,au,aw,ax,ay,az,ah,Nat.reduceLeDiff,decide_true,decide_false]
          refine U.2 ?_
          rw [if_neg hv2] at nR
          unfold UX;rw [nR];rfl
      · obtain ⟨rfl,hv⟩:=hr
        have:tK s=(0,2):=by rw [nR];split<;>first |rfl |rw [if_pos (by omega)]
        unfold UX;rw [this];rfl
end Go.Abs.Tryz
namespace Go.Abs.Tryz
open Go Go.Abs
variable {O:Type}
abbrev Gg (a:SA) (ws:List Bs):Prop:=nh 1 a ws.length (ws.map AV.s)
theorem gQ {a:SA} {ws:List Bs} (h:Gg a ws) {k:Nat} {w:Bs} (hw:ws[k]? = some w):∃ b o,SA.ref a=some (b,o) ∧ ∀ (O:Type) (σ:AH O),σ.ld b (o+k)=some (.s w):=by
  have hv:(ws.map AV.s)[k]? = some (.s w):=by rw [List.getElem?_map,hw];rfl
  obtain ⟨b,o,rfl,h2⟩:=(h Unit ⟨fun _=>none,0⟩).at1 hv
  refine ⟨b,o,rfl,fun O σ=>?_⟩
  obtain ⟨b',o',e,h3⟩:=(h O σ).at1 hv
  simp only [SA.loc.injEq] at e
  obtain ⟨rfl,rfl,-⟩:=e
  rw [Nat.mul_one] at h3;exact h3
theorem ZR {σ:AH O} {a:SA} {ws:List Bs} (ha:Gg a ws) (hw:∀ w∈ws,w.length ≤ 1000000000) (hn:ws.length ≤ 1000000):
    Ok (aQ (S:=List AV × AH O) (T:=(List AV × AH O) ⊕ (AV × AH O)) (ru (a,ws.length) ed) ([.sl .nil 0,.i .i64 0],σ)) fun r=>match r with |.inl q=>∃ l a',db ws=some l ∧ q.1=[.sl a' l.length] ∧ aN q.2 3 1 a' l.length (l.map (AV.i .i64)) ∧ Ext σ q.2 ∧ ∀ b∈SA.bk a',σ.next ≤ b |.inr q=>db ws=none ∧ q.1=.aS [.sl .nil 0,.b false] ∧ Ext σ q.2:=by
  refine Ok.count ws.length (fun k s=>∃ l a' aj,l.length=k ∧ s=([.sl a' k,.i .i64 (k:Int)],aj) ∧ aN aj 3 1 a' k (l.map (AV.i .i64)) ∧ Ext σ aj ∧ (∀ b∈SA.bk a',σ.next ≤ b) ∧ db ws=(db (ws.drop k)).map (l ++ ·)) ?_ ?_ ⟨[],.nil,σ,rfl,rfl,aN.nil _ _ _,Ext.refl _,by simp [SA.bk],by simp⟩
  · rintro k _ hk ⟨l,a',aj,hl,rfl,own,E,fr,hr⟩
    have hx:ws[k]? = some ws[k]:=List.getElem?_eq_getElem hk
    have hm:=hw _ (List.getElem_mem hk)
    have hd:ws.drop k=ws[k]::ws.drop (k+1):=List.drop_eq_getElem_cons hk
    rw [hd,db] at hr
    generalize ws[k]=w at*
    obtain ⟨bb,oo,r1,ld⟩:=gQ ha hx
    have ld:=ld O aj
    have dk:decide ((k:Int)<(ws.length:Int))=true:=decide_eq_true (by omega)
    have d0:decide ((0:Int) ≤ (k:Int))=true:=decide_eq_true (by omega)
    have t3:(true && true)=true:=rfl
    have e1:IntKind.i64.wrap ((k:Int)+1)=((k+1:Nat):Int):=by rw [bJ (by omega) (by omega)];omega
    have bl:Nat.ble ((k+1)*9) 35184372088832=true:=Nat.ble_eq_true_of_le (by omega)
    have bl':decide ((k+1)*9 ≤ 35184372088832)=true:=decide_eq_true (by omega)
    have k1:k*1=k:=Nat.mul_one k
    simp -implicitDefEqProofs only [ru,dk,d0,t3,r1,Int.toNat_natCast,k1,ld,Nat.reduceAdd,Nat.reduceMul,Nat.reduceLT,Int.reduceToNat,Int.reduceAdd,Int.reduceSub,Int.reduceMul,aB,ak,ao,au,aw,ax,ay,az,ah,Nat.reduceLeDiff,decide_true,decide_false]
    refine Ok.step (acq hm) ?_
    rintro _ rfl
    simp only [UX]
    by_cases h0:(tK w).2=0
    · rw [if_pos h0] at hr
      have z:((((tK w).2:Nat):Int) == 0)=true:=by rw [h0];rfl
      generalize (tK w).1=n at*
      simp -implicitDefEqProofs only [z,Bool.not_true,Bool.not_false,Nat.reduceAdd,Nat.reduceMul,Nat.reduceLT,Int.reduceToNat,Int.reduceAdd,Int.reduceSub,Int.reduceMul,aB,ak,ao,au,aw,ax,ay,az,ah,Nat.reduceLeDiff,decide_true,decide_false]
      simp -implicitDefEqProofs only [Jt,bl,bl',Nat.reduceAdd,Nat.reduceMul,Nat.reduceLT,Int.reduceToNat,Int.reduceAdd,Int.reduceSub,Int.reduceMul,aB,ak,ao,au,aw,ax,ay,az,ah,Nat.reduceLeDiff,decide_true,decide_false]
      refine Ok.step (BT own) ?_
      rintro ⟨v,aP⟩ ⟨a2,g1,g2,g3,g4⟩
      simp only at g1 g2 g3 g4
      subst g1
      simp -implicitDefEqProofs only [e1,Nat.reduceAdd,Nat.reduceMul,Nat.reduceLT,Int.reduceToNat,Int.reduceAdd,Int.reduceSub,Int.reduceMul,aB,ak,ao,au,aw,ax,ay,az,ah,Nat.reduceLeDiff,decide_true,decide_false]
      refine U.2 ⟨l++[n],a2,aP,by simp [hl],rfl,by simpa using g2,dE.new E fr g3,fun b hb=>by have:=g4 b hb;have:=E.next;omega,?_⟩
      rw [hr];simp [Function.comp_def]
    · rw [if_neg h0] at hr
      have z:((((tK w).2:Nat):Int) == 0)=false:=by simpa using h0
      simp -implicitDefEqProofs only [z,Bool.not_true,Bool.not_false,Nat.reduceAdd,Nat.reduceMul,Nat.reduceLT,Int.reduceToNat,Int.reduceAdd,Int.reduceSub,Int.reduceMul,aB,ak,ao,au,aw,ax,ay,az,ah,Nat.reduceLeDiff,decide_true,decide_false]
      exact U.2 ⟨hr,rfl,E⟩
  · rintro _ ⟨l,a',aj,hl,rfl,own,E,fr,hr⟩
    have dk:decide ((ws.length:Int)<(ws.length:Int))=false:=decide_eq_false (by omega)
    simp -implicitDefEqProofs only [ru,dk,Nat.reduceAdd,Nat.reduceMul,Nat.reduceLT,Int.reduceToNat,Int.reduceAdd,Int.reduceSub,Int.reduceMul,aB,ak,ao,au,aw,ax,ay,az,ah,Nat.reduceLeDiff,decide_true,decide_false]
    rw [List.drop_length,db] at hr
    refine U.2 ⟨l,a',by rw [hr];simp,by rw [hl],by rw [hl];exact own,E,fr⟩
theorem X6 {σ:AH O} {a:SA} {ws:List Bs} (ha:Gg a ws) (hw:∀ w∈ws,w.length ≤ 1000000000) (hn:ws.length ≤ 1000000):
    Ok (fP [.sl a ws.length] σ) fun r=>(match db ws with |some l=>∃ a',r.1=.aS [.sl a' l.length,.b true] ∧ bF .i64 a' l |none=>r.1=.aS [.sl .nil 0,.b false]) ∧ Ext σ r.2:=by
  unfold fP
  have key:Ok (iS ed [.sl a ws.length] σ) fun r=>(∃ l a',db ws=some l ∧ r.1=.aS [.sl a' l.length,.b true] ∧ aN r.2 3 1 a' l.length (l.map (AV.i .i64)) ∧ Ext σ r.2 ∧ ∀ b∈SA.bk a',σ.next ≤ b) ∨ (db ws=none ∧ r.1=.aS [.sl .nil 0,.b false] ∧ Ext σ r.2):=by
    simp -implicitDefEqProofs only [iS,Nat.reduceAdd,Nat.reduceMul,Nat.reduceLT,Int.reduceToNat,Int.reduceAdd,Int.reduceSub,Int.reduceMul,aB,ak,ao,au,aw,ax,ay,az,ah,Nat.reduceLeDiff,decide_true,decide_false]
    refine Ok.bK (ZR ha hw hn) (fun q hq=>?_) (fun r hr=>?_)
    · obtain ⟨l,a',h1,h2,h3,h4,h5⟩:=hq
      obtain ⟨q,aP⟩:=q
      simp only at h2 h3 h4
      subst h2
      simp -implicitDefEqProofs only [Nat.reduceAdd,Nat.reduceMul,Nat.reduceLT,Int.reduceToNat,Int.reduceAdd,Int.reduceSub,Int.reduceMul,aB,ak,ao,au,aw,ax,ay,az,ah,Nat.reduceLeDiff,decide_true,decide_false]
      exact U.2 (.inl ⟨l,a',h1,rfl,h3,h4,h5⟩)
    · exact .inr hr
  cases hR:db ws with
  |some l=>
    refine (Dw (s:=iS ed) (k:=.i64) (l:=l) (vs:=[.b true]) rfl (key.mono ?_)).mono fun r h=>⟨h.1.imp fun a' h=>⟨h.1,bF.mk h.2⟩,h.2⟩
    rintro ⟨v,aP⟩ (⟨l',a',h1,h2,h3,h4,h5⟩ |⟨h1,_⟩)
    · rw [hR] at h1
      obtain rfl:=Option.some.inj h1
      exact ⟨a',3,h2,h3,h4,h5⟩
    · rw [hR] at h1;cases h1
  |none=>
    refine yp (s:=iS ed) (Q:=fun v=>v=.aS [.sl .nil 0,.b false]) (key.mono ?_)
    rintro ⟨v,aP⟩ (⟨l',a',h1,_⟩ |⟨h1,h2,h3⟩)
    · rw [hR] at h1;cases h1
    · simp only at h2 h3;subst h2
      exact ⟨_,[],FZ.aS (re.flat rfl),by simp,h3,rfl⟩
theorem WY {σ:AH O} {a:SA} {ws:List Bs} (ha:Gg a ws) (hw:∀ w∈ws,w.length ≤ 1000000000) (hn:ws.length ≤ 1000000):
    Ok (aQ (S:=List AV × AH O) (T:=(List AV × AH O) ⊕ (AV × AH O)) (oJ (a,ws.length) ck) ([.sl .nil 0,.i .i64 0],σ)) fun r=>match r with |.inl q=>∃ l a',fu ws=some l ∧ q.1=[.sl a' l.length] ∧ aN q.2 63 1 a' l.length (l.map (AV.i .u64)) ∧ Ext σ q.2 ∧ ∀ b∈SA.bk a',σ.next ≤ b |.inr q=>fu ws=none ∧ q.1=.aS [.sl .nil 0,.b false] ∧ Ext σ q.2:=by
  refine Ok.count ws.length (fun k s=>∃ l a' aj,l.length=k ∧ s=([.sl a' k,.i .i64 (k:Int)],aj) ∧ aN aj 63 1 a' k (l.map (AV.i .u64)) ∧ Ext σ aj ∧ (∀ b∈SA.bk a',σ.next ≤ b) ∧ fu ws=(fu (ws.drop k)).map (l ++ ·)) ?_ ?_ ⟨[],.nil,σ,rfl,rfl,aN.nil _ _ _,Ext.refl _,by simp [SA.bk],by simp⟩
  · rintro k _ hk ⟨l,a',aj,hl,rfl,own,E,fr,hr⟩
    have hx:ws[k]? = some ws[k]:=List.getElem?_eq_getElem hk
    have hm:=hw _ (List.getElem_mem hk)
    have hd:ws.drop k=ws[k]::ws.drop (k+1):=List.drop_eq_getElem_cons hk
    rw [hd,fu] at hr
    generalize ws[k]=w at*
    obtain ⟨bb,oo,r1,ld⟩:=gQ ha hx
    have ld:=ld O aj
    have dk:decide ((k:Int)<(ws.length:Int))=true:=decide_eq_true (by omega)
    have d0:decide ((0:Int) ≤ (k:Int))=true:=decide_eq_true (by omega)
    have t3:(true && true)=true:=rfl
    have e1:IntKind.i64.wrap ((k:Int)+1)=((k+1:Nat):Int):=by rw [bJ (by omega) (by omega)];omega
    have bl:Nat.ble ((k+1)*9) 35184372088832=true:=Nat.ble_eq_true_of_le (by omega)
    have bl':decide ((k+1)*9 ≤ 35184372088832)=true:=decide_eq_true (by omega)
    have k1:k*1=k:=Nat.mul_one k
    simp -implicitDefEqProofs only [oJ,dk,d0,t3,r1,Int.toNat_natCast,k1,ld,Nat.reduceAdd,Nat.reduceMul,Nat.reduceLT,Int.reduceToNat,Int.reduceAdd,Int.reduceSub,Int.reduceMul,aB,ak,ao,au,aw,ax,ay,az,ah,Nat.reduceLeDiff,decide_true,decide_false]
    refine Ok.step UZ ?_
    rintro _ rfl
    simp only [acm]
    cases h0:O6 w with
    |some n=>
      rw [h0] at hr
      simp only at hr
      have z:((0:Int) != 0)=false:=rfl
      simp -implicitDefEqProofs only [z,Bool.not_true,Bool.not_false,Nat.reduceAdd,Nat.reduceMul,Nat.reduceLT,Int.reduceToNat,Int.reduceAdd,Int.reduceSub,Int.reduceMul,aB,ak,ao,au,aw,ax,ay,az,ah,Nat.reduceLeDiff,decide_true,decide_false]
      simp -implicitDefEqProofs only [Jt,bl,bl',Nat.reduceAdd,Nat.reduceMul,Nat.reduceLT,Int.reduceToNat,Int.reduceAdd,Int.reduceSub,Int.reduceMul,aB,ak,ao,au,aw,ax,ay,az,ah,Nat.reduceLeDiff,decide_true,decide_false]
      refine Ok.step (BT own) ?_
      rintro ⟨v,aP⟩ ⟨a2,g1,g2,g3,g4⟩
      simp only at g1 g2 g3 g4
      subst g1
      simp -implicitDefEqProofs only [e1,Nat.reduceAdd,Nat.reduceMul,Nat.reduceLT,Int.reduceToNat,Int.reduceAdd,Int.reduceSub,Int.reduceMul,aB,ak,ao,au,aw,ax,ay,az,ah,Nat.reduceLeDiff,decide_true,decide_false]
      refine U.2 ⟨l++[(n:Int)],a2,aP,by simp [hl],rfl,by simpa using g2,dE.new E fr g3,fun b hb=>by have:=g4 b hb;have:=E.next;omega,?_⟩
      rw [hr];simp [Function.comp_def]
    |none=>
      rw [h0] at hr
      simp only at hr
      have z:((5:Int) != 0)=true:=rfl
      simp -implicitDefEqProofs only [z,Bool.not_true,Bool.not_false,Nat.reduceAdd,Nat.reduceMul,Nat.reduceLT,Int.reduceToNat,Int.reduceAdd,Int.reduceSub,Int.reduceMul,aB,ak,ao,au,aw,ax,ay,az,ah,Nat.reduceLeDiff,decide_true,decide_false]
      exact U.2 ⟨hr,rfl,E⟩
  · rintro _ ⟨l,a',aj,hl,rfl,own,E,fr,hr⟩
    have dk:decide ((ws.length:Int)<(ws.length:Int))=false:=decide_eq_false (by omega)
    simp -implicitDefEqProofs only [oJ,dk,Nat.reduceAdd,Nat.reduceMul,Nat.reduceLT,Int.reduceToNat,Int.reduceAdd,Int.reduceSub,Int.reduceMul,aB,ak,ao,au,aw,ax,ay,az,ah,Nat.reduceLeDiff,decide_true,decide_false]
    rw [List.drop_length,fu] at hr
    refine U.2 ⟨l,a',by rw [hr];simp,by rw [hl],by rw [hl];exact own,E,fr⟩
theorem acs {σ:AH O} {a:SA} {ws:List Bs} (ha:Gg a ws) (hw:∀ w∈ws,w.length ≤ 1000000000) (hn:ws.length ≤ 1000000):
    Ok (kR [.sl a ws.length] σ) fun r=>(match fu ws with |some l=>∃ a',r.1=.aS [.sl a' l.length,.b true] ∧ bF .u64 a' l |none=>r.1=.aS [.sl .nil 0,.b false]) ∧ Ext σ r.2:=by
  unfold kR
  have key:Ok (gn ck [.sl a ws.length] σ) fun r=>(∃ l a',fu ws=some l ∧ r.1=.aS [.sl a' l.length,.b true] ∧ aN r.2 63 1 a' l.length (l.map (AV.i .u64)) ∧ Ext σ r.2 ∧ ∀ b∈SA.bk a',σ.next ≤ b) ∨ (fu ws=none ∧ r.1=.aS [.sl .nil 0,.b false] ∧ Ext σ r.2):=by
    simp -implicitDefEqProofs only [gn,Nat.reduceAdd,Nat.reduceMul,Nat.reduceLT,Int.reduceToNat,Int.reduceAdd,Int.reduceSub,Int.reduceMul,aB,ak,ao,au,aw,ax,ay,az,ah,Nat.reduceLeDiff,decide_true,decide_false]
    refine Ok.bK (WY ha hw hn) (fun q hq=>?_) (fun r hr=>?_)
    · obtain ⟨l,a',h1,h2,h3,h4,h5⟩:=hq
      obtain ⟨q,aP⟩:=q
      simp only at h2 h3 h4
      subst h2
      simp -implicitDefEqProofs only [Nat.reduceAdd,Nat.reduceMul,Nat.reduceLT,Int.reduceToNat,Int.reduceAdd,Int.reduceSub,Int.reduceMul,aB,ak,ao,au,aw,ax,ay,az,ah,Nat.reduceLeDiff,decide_true,decide_false]
      exact U.2 (.inl ⟨l,a',h1,rfl,h3,h4,h5⟩)
    · exact .inr hr
  cases hR:fu ws with
  |some l=>
    refine (Dw (s:=gn ck) (k:=.u64) (l:=l) (vs:=[.b true]) rfl (key.mono ?_)).mono fun r h=>⟨h.1.imp fun a' h=>⟨h.1,bF.mk h.2⟩,h.2⟩
    rintro ⟨v,aP⟩ (⟨l',a',h1,h2,h3,h4,h5⟩ |⟨h1,_⟩)
    · rw [hR] at h1
      obtain rfl:=Option.some.inj h1
      exact ⟨a',63,h2,h3,h4,h5⟩
    · rw [hR] at h1;cases h1
  |none=>
    refine yp (s:=gn ck) (Q:=fun v=>v=.aS [.sl .nil 0,.b false]) (key.mono ?_)
    rintro ⟨v,aP⟩ (⟨l',a',h1,_⟩ |⟨h1,h2,h3⟩)
    · rw [hR] at h1;cases h1
    · simp only at h2 h3;subst h2
      exact ⟨_,[],FZ.aS (re.flat rfl),by simp,h3,rfl⟩
end Go.Abs.Tryz
namespace Go.Abs.Tryz
open Go Go.Abs
variable {O:Type}
theorem Ju {σ:AH O} {s:Bs} {c:UInt8} (hl:s.length ≤ 1000000):Ok (strings_Split [.s s,.s [c]] σ) fun r=>∃ a,r=(.sl a (dK c s).length,σ) ∧ Gg a (dK c s):=by
  have:strings_Split [.s s,.s [c]] σ=some (.sl (.loc (.f ((dK c s).map AV.s)) 0 1) (dK c s).length,σ):=by
    simp only [strings_Split,Nat.ble_eq_true_of_le hl,cond_true]
  rw [this]
  exact U.2 ⟨_,rfl,nh.f (by simp)⟩
theorem X7 {c:UInt8} {s w:Bs} (hl:s.length ≤ 1000000) (h:w∈dK c s):w.length ≤ 1000000:=by
  have h1:∀ (ws:List Bs),∀ w∈ws,w.length ≤ (bL c ws).length:=fun ws=>by
    induction ws with
    |nil=>intro w hw;cases hw
    |cons x ws ih=>
      intro w hw
      cases ws with
      |nil=>
       rcases List.mem_cons.1 hw with rfl |hw
       · simp [bL]
       · cases hw
      |cons y ws=>
        rw [ti c x (by simp),List.length_append,List.length_cons]
        rcases List.mem_cons.1 hw with rfl |hw
        · omega
        · have:=ih w hw;omega
  have:=h1 _ w h
  rw [HQ] at this;omega
theorem ZS {a:SA} {w:Bs} {ws:List Bs} (h:Gg a (w::ws)):∃ a',a.DD 1 1=some a' ∧ Gg a' ws:=by
  obtain ⟨a',h1,h2⟩:=h.DD (lo:=1) (m:=ws.length) (by simp;omega)
  refine ⟨a',h1,?_⟩
  have e:(((w::ws).map AV.s).drop (1*1)).take (ws.length*1)=ws.map AV.s:=by rw [Nat.mul_one,Nat.mul_one,List.map_cons,List.drop_one,List.tail_cons,List.take_of_length_le (by simp)]
  rw [e] at h2;exact h2
theorem U5 {σ:AH O} {s w:Bs} (hl:s.length ≤ 1000000):
    Ok (bM [.s s,.s w] σ) fun r=>(match gg w s with |some l=>∃ a',r.1=.aS [.sl a' l.length,.b true] ∧ bF .i64 a' l |none=>r.1=.aS [.sl .nil 0,.b false]) ∧ Ext σ r.2:=by
  unfold bM
  refine yp (s:=dM strings_Split fP) (Q:=fun v=>match gg w s with |some l=>∃ a',v=.aS [.sl a' l.length,.b true] ∧ bF .i64 a' l |none=>v=.aS [.sl .nil 0,.b false]) ?_
  have fin:∀ {v:AV} {aj:AH O},(match gg w s with |some l=>∃ a',v=.aS [.sl a' l.length,.b true] ∧ bF .i64 a' l |none=>v=.aS [.sl .nil 0,.b false]) → Ext σ aj → ∃ v' L,FZ 8 aj.ai L v v' ∧ (∀ b∈L,σ.next ≤ b) ∧ Ext σ aj ∧ (match gg w s with |some l=>∃ a',v'=.aS [.sl a' l.length,.b true] ∧ bF .i64 a' l |none=>v'=.aS [.sl .nil 0,.b false]):=fun {v aj} h E=>by
    refine ⟨v,[],?_,by simp,E,h⟩
    cases hR:gg w s with
    |some l=>
      rw [hR] at h
      obtain ⟨a',rfl,h⟩:=h
      exact FZ.aS (re.flat (by have:=h.imm.flat;simp only [List.all_cons,List.all_nil,this];rfl))
    |none=>
      rw [hR] at h
      subst h
      exact FZ.aS (re.flat rfl)
  simp -implicitDefEqProofs only [dM,Nat.reduceAdd,Nat.reduceMul,Nat.reduceLT,Int.reduceToNat,Int.reduceAdd,Int.reduceSub,Int.reduceMul,aB,ak,ao,au,aw,ax,ay,az,ah,Nat.reduceLeDiff,decide_true,decide_false]
  refine Ok.step (Ju hl) ?_
  rintro _ ⟨a,rfl,ha⟩
  have hf:=fun v hv=>X7 (c:=32) (w:=v) hl hv
  have Jy:=yz 32 s
  have hLe:gg w s=if (dK 32 s).head? = some w then db (dK 32 s).tail else none:=rfl
  cases hc:dK 32 s with
  |nil=>exact absurd hc (Sx 32 s)
  |cons x ws=>
    rw [hc] at ha hf Jy hLe
    obtain ⟨b,o,r1,ld⟩:=gQ ha (k:=0) (w:=x) rfl
    have ld:=ld O σ
    rw [Nat.add_zero] at ld
    have d0:decide ((0:Int)<(((x::ws).length:Nat):Int))=true:=decide_eq_true (by simp only [List.length_cons];omega)
    have d1:decide ((1:Int) ≤ (((x::ws).length:Nat):Int))=true:=decide_eq_true (by simp only [List.length_cons];omega)
    have d2:decide ((((x::ws).length:Nat):Int) ≤ (((x::ws).length:Nat):Int))=true:=decide_eq_true (by omega)
    have en:(x::ws).length - 1=ws.length:=by simp
    obtain ⟨a',r2,ha'⟩:=ZS ha
    generalize (x::ws).length=n at*
    have t3:(true && true)=true:=rfl
    by_cases hx:x=w
    · have q:(x == w)=true:=by simpa using hx
      simp -implicitDefEqProofs only [d0,r1,ld,q,Bool.not_true,d1,d2,t3,r2,Int.toNat_natCast,en,Nat.reduceAdd,Nat.reduceMul,Nat.reduceLT,Int.reduceToNat,Int.reduceAdd,Int.reduceSub,Int.reduceMul,aB,ak,ao,au,aw,ax,ay,az,ah,Nat.reduceLeDiff,decide_true,decide_false]
      refine Ok.step (X6 ha' (fun v hv=>Nat.le_trans (hf v (List.mem_cons_of_mem _ hv)) (by omega)) (by omega)) ?_
      rintro ⟨v,aP⟩ ⟨h1,E⟩
      simp only at h1 E
      have hLs:gg w s=db ws:=by rw [hLe,hx];simp
      cases hR:db ws with
      |some l=>
        rw [hR] at h1
        obtain ⟨a2,rfl,h2⟩:=h1
        simp -implicitDefEqProofs only [Nat.reduceAdd,Nat.reduceMul,Nat.reduceLT,Int.reduceToNat,Int.reduceAdd,Int.reduceSub,Int.reduceMul,aB,ak,ao,au,aw,ax,ay,az,ah,Nat.reduceLeDiff,decide_true,decide_false]
        exact U.2 (fin (by rw [hLs,hR];exact ⟨a2,rfl,h2⟩) E)
      |none=>
        rw [hR] at h1
        subst h1
        simp -implicitDefEqProofs only [Nat.reduceAdd,Nat.reduceMul,Nat.reduceLT,Int.reduceToNat,Int.reduceAdd,Int.reduceSub,Int.reduceMul,aB,ak,ao,au,aw,ax,ay,az,ah,Nat.reduceLeDiff,decide_true,decide_false]
        exact U.2 (fin (by rw [hLs,hR]) E)
    · have q:(x == w)=false:=by simpa using hx
      have hLs:gg w s=none:=by rw [hLe,if_neg (by simpa using hx)]
      simp -implicitDefEqProofs only [d0,r1,ld,q,Bool.not_false,Nat.reduceAdd,Nat.reduceMul,Nat.reduceLT,Int.reduceToNat,Int.reduceAdd,Int.reduceSub,Int.reduceMul,aB,ak,ao,au,aw,ax,ay,az,ah,Nat.reduceLeDiff,decide_true,decide_false]
      exact U.2 (fin (by rw [hLs]) (Ext.refl _))
end Go.Abs.Tryz
namespace Go.Abs.Tryz
open Go Go.Abs
variable {O:Type}
theorem acu {w:List Bs} {k:Nat} (h:w[k]? = some jg) (hn:∀ j,j<k → w[j]? ≠ some jg):bN w=k:=by
  obtain ⟨hk,e⟩:=List.getElem?_eq_some_iff.1 h
  unfold bN
  rw [List.findIdx_eq hk]
  refine ⟨by simp [e],fun j hj=>?_⟩
  have:=hn j hj
  rw [List.getElem?_eq_getElem (by omega)] at this
  simpa using this
theorem acv {w:List Bs} (hn:∀ j,j<w.length → w[j]? ≠ some jg):bN w=w.length:=by
  unfold bN
  rw [List.findIdx_eq_length]
  intro x hx
  obtain ⟨j,hj,rfl⟩:=List.getElem_of_mem hx
  have:=hn j hj
  rw [List.getElem?_eq_getElem hj] at this
  simpa using this
theorem ZT {σ:AH O} {a:SA} {w:List Bs} (ha:Gg a w) (hn:w.length ≤ 1000001):
    Ok (aQ (S:=List AV × AH O) (T:=List AV × AH O) (eV (a,w.length)) ([.i .i64 (-1),.i .i64 0],σ)) fun r=>r=([.i .i64 (if bN w<w.length then (bN w:Int) else -1)],σ):=by
  refine Ok.count w.length (fun k s=>s=([.i .i64 (-1),.i .i64 (k:Int)],σ) ∧ ∀ j,j<k → w[j]? ≠ some jg) ?_ ?_ ⟨rfl,fun j h=>by omega⟩
  · rintro k _ hk ⟨rfl,hc⟩
    have hx:w[k]? = some w[k]:=List.getElem?_eq_getElem hk
    generalize hw:w[k]=x at hx
    obtain ⟨bb,oo,r1,ld⟩:=gQ ha hx
    have ld:=ld O σ
    have dk:decide ((k:Int)<(w.length:Int))=true:=decide_eq_true (by omega)
    have d0:decide ((0:Int) ≤ (k:Int))=true:=decide_eq_true (by omega)
    have t3:(true && true)=true:=rfl
    have k1:k*1=k:=Nat.mul_one k
    have e1:IntKind.i64.wrap ((k:Int)+1)=((k+1:Nat):Int):=by rw [bJ (by omega) (by omega)];omega
    by_cases h:x=jg
    · have q:(x == ([58]:List UInt8))=true:=by rw [h];rfl
      simp -implicitDefEqProofs only [eV,dk,d0,t3,r1,Int.toNat_natCast,k1,ld,q,Nat.reduceAdd,Nat.reduceMul,Nat.reduceLT,Int.reduceToNat,Int.reduceAdd,Int.reduceSub,Int.reduceMul,aB,ak,ao,au,aw,ax,ay,az,ah,Nat.reduceLeDiff,decide_true,decide_false]
      have:=acu (by rw [hx,h]) hc
      exact U.2 (by rw [this,if_pos hk])
    · have q:(x == ([58]:List UInt8))=false:=by simpa [jg] using h
      simp -implicitDefEqProofs only [eV,dk,d0,t3,r1,Int.toNat_natCast,k1,ld,q,e1,Nat.reduceAdd,Nat.reduceMul,Nat.reduceLT,Int.reduceToNat,Int.reduceAdd,Int.reduceSub,Int.reduceMul,aB,ak,ao,au,aw,ax,ay,az,ah,Nat.reduceLeDiff,decide_true,decide_false]
      refine U.2 ⟨rfl,fun j hj=>?_⟩
      by_cases hjk:j=k
      · subst hjk;rw [hx];simpa using h
      · exact hc j (by omega)
  · rintro _ ⟨rfl,hc⟩
    have dk:decide ((w.length:Int)<(w.length:Int))=false:=decide_eq_false (by omega)
    simp -implicitDefEqProofs only [eV,dk,Nat.reduceAdd,Nat.reduceMul,Nat.reduceLT,Int.reduceToNat,Int.reduceAdd,Int.reduceSub,Int.reduceMul,aB,ak,ao,au,aw,ax,ay,az,ah,Nat.reduceLeDiff,decide_true,decide_false]
    exact U.2 (by rw [acv hc,if_neg (by omega)])
end Go.Abs.Tryz
