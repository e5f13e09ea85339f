/-
  Forms that come in as arguments; which forms are tried. No conditions.
-/
import Derived.Test.YtlgnboohmahbaaaGreatDoorAbsIn
import Derived.Test.YtlgnboohmahbaaaGreatDoorU16
import Derived.Test.YtlgnboohmahbaaaGreatDoorI24
import Derived.Test.YtlgnboohmahbaaaGreatDoorW0
set_option linter.unusedVariables false
set_option linter.unusedSimpArgs false
set_option linter.constructorNameAsVariable false
set_option linter.unusedSimpArgs false
set_option linter.unusedVariables false
set_option maxHeartbeats 2000000
set_option maxRecDepth 100000
namespace Go.Abs
open Go
variable {P:Program}
theorem W4 {n:Int} (h:IntKind.i64.min ≤ n ∧ n ≤ IntKind.i64.max):Kf n:=h
theorem ajw {n:Int} (h:IntKind.u64.min ≤ n ∧ n ≤ IntKind.u64.max):U64 n:=⟨h.1,Int.lt_add_one_of_le h.2⟩
theorem agC {d:Nat} {t:TypeId} {fs:Array Field} {cs:List AV} (hu:P.underlying t=some (.struct fs)) (h:Gp P (d+1) t cs):
  ∃ parts:List (List AV),cs=parts.flatten ∧ parts.length=fs.toList.length ∧ ∀ (i:Nat) (f:Field) (part:List AV),fs.toList[i]? = some f → parts[i]? = some part → Gp P d f.type part:=by
 unfold Gp at h;rw [hu] at h;exact h
end Go.Abs
namespace Go.Abs.Tryz
open Go Go.Abs Go.Proofs
variable {O:Type}
theorem acB {d:Nat} {cs:List AV} (h:Gp Tryz.prog (d+2) 45 cs):∃ p r,cs=[.i .i64 p,.i .i64 r]:=by
 obtain ⟨parts,rfl,hl,hp⟩:=agC Tryz.underlying45 h
 match parts,hl,hp with
 |[p0,p1],_,hp=>
  obtain ⟨a,rfl,ha⟩:=YH (k:=.i64) Tryz.underlying3 (hp 0 _ p0 rfl rfl)
  obtain ⟨b,rfl,hb⟩:=YH (k:=.i64) Tryz.underlying3 (hp 1 _ p1 rfl rfl)
  exact ⟨a,b,rfl⟩
theorem ZX {d:Nat} {cs:List AV} (h:Gp Tryz.prog (d+3) 47 cs):∃ x:HV,cs=x.cs ∧ Kf x.site ∧ Kf x.pR:=by
 obtain ⟨parts,rfl,hl,hp⟩:=agC Tryz.underlying47 h
 match parts,hl,hp with
 |[p0,p1,p2,p3],_,hp=>
  obtain ⟨p,r,rfl⟩:=acB (d:=d) (hp 0 _ p0 rfl rfl)
  obtain ⟨a,rfl,ha⟩:=YH (k:=.i64) Tryz.underlying3 (hp 1 _ p1 rfl rfl)
  obtain ⟨b,rfl,hb⟩:=YH (k:=.i64) Tryz.underlying3 (hp 2 _ p2 rfl rfl)
  obtain ⟨c,rfl⟩:=apC Tryz.underlying4 (hp 3 _ p3 rfl rfl)
  exact ⟨⟨p,r,a,b,c⟩,rfl,ha,hb⟩
theorem X' {d:Nat} {cs:List AV} (h:Gp Tryz.prog (d+4) 50 cs):∃ (x:NV) (a b:SA),cs=x.cells a b ∧ bF .i64 a x.P ∧ bF .u64 b x.R ∧ x.Me:=by
 obtain ⟨parts,rfl,hl,hp⟩:=agC Tryz.underlying50 h
 match parts,hl,hp with
 |[p0,p1,p2],_,hp=>
  obtain ⟨hv,rfl,is,ig⟩:=ZX (d:=d) (hp 0 _ p0 rfl rfl)
  obtain ⟨a,P,rfl,_,ia,ha⟩:=Xn (d:=d+2) (k:=.i64) Tryz.underlying23 Tryz.underlying3 (by kernel_rfl) (hp 1 _ p1 rfl rfl)
  obtain ⟨b,R,rfl,_,ib,hb⟩:=Xn (d:=d+2) (k:=.u64) Tryz.underlying48 Tryz.underlying63 (by kernel_rfl) (hp 2 _ p2 rfl rfl)
  exact ⟨⟨hv,P,R⟩,a,b,rfl,bF.mk ia,bF.mk ib,is,ig,fun z hz=>W4 (ha z hz),fun z hz=>ajw (hb z hz)⟩
theorem U' {d:Nat}:∀ {els:List (List AV)},(∀ el∈els,Gp Tryz.prog (d+4) 50 el) → ∃ l:List NV,l.length=els.length ∧ ng (l.flatMap NV.row) els.flatten ∧ ∀ x∈l,x.Me
 |[],_=>⟨[],rfl,.nil,by simp⟩
 |e::els,h=>by
  obtain ⟨x,a,b,rfl,ia,ib,hx⟩:=X' (h e List.mem_cons_self)
  obtain ⟨l,h1,h2,h3⟩:=U' (d:=d) (els:=els) fun y hy=>h y (List.mem_cons_of_mem _ hy)
  refine ⟨x::l,by simp [h1],?_,fun y hy=>?_⟩
  ·rw [List.flatMap_cons,List.flatten_cons];exact (NV.mk_ ia ib).app h2
  ·rcases List.mem_cons.1 hy with rfl |hy
   ·exact hx
   ·exact h3 y hy
structure _root_.Go.Abs.FV.acC (F:FV):Prop where
 n:∀ x∈F.nodes,x.Me
 r:∀ z∈F.roots,Kf z
 w:∀ z∈F.bn,Kf z
theorem form_in {x:AV} (h:Gq Tryz.prog 25 x):∃ F:FV,F.At x ∧ F.acC:=by
 obtain ⟨cs,rfl,hc⟩:=ak2 Tryz.underlying25 h
 obtain ⟨parts,rfl,hl,hp⟩:=agC (d:=11) Tryz.underlying25 hc
 match parts,hl,hp with
 |[p0,p1,p2],_,hp=>
  have c7:Tryz.prog.cellsOf 50=7:=by kernel_rfl
  obtain ⟨a,els,rfl,_,ia,ha⟩:=agX (d:=10) Tryz.underlying22 (hp 0 _ p0 rfl rfl) (fun el Eo=>by obtain ⟨x,a,b,rfl,_⟩:=X' (d:=6) Eo;rw [c7];rfl)
  obtain ⟨b,R,rfl,_,ib,hb⟩:=Xn (d:=10) (k:=.i64) Tryz.underlying23 Tryz.underlying3 (by kernel_rfl) (hp 1 _ p1 rfl rfl)
  obtain ⟨c,W,rfl,_,ic,hc⟩:=Xn (d:=10) (k:=.i64) Tryz.underlying23 Tryz.underlying3 (by kernel_rfl) (hp 2 _ p2 rfl rfl)
  obtain ⟨N,h1,h2,h3⟩:=U' (d:=6) ha
  rw [c7,← h1] at ia
  refine ⟨⟨N,R,W⟩,⟨a,b,c,?_,⟨fun _=>rfl,_,ia,h2⟩,bF.mk ib,bF.mk ic⟩,h3,fun z hz=>W4 (hb z hz),fun z hz=>W4 (hc z hz)⟩
  show AV.agg [_,_,_]=_
  rw [← h1]
structure HY (F:FV):Prop where
 n:F.nodes.length ≤ 20
 x:∀ x∈F.nodes,x.P.length ≤ 20 ∧ x.R.length ≤ 20
 r:F.roots.length ≤ 20
 w:F.bn.length ≤ 20
theorem HY.lin {F:FV} (h:HY F) (hr:F.acC):F.lin:=⟨by have:=h.n;omega,fun x hx=>⟨hr.n x hx,by have:=(h.x x hx).1;omega,by have:=(h.x x hx).2;omega⟩,by have:=h.r;omega,by have:=h.w;omega,hr.r,hr.w⟩
theorem acD {σ:AH O} {F:FV} {v:AV} (hF:F.At v):Ok (gT [v] σ) fun r=>(r.1=.b false ∨ r.1=.b true ∧ HY F) ∧ Ext σ r.2:=by
 obtain ⟨a,b,c,rfl,h1,h2,h3⟩:=hF.it
 unfold gT pY
 refine Ok.cT rfl ?_
 refine Ok.to (x:=[.sl a F.nodes.length,.sl b F.roots.length,.sl c F.bn.length]) rfl ?_
 refine Ok.to (x:=(a,F.nodes.length)) rfl ?_
 refine Ok.to (x:=(b,F.roots.length)) rfl ?_
 refine Ok.to (x:=(c,F.bn.length)) rfl ?_
 obtain ⟨aJ,agD⟩:∃ s,(σ.bump 1).put σ.next (.cells true 25 [.sl a F.nodes.length,.sl b F.roots.length,.sl c F.bn.length])=s:=⟨_,rfl⟩
 have b1:aJ.ai σ.next=some (.cells true 25 [.sl a F.nodes.length,.sl b F.roots.length,.sl c F.bn.length]):=by rw [← agD];exact cH
 have E1:Ext σ aJ:=by rw [← agD];exact ((Ext.refl σ).bump 1).put (Nat.le_refl _) _
 show Ok (bK (aQ _ (_,(σ.bump 1).put σ.next (.cells true 25 [.sl a F.nodes.length,.sl b F.roots.length,.sl c F.bn.length]))) _) _
 rw [agD]
 clear agD
 refine Ok.bK (Q:=fun r=>match r with
   |.inl s=>s=([],aJ) ∧ ∀ j,j<20 → ∀ x,F.nodes[j]? = some x → x.P.length ≤ 20 ∧ x.R.length ≤ 20
   |.inr r=>r=(.b false,aJ)) ?_ (fun s hs=>?_) (fun r hr=>by rw [hr];exact ⟨.inl rfl,E1⟩)
 ·refine Ok.count (min F.nodes.length 20) (fun k s=>s=([.i .i64 (k:Int)],aJ) ∧ ∀ j,j<k → ∀ x,F.nodes[j]? = some x → x.P.length ≤ 20 ∧ x.R.length ≤ 20) ?_ ?_ ⟨rfl,fun j hj=>by omega⟩
  ·rintro k _ hk ⟨rfl,hI⟩
   have hkl:k<F.nodes.length:=by omega
   have hx:=List.getElem?_eq_getElem hkl
   obtain ⟨bb,oo,cc,dd,ea,ic,id,we⟩:=Row.node h1 hx
   have we:=we O aJ
   generalize F.nodes[k]=x at*
   have dk:decide ((k:Int)<(F.nodes.length:Int))=true:=decide_eq_true (by omega)
   have d20:decide ((k:Int)<20)=true:=decide_eq_true (by omega)
   have d0:decide ((0:Int) ≤ (k:Int))=true:=decide_eq_true (by omega)
   have e1:IntKind.i64.wrap ((k:Int)+1)=((k+1:Nat):Int):=by rw [bJ (by omega) (by omega)];omega
   refine Ok.to (x:=(k:Int)) rfl ?_
   refine Ok.to (x:=.sl a F.nodes.length) (by simp -implicitDefEqProofs only [b1,Nat.reduceAdd,Nat.reduceMul,Nat.reduceLT,Int.reduceToNat,Int.reduceAdd,Int.reduceSub,Int.reduceMul,aB,ak,ao,au,aw,ax,ay,az,ah,Nat.reduceLeDiff,decide_true,decide_false]) (Ok.to (x:=(a,F.nodes.length)) rfl ?_)
   refine Ok.step (Q:=fun r=>r=([.b true],aJ)) ?_ ?_
   ·exact Ok.cT (by rw [dk];rfl) (U.2 (by rw [d20]))
   rintro _ rfl
   refine Ok.to (x:=true) rfl ?_
   refine Ok.cT rfl ?_
   refine Ok.to (x:=.sl a F.nodes.length) (by simp -implicitDefEqProofs only [b1,Nat.reduceAdd,Nat.reduceMul,Nat.reduceLT,Int.reduceToNat,Int.reduceAdd,Int.reduceSub,Int.reduceMul,aB,ak,ao,au,aw,ax,ay,az,ah,Nat.reduceLeDiff,decide_true,decide_false]) (Ok.to (x:=(a,F.nodes.length)) rfl ?_)
   refine Ok.cT (by rw [d0,dk];rfl) ?_
   refine Ok.to (x:=(bb,oo)) (by rw [ea];rfl) ?_
   refine Ok.to (x:=.sl cc x.P.length) we.2.2.2.2.2.1 (Ok.to (x:=(cc,x.P.length)) rfl ?_)
   refine Ok.step (Q:=fun r=>r=([.b (decide ((x.P.length:Int) > 20) || decide ((x.R.length:Int) > 20))],aJ)) ?_ ?_
   ·cases hd:decide ((x.P.length:Int) > 20) with
    |true=>exact Ok.cF rfl (U.2 rfl)
    |false=>
     refine Ok.cT rfl ?_
     refine Ok.to (x:=.sl a F.nodes.length) (by simp -implicitDefEqProofs only [b1,Nat.reduceAdd,Nat.reduceMul,Nat.reduceLT,Int.reduceToNat,Int.reduceAdd,Int.reduceSub,Int.reduceMul,aB,ak,ao,au,aw,ax,ay,az,ah,Nat.reduceLeDiff,decide_true,decide_false]) (Ok.to (x:=(a,F.nodes.length)) rfl ?_)
     refine Ok.cT (by rw [d0,dk];rfl) ?_
     refine Ok.to (x:=(bb,oo)) (by rw [ea];rfl) ?_
     refine Ok.to (x:=.sl dd x.R.length) we.2.2.2.2.2.2 (Ok.to (x:=(dd,x.R.length)) rfl ?_)
     exact U.2 rfl
   rintro _ rfl
   refine Ok.to (x:=(decide ((x.P.length:Int) > 20) || decide ((x.R.length:Int) > 20))) rfl ?_
   cases hd:(decide ((x.P.length:Int) > 20) || decide ((x.R.length:Int) > 20)) with
   |true=>exact Ok.cT rfl (U.2 rfl)
   |false=>
    refine Ok.cF rfl (U.2 ⟨by rw [e1],fun j hj y hy=>?_⟩)
    rw [Bool.or_eq_false_iff,decide_eq_false_iff_not,decide_eq_false_iff_not] at hd
    by_cases e:j=k
    ·subst e
     rw [hx] at hy;cases hy;omega
    ·exact hI j (by omega) y hy
  ·rintro _ ⟨rfl,hI⟩
   have fin:([],aJ)=(([],aJ):List AV × AH O) ∧ ∀ j,j<20 → ∀ x,F.nodes[j]? = some x → x.P.length ≤ 20 ∧ x.R.length ≤ 20:=⟨rfl,fun j hj x hx=>hI j (by have:=(List.getElem?_eq_some_iff.1 hx).1;omega) x hx⟩
   refine Ok.to (x:=((min F.nodes.length 20:Nat):Int)) rfl ?_
   refine Ok.to (x:=.sl a F.nodes.length) (by simp -implicitDefEqProofs only [b1,Nat.reduceAdd,Nat.reduceMul,Nat.reduceLT,Int.reduceToNat,Int.reduceAdd,Int.reduceSub,Int.reduceMul,aB,ak,ao,au,aw,ax,ay,az,ah,Nat.reduceLeDiff,decide_true,decide_false]) (Ok.to (x:=(a,F.nodes.length)) rfl ?_)
   refine Ok.step (Q:=fun r=>r=([.b false],aJ)) ?_ ?_
   ·by_cases c:F.nodes.length ≤ 20
    ·exact Ok.cF (by rw [decide_eq_false (show ¬ ((min F.nodes.length 20:Nat):Int)<(F.nodes.length:Int) by omega)];rfl) (U.2 rfl)
    ·exact Ok.cT (by rw [decide_eq_true (show ((min F.nodes.length 20:Nat):Int)<(F.nodes.length:Int) by omega)];rfl) (U.2 (by rw [decide_eq_false (show ¬ ((min F.nodes.length 20:Nat):Int)<20 by omega)]))
   rintro _ rfl
   refine Ok.to (x:=false) rfl ?_
   exact Ok.cF rfl (U.2 fin)
 ·obtain ⟨rfl,hI⟩:=hs
  refine Ok.to (x:=.sl a F.nodes.length) (by simp -implicitDefEqProofs only [b1,Nat.reduceAdd,Nat.reduceMul,Nat.reduceLT,Int.reduceToNat,Int.reduceAdd,Int.reduceSub,Int.reduceMul,aB,ak,ao,au,aw,ax,ay,az,ah,Nat.reduceLeDiff,decide_true,decide_false]) (Ok.to (x:=(a,F.nodes.length)) rfl ?_)
  refine Ok.step (Q:=fun r=>r=([.b (decide ((F.nodes.length:Int) ≤ 20) && decide ((F.roots.length:Int) ≤ 20))],aJ)) ?_ ?_
  ·cases hd:decide ((F.nodes.length:Int) ≤ 20) with
   |false=>exact Ok.cF rfl (U.2 rfl)
   |true=>
    refine Ok.cT rfl ?_
    refine Ok.to (x:=.sl b F.roots.length) (by simp -implicitDefEqProofs only [b1,Nat.reduceAdd,Nat.reduceMul,Nat.reduceLT,Int.reduceToNat,Int.reduceAdd,Int.reduceSub,Int.reduceMul,aB,ak,ao,au,aw,ax,ay,az,ah,Nat.reduceLeDiff,decide_true,decide_false]) (Ok.to (x:=(b,F.roots.length)) rfl ?_)
    exact U.2 rfl
  rintro _ rfl
  refine Ok.to (x:=(decide ((F.nodes.length:Int) ≤ 20) && decide ((F.roots.length:Int) ≤ 20))) rfl ?_
  generalize hd:(decide ((F.nodes.length:Int) ≤ 20) && decide ((F.roots.length:Int) ≤ 20))=d at*
  refine Ok.step (Q:=fun r=>r=([.b (d && decide ((F.bn.length:Int) ≤ 20))],aJ)) ?_ ?_
  ·cases d with
   |false=>exact Ok.cF rfl (U.2 rfl)
   |true=>
    refine Ok.cT rfl ?_
    refine Ok.to (x:=.sl c F.bn.length) (by simp -implicitDefEqProofs only [b1,Nat.reduceAdd,Nat.reduceMul,Nat.reduceLT,Int.reduceToNat,Int.reduceAdd,Int.reduceSub,Int.reduceMul,aB,ak,ao,au,aw,ax,ay,az,ah,Nat.reduceLeDiff,decide_true,decide_false]) (Ok.to (x:=(c,F.bn.length)) rfl ?_)
    exact U.2 rfl
  rintro _ rfl
  refine Ok.to (x:=(d && decide ((F.bn.length:Int) ≤ 20))) rfl (U.2 ⟨?_,E1⟩)
  cases hb:(d && decide ((F.bn.length:Int) ≤ 20)) with
  |false=>exact .inl rfl
  |true=>
   refine .inr ⟨rfl,?_⟩
   rw [← hd,Bool.and_eq_true,Bool.and_eq_true,decide_eq_true_eq,decide_eq_true_eq,decide_eq_true_eq] at hb
   exact ⟨by omega,fun x hx=>by
    obtain ⟨j,hj,rfl⟩:=List.getElem_of_mem hx
    exact hI j (by omega) _ (List.getElem?_eq_getElem hj),by omega,by omega⟩
theorem Ya:HS.lin:=by
 refine ⟨Nat.zero_le _,fun x hx=>?_,Nat.zero_le _,Nat.zero_le _,fun x hx=>?_,fun x hx=>?_⟩
 ·cases hx
 ·cases hx
 ·cases hx
end Go.Abs.Tryz
namespace Go.Abs.Tryz
open Go Go.Abs
variable {O:Type}
theorem acE {σ:AH O} {b el:Nat} {x y z x' y' z':AV}:(σ.put b (.cells true el [x,y,z])).st (.n b) 0 [x',y',z']=some (σ.put b (.cells true el [x',y',z'])):=by simp -implicitDefEqProofs only [Nat.reduceAdd,Nat.reduceMul,Nat.reduceLT,Int.reduceToNat,Int.reduceAdd,Int.reduceSub,Int.reduceMul,aB,ak,ao,au,aw,ax,ay,az,ah,Nat.reduceLeDiff,decide_true,decide_false]
theorem acF {F:FV} (h:HY F) (hr:F.acC):(tk F).length ≤ 90000:=by
 have hn:=h.n
 have key:∀ {N:List NV},(∀ x∈N,x.Me ∧ x.P.length ≤ 20 ∧ x.R.length ≤ 20) → (N.flatMap fun x=>eH x++[10]).length ≤ N.length*1100:=fun {N} h=>by
  induction N with
  |nil=>simp
  |cons x N ih=>
   have h1:=h x (by simp)
   have h2:=DB 32 (N0 h1.1)
   have e:(cr x).length=4+x.P.length+(x.R.length+1):=by simp [cr];omega
   rw [e] at h2
   have h3:(eH x).length ≤ 1000:=by unfold eH;omega
   have:=ih fun y hy=>h y (List.mem_cons_of_mem _ hy)
   simp only [List.flatMap_cons,List.length_append,List.length_cons,List.length_nil,Nat.add_mul];omega
 have k1:=key (N:=F.nodes) fun x hx=>⟨hr.n x hx,h.x x hx⟩
 have k2:=zC (w:=fV) hr.r (by have:=h.r;omega) (by decide)
 have k3:=zC (w:=lH) hr.w (by have:=h.w;omega) (by decide)
 rw [Dh]
 simp only [List.length_append,List.length_cons,List.length_nil];omega
theorem Va {F:FV} (h:ct F=true):∀ x∈F.nodes,(x.P.length:Int)=x.h.p ∧ (x.R.length:Int)=x.h.r:=by
 have key:∀ {N:List NV} {n i m:Int},lW n i m N=true → ∀ x∈N,(x.P.length:Int)=x.h.p ∧ (x.R.length:Int)=x.h.r:=fun {N}=>by
  induction N with
  |nil=>intro n i m _ x hx;cases hx
  |cons y N ih=>
   intro n i m h x hx
   rw [JP,Bool.and_eq_true,Bool.and_eq_true,Bool.and_eq_true,Bool.and_eq_true,decide_eq_true_eq,decide_eq_true_eq,decide_eq_true_eq] at h
   obtain ⟨_,_,h1,h2,h3⟩:=h
   rcases List.mem_cons.1 hx with rfl |hx
   ·exact ⟨h1,h2⟩
   ·cases hm:zF n 0 m y.P with
    |none=>rw [hm] at h3;cases h3
    |some m'=>rw [hm] at h3;exact ih h3 x hx
 unfold ct at h
 rw [Bool.and_eq_true] at h
 cases hm:zF F.nodes.length 1 0 F.roots with
 |none=>rw [hm] at h;cases h.1
 |some m=>rw [hm] at h;exact key h.1
end Go.Abs.Tryz
namespace Go.Abs.Tryz
open Go Go.Abs
variable {O:Type}
theorem agE (F:FV):(tk F == [])=false:=by
 rw [beq_eq_false_iff_ne]
 intro h
 have:=congrArg List.length h
 rw [Dh] at this
 simp only [List.length_append,List.length_cons,List.length_nil] at this
 omega
theorem acG {F:FV} (h:HY F):XA F:=⟨h.n,h.x,by have:=h.r;omega,h.w⟩
theorem ajx {F:FV} (h:F.acC):F.Me:=fun x hx w hw=>(h.n x hx).R w hw
theorem topWritten_ok {F:FV} {v:AV} (hF:F.At v) (hr:F.acC):Ok (haymowtop_TopWritten (O:=O) 200 [v] startH) fun r=>r.1=.b true:=by
 have hF0:=hF
 obtain ⟨a,b,c,rfl,i1,i2,i3⟩:=hF.it
 have s0:(startH:AH O).next=0:=rfl
 unfold haymowtop_TopWritten dU
 refine Ok.cT rfl ?_
 refine Ok.to (x:=[.sl a F.nodes.length,.sl b F.roots.length,.sl c F.bn.length]) rfl ?_
 refine Ok.to (x:=(a,F.nodes.length)) rfl ?_
 refine Ok.to (x:=(b,F.roots.length)) rfl ?_
 refine Ok.to (x:=(c,F.bn.length)) rfl ?_
 refine Ok.step (ajv a b c _ _ _) ?_
 rintro ⟨v,aP⟩ ⟨v1,d2,n2⟩
 simp only at v1 d2 n2
 subst v1
 refine Ok.to (x:=true) rfl ?_
 refine Ok.step (Q:=fun r=>r.1=[.b false] ∧ Ext aP r.2) ?_ ?_
 ·refine Ok.cT rfl ?_
  refine Ok.step (wH (FRd.im W1 _) Ya.Gk) ?_
  rintro ⟨v,cE⟩ ⟨v1,E3⟩
  simp only at v1 E3
  subst v1
  exact Ok.to (x:=true) rfl (U.2 ⟨rfl,E3⟩)
 rintro ⟨v,cE⟩ ⟨v1,E3⟩
 simp only at v1 E3
 subst v1
 refine Ok.to (x:=false) rfl ?_
 refine Ok.step (Q:=fun r=>r.1=[.b false] ∧ Ext cE r.2) ?_ ?_
 ·refine Ok.cT rfl ?_
  refine Ok.step (N4 W1 Ya) ?_
  rintro ⟨v,ky⟩ ⟨v1,E4⟩
  simp only at v1 E4
  subst v1
  exact Ok.to (x:=[114,111,111,116,115,10,119,101,97,107,10]) rfl (U.2 ⟨rfl,E4⟩)
 rintro ⟨v,ky⟩ ⟨v1,E4⟩
 simp only at v1 E4
 subst v1
 refine Ok.to (x:=false) rfl ?_
 refine Ok.cF rfl ?_
 have n3:=E3.next
 have n4:=E4.next
 have d4:ky.ai 0=some (.cells true 25 [.sl a F.nodes.length,.sl b F.roots.length,.sl c F.bn.length]):=by rw [E4.ai _ (by omega),E3.ai _ (by omega)];exact d2
 clear E3 E4
 refine Ok.to (x:=.sl a F.nodes.length) (by simp -implicitDefEqProofs only [s0,d4,Nat.reduceAdd,Nat.reduceMul,Nat.reduceLT,Int.reduceToNat,Int.reduceAdd,Int.reduceSub,Int.reduceMul,aB,ak,ao,au,aw,ax,ay,az,ah,Nat.reduceLeDiff,decide_true,decide_false]) (Ok.to (x:=(a,F.nodes.length)) rfl ?_)
 refine Ok.to (x:=.sl b F.roots.length) (by simp -implicitDefEqProofs only [s0,d4,Nat.reduceAdd,Nat.reduceMul,Nat.reduceLT,Int.reduceToNat,Int.reduceAdd,Int.reduceSub,Int.reduceMul,aB,ak,ao,au,aw,ax,ay,az,ah,Nat.reduceLeDiff,decide_true,decide_false]) (Ok.to (x:=(b,F.roots.length)) rfl ?_)
 refine Ok.to (x:=.sl c F.bn.length) (by simp -implicitDefEqProofs only [s0,d4,Nat.reduceAdd,Nat.reduceMul,Nat.reduceLT,Int.reduceToNat,Int.reduceAdd,Int.reduceSub,Int.reduceMul,aB,ak,ao,au,aw,ax,ay,az,ah,Nat.reduceLeDiff,decide_true,decide_false]) (Ok.to (x:=(c,F.bn.length)) rfl ?_)
 refine Ok.step (acD hF0) ?_
 rintro ⟨v,Dv⟩ ⟨v1,E5⟩
 simp only at v1 E5
 have n5:=E5.next
 have d5:Dv.ai 0=some (.cells true 25 [.sl a F.nodes.length,.sl b F.roots.length,.sl c F.bn.length]):=by rw [E5.ai _ (by omega)];exact d4
 clear E5
 rcases v1 with rfl |⟨rfl,hT⟩
 ·exact Ok.to (x:=false) rfl (Ok.cT rfl (U.2 rfl))
 have ajy:=hT.lin hr
 have N6:=ajy.Gk
 have hTI:=acG hT
 have hrg:=ajx hr
 refine Ok.to (x:=true) rfl ?_
 refine Ok.cF rfl ?_
 refine Ok.to (x:=.sl a F.nodes.length) (by simp -implicitDefEqProofs only [s0,d5,Nat.reduceAdd,Nat.reduceMul,Nat.reduceLT,Int.reduceToNat,Int.reduceAdd,Int.reduceSub,Int.reduceMul,aB,ak,ao,au,aw,ax,ay,az,ah,Nat.reduceLeDiff,decide_true,decide_false]) (Ok.to (x:=(a,F.nodes.length)) rfl ?_)
 refine Ok.to (x:=.sl b F.roots.length) (by simp -implicitDefEqProofs only [s0,d5,Nat.reduceAdd,Nat.reduceMul,Nat.reduceLT,Int.reduceToNat,Int.reduceAdd,Int.reduceSub,Int.reduceMul,aB,ak,ao,au,aw,ax,ay,az,ah,Nat.reduceLeDiff,decide_true,decide_false]) (Ok.to (x:=(b,F.roots.length)) rfl ?_)
 refine Ok.to (x:=.sl c F.bn.length) (by simp -implicitDefEqProofs only [s0,d5,Nat.reduceAdd,Nat.reduceMul,Nat.reduceLT,Int.reduceToNat,Int.reduceAdd,Int.reduceSub,Int.reduceMul,aB,ak,ao,au,aw,ax,ay,az,ah,Nat.reduceLeDiff,decide_true,decide_false]) (Ok.to (x:=(c,F.bn.length)) rfl ?_)
 refine Ok.to (x:=.sl a F.nodes.length) (by simp -implicitDefEqProofs only [s0,d5,Nat.reduceAdd,Nat.reduceMul,Nat.reduceLT,Int.reduceToNat,Int.reduceAdd,Int.reduceSub,Int.reduceMul,aB,ak,ao,au,aw,ax,ay,az,ah,Nat.reduceLeDiff,decide_true,decide_false]) (Ok.to (x:=(a,F.nodes.length)) rfl ?_)
 refine Ok.to (x:=.sl b F.roots.length) (by simp -implicitDefEqProofs only [s0,d5,Nat.reduceAdd,Nat.reduceMul,Nat.reduceLT,Int.reduceToNat,Int.reduceAdd,Int.reduceSub,Int.reduceMul,aB,ak,ao,au,aw,ax,ay,az,ah,Nat.reduceLeDiff,decide_true,decide_false]) (Ok.to (x:=(b,F.roots.length)) rfl ?_)
 refine Ok.to (x:=.sl c F.bn.length) (by simp -implicitDefEqProofs only [s0,d5,Nat.reduceAdd,Nat.reduceMul,Nat.reduceLT,Int.reduceToNat,Int.reduceAdd,Int.reduceSub,Int.reduceMul,aB,ak,ao,au,aw,ax,ay,az,ah,Nat.reduceLeDiff,decide_true,decide_false]) (Ok.to (x:=(c,F.bn.length)) rfl ?_)
 refine Ok.step (N4 hF0 ajy) ?_
 rintro ⟨v,PM⟩ ⟨v1,E6⟩
 simp only at v1 E6
 subst v1
 have n6:=E6.next
 have d6:PM.ai 0=some (.cells true 25 [.sl a F.nodes.length,.sl b F.roots.length,.sl c F.bn.length]):=by rw [E6.ai _ (by omega)];exact d5
 clear E6
 refine Ok.to (x:=if ct F=true then tk F else []) rfl ?_
 refine Ok.to (x:=()) (Lr (by simp -implicitDefEqProofs only [s0,d6,Nat.reduceAdd,Nat.reduceMul,Nat.reduceLT,Int.reduceToNat,Int.reduceAdd,Int.reduceSub,Int.reduceMul,aB,ak,ao,au,aw,ax,ay,az,ah,Nat.reduceLeDiff,decide_true,decide_false])) ?_
 refine Ok.to (x:=()) (Lr (by simp -implicitDefEqProofs only [s0,d6,Nat.reduceAdd,Nat.reduceMul,Nat.reduceLT,Int.reduceToNat,Int.reduceAdd,Int.reduceSub,Int.reduceMul,aB,ak,ao,au,aw,ax,ay,az,ah,Nat.reduceLeDiff,decide_true,decide_false])) ?_
 refine Ok.to (x:=()) (Lr (by simp -implicitDefEqProofs only [s0,d6,Nat.reduceAdd,Nat.reduceMul,Nat.reduceLT,Int.reduceToNat,Int.reduceAdd,Int.reduceSub,Int.reduceMul,aB,ak,ao,au,aw,ax,ay,az,ah,Nat.reduceLeDiff,decide_true,decide_false])) ?_
 refine Ok.step (JO (σ:=PM) hF0 N6 hrg (by have:=tR hTI;omega)) ?_
 rintro ⟨v,Q0⟩ ⟨⟨ap,v1,ip⟩,E7⟩
 simp only at v1 E7
 subst v1
 have n7:=E7.next
 have d7:Q0.ai 0=some (.cells true 25 [.sl a F.nodes.length,.sl b F.roots.length,.sl c F.bn.length]):=by rw [E7.ai _ (by omega)];exact d6
 clear E7
 refine Ok.to (x:=(ap,(oT F).length)) rfl ?_
 refine Ok.to (x:=.sl a F.nodes.length) (by simp -implicitDefEqProofs only [s0,d7,Nat.reduceAdd,Nat.reduceMul,Nat.reduceLT,Int.reduceToNat,Int.reduceAdd,Int.reduceSub,Int.reduceMul,aB,ak,ao,au,aw,ax,ay,az,ah,Nat.reduceLeDiff,decide_true,decide_false]) (Ok.to (x:=(a,F.nodes.length)) rfl ?_)
 refine Ok.to (x:=.sl b F.roots.length) (by simp -implicitDefEqProofs only [s0,d7,Nat.reduceAdd,Nat.reduceMul,Nat.reduceLT,Int.reduceToNat,Int.reduceAdd,Int.reduceSub,Int.reduceMul,aB,ak,ao,au,aw,ax,ay,az,ah,Nat.reduceLeDiff,decide_true,decide_false]) (Ok.to (x:=(b,F.roots.length)) rfl ?_)
 refine Ok.to (x:=.sl c F.bn.length) (by simp -implicitDefEqProofs only [s0,d7,Nat.reduceAdd,Nat.reduceMul,Nat.reduceLT,Int.reduceToNat,Int.reduceAdd,Int.reduceSub,Int.reduceMul,aB,ak,ao,au,aw,ax,ay,az,ah,Nat.reduceLeDiff,decide_true,decide_false]) (Ok.to (x:=(c,F.bn.length)) rfl ?_)
 refine Ok.step (wH (FRd.im hF0 _) N6) ?_
 rintro ⟨v,TH⟩ ⟨v1,E8⟩
 simp only at v1 E8
 subst v1
 have n8:=E8.next
 have d8:TH.ai 0=some (.cells true 25 [.sl a F.nodes.length,.sl b F.roots.length,.sl c F.bn.length]):=by rw [E8.ai _ (by omega)];exact d7
 clear E8
 refine Ok.to (x:=ct F) rfl ?_
 cases hR:ct F with
 |false=>
  have hp:oT F=[]:=by unfold oT;rw [hR];rfl
  refine Ok.cT rfl ?_
  refine Ok.step (Q:=fun r=>r=([.b true],TH)) (Ok.cT rfl (U.2 (by rw [hp];rfl))) ?_
  rintro _ rfl
  exact Ok.to (x:=true) rfl (U.2 rfl)
 |true=>
  refine Ok.cF rfl ?_
  have hs:=Va hR
  have hp:oL (tk F)=(F,0,0):=WW (fun x hx=>⟨hr.n x hx,hs x hx⟩) hr.r hr.w hR
  have hg:=adV hR hrg N6
  have Dk:=abl hTI hrg
  refine Ok.step (ZW (t:=tk F) (acF hT hr)) ?_
  rintro ⟨v,Z5⟩ ⟨v1,E9⟩
  simp only at v1 E9
  rw [hp] at v1
  obtain ⟨f,rfl,hH⟩:=v1
  have hH:F.At f:=hH
  have hH0:=hH
  obtain ⟨a3,b3,c3,rfl,k1,k2,k3⟩:=hH.it
  have n9:TH.next+1 ≤ Z5.next:=by simpa using E9.next
  refine Ok.to (x:=[.agg [.sl a3 F.nodes.length,.sl b3 F.roots.length,.sl c3 F.bn.length],.i .i64 0,.i .i64 0]) rfl ?_
  refine Ok.to (x:=[.sl a3 F.nodes.length,.sl b3 F.roots.length,.sl c3 F.bn.length]) rfl ?_
  refine Ok.to (x:=(a3,F.nodes.length)) rfl ?_
  refine Ok.to (x:=(b3,F.roots.length)) rfl ?_
  refine Ok.to (x:=(c3,F.bn.length)) rfl ?_
  refine Ok.to (x:=0) rfl ?_
  refine Ok.to (x:=0) rfl ?_
  refine Ok.to (x:=Z5.put TH.next (.cells true 25 [.sl a3 F.nodes.length,.sl b3 F.roots.length,.sl c3 F.bn.length])) acE ?_
  obtain ⟨GL,Vb⟩:∃ s,Z5.put TH.next (.cells true 25 [.sl a3 F.nodes.length,.sl b3 F.roots.length,.sl c3 F.bn.length])=s:=⟨_,rfl⟩
  have d10:GL.ai 0=some (.cells true 25 [.sl a F.nodes.length,.sl b F.roots.length,.sl c F.bn.length]):=by rw [← Vb,bu (by omega),E9.ai _ (by simp<;>omega)];exact d8
  have f10:GL.ai TH.next=some (.cells true 25 [.sl a3 F.nodes.length,.sl b3 F.roots.length,.sl c3 F.bn.length]):=by rw [← Vb];exact cH
  have cQ:GL.next=Z5.next:=by rw [← Vb];rfl
  rw [Vb]
  clear Vb E9
  obtain ⟨rp,op⟩:=Wk (σ:=GL.bump 1) ip
  refine Ok.step (TG (σ:=GL.bump 1) rp op (Wl F) (by omega)) ?_
  rintro ⟨v,WZ⟩ ⟨⟨g,v1,hG⟩,E11⟩
  simp only at v1 E11
  rw [hg] at v1 hG
  subst v1
  have hG:F.At g:=hG
  have hG0:=hG
  obtain ⟨a4,b4,c4,rfl,l1,l2,l3⟩:=hG.it
  have dZ:GL.next+1 ≤ WZ.next:=by simpa using E11.next
  refine Ok.to (x:=[.agg [.sl a4 F.nodes.length,.sl b4 F.roots.length,.sl c4 F.bn.length],.i .i64 0]) rfl ?_
  refine Ok.to (x:=[.sl a4 F.nodes.length,.sl b4 F.roots.length,.sl c4 F.bn.length]) rfl ?_
  refine Ok.to (x:=(a4,F.nodes.length)) rfl ?_
  refine Ok.to (x:=(b4,F.roots.length)) rfl ?_
  refine Ok.to (x:=(c4,F.bn.length)) rfl ?_
  refine Ok.to (x:=0) rfl ?_
  refine Ok.to (x:=WZ.put GL.next (.cells true 25 [.sl a4 F.nodes.length,.sl b4 F.roots.length,.sl c4 F.bn.length])) acE ?_
  obtain ⟨W5,Qo⟩:∃ s,WZ.put GL.next (.cells true 25 [.sl a4 F.nodes.length,.sl b4 F.roots.length,.sl c4 F.bn.length])=s:=⟨_,rfl⟩
  have d12:W5.ai 0=some (.cells true 25 [.sl a F.nodes.length,.sl b F.roots.length,.sl c F.bn.length]):=by rw [← Qo,bu (by omega),E11.ai _ (by simp<;>omega)];exact d10
  have f12:W5.ai TH.next=some (.cells true 25 [.sl a3 F.nodes.length,.sl b3 F.roots.length,.sl c3 F.bn.length]):=by rw [← Qo,bu (by omega),E11.ai _ (by simp<;>omega)];exact f10
  have g12:W5.ai GL.next=some (.cells true 25 [.sl a4 F.nodes.length,.sl b4 F.roots.length,.sl c4 F.bn.length]):=by rw [← Qo];exact cH
  have dy:W5.next=WZ.next:=by rw [← Qo];rfl
  rw [Qo]
  clear Qo E11
  refine Ok.step (Q:=fun r=>r=([.b true],W5)) (Ok.cT rfl (U.2 rfl)) ?_
  rintro _ rfl
  refine Ok.to (x:=true) rfl ?_
  refine Ok.step (Q:=fun r=>r=([.b true],W5)) (Ok.cT rfl (U.2 rfl)) ?_
  rintro _ rfl
  refine Ok.to (x:=true) rfl ?_
  refine Ok.step (Q:=fun r=>r.1=[.b true] ∧ Ext W5 r.2) ?_ ?_
  ·refine Ok.cT rfl ?_
   refine Ok.to (x:=.sl a3 F.nodes.length) (by simp -implicitDefEqProofs only [f12,Nat.reduceAdd,Nat.reduceMul,Nat.reduceLT,Int.reduceToNat,Int.reduceAdd,Int.reduceSub,Int.reduceMul,aB,ak,ao,au,aw,ax,ay,az,ah,Nat.reduceLeDiff,decide_true,decide_false]) (Ok.to (x:=(a3,F.nodes.length)) rfl ?_)
   refine Ok.to (x:=.sl b3 F.roots.length) (by simp -implicitDefEqProofs only [f12,Nat.reduceAdd,Nat.reduceMul,Nat.reduceLT,Int.reduceToNat,Int.reduceAdd,Int.reduceSub,Int.reduceMul,aB,ak,ao,au,aw,ax,ay,az,ah,Nat.reduceLeDiff,decide_true,decide_false]) (Ok.to (x:=(b3,F.roots.length)) rfl ?_)
   refine Ok.to (x:=.sl c3 F.bn.length) (by simp -implicitDefEqProofs only [f12,Nat.reduceAdd,Nat.reduceMul,Nat.reduceLT,Int.reduceToNat,Int.reduceAdd,Int.reduceSub,Int.reduceMul,aB,ak,ao,au,aw,ax,ay,az,ah,Nat.reduceLeDiff,decide_true,decide_false]) (Ok.to (x:=(c3,F.bn.length)) rfl ?_)
   refine Ok.to (x:=.sl a4 F.nodes.length) (by simp -implicitDefEqProofs only [g12,Nat.reduceAdd,Nat.reduceMul,Nat.reduceLT,Int.reduceToNat,Int.reduceAdd,Int.reduceSub,Int.reduceMul,aB,ak,ao,au,aw,ax,ay,az,ah,Nat.reduceLeDiff,decide_true,decide_false]) (Ok.to (x:=(a4,F.nodes.length)) rfl ?_)
   refine Ok.to (x:=.sl b4 F.roots.length) (by simp -implicitDefEqProofs only [g12,Nat.reduceAdd,Nat.reduceMul,Nat.reduceLT,Int.reduceToNat,Int.reduceAdd,Int.reduceSub,Int.reduceMul,aB,ak,ao,au,aw,ax,ay,az,ah,Nat.reduceLeDiff,decide_true,decide_false]) (Ok.to (x:=(b4,F.roots.length)) rfl ?_)
   refine Ok.to (x:=.sl c4 F.bn.length) (by simp -implicitDefEqProofs only [g12,Nat.reduceAdd,Nat.reduceMul,Nat.reduceLT,Int.reduceToNat,Int.reduceAdd,Int.reduceSub,Int.reduceMul,aB,ak,ao,au,aw,ax,ay,az,ah,Nat.reduceLeDiff,decide_true,decide_false]) (Ok.to (x:=(c4,F.bn.length)) rfl ?_)
   refine Ok.step (ahi hH0 hG0 N6 N6) ?_
   rintro ⟨v,acH⟩ ⟨v1,E13⟩
   simp only at v1 E13
   subst v1
   exact Ok.to (x:=true) (by simp) (U.2 ⟨rfl,E13⟩)
  rintro ⟨v,acH⟩ ⟨v1,E13⟩
  simp only at v1 E13
  subst v1
  have fg:=E13.next
  have d13:acH.ai 0=some (.cells true 25 [.sl a F.nodes.length,.sl b F.roots.length,.sl c F.bn.length]):=by rw [E13.ai _ (by omega)];exact d12
  have f13:acH.ai TH.next=some (.cells true 25 [.sl a3 F.nodes.length,.sl b3 F.roots.length,.sl c3 F.bn.length]):=by rw [E13.ai _ (by omega)];exact f12
  have g13:acH.ai GL.next=some (.cells true 25 [.sl a4 F.nodes.length,.sl b4 F.roots.length,.sl c4 F.bn.length]):=by rw [E13.ai _ (by omega)];exact g12
  clear E13
  refine Ok.to (x:=true) rfl ?_
  refine Ok.step (Q:=fun r=>r.1=[.b true] ∧ Ext acH r.2) ?_ ?_
  ·refine Ok.cT rfl ?_
   refine Ok.to (x:=.sl a3 F.nodes.length) (by simp -implicitDefEqProofs only [f13,Nat.reduceAdd,Nat.reduceMul,Nat.reduceLT,Int.reduceToNat,Int.reduceAdd,Int.reduceSub,Int.reduceMul,aB,ak,ao,au,aw,ax,ay,az,ah,Nat.reduceLeDiff,decide_true,decide_false]) (Ok.to (x:=(a3,F.nodes.length)) rfl ?_)
   refine Ok.to (x:=.sl b3 F.roots.length) (by simp -implicitDefEqProofs only [f13,Nat.reduceAdd,Nat.reduceMul,Nat.reduceLT,Int.reduceToNat,Int.reduceAdd,Int.reduceSub,Int.reduceMul,aB,ak,ao,au,aw,ax,ay,az,ah,Nat.reduceLeDiff,decide_true,decide_false]) (Ok.to (x:=(b3,F.roots.length)) rfl ?_)
   refine Ok.to (x:=.sl c3 F.bn.length) (by simp -implicitDefEqProofs only [f13,Nat.reduceAdd,Nat.reduceMul,Nat.reduceLT,Int.reduceToNat,Int.reduceAdd,Int.reduceSub,Int.reduceMul,aB,ak,ao,au,aw,ax,ay,az,ah,Nat.reduceLeDiff,decide_true,decide_false]) (Ok.to (x:=(c3,F.bn.length)) rfl ?_)
   refine Ok.to (x:=.sl a F.nodes.length) (by simp -implicitDefEqProofs only [s0,d13,Nat.reduceAdd,Nat.reduceMul,Nat.reduceLT,Int.reduceToNat,Int.reduceAdd,Int.reduceSub,Int.reduceMul,aB,ak,ao,au,aw,ax,ay,az,ah,Nat.reduceLeDiff,decide_true,decide_false]) (Ok.to (x:=(a,F.nodes.length)) rfl ?_)
   refine Ok.to (x:=.sl b F.roots.length) (by simp -implicitDefEqProofs only [s0,d13,Nat.reduceAdd,Nat.reduceMul,Nat.reduceLT,Int.reduceToNat,Int.reduceAdd,Int.reduceSub,Int.reduceMul,aB,ak,ao,au,aw,ax,ay,az,ah,Nat.reduceLeDiff,decide_true,decide_false]) (Ok.to (x:=(b,F.roots.length)) rfl ?_)
   refine Ok.to (x:=.sl c F.bn.length) (by simp -implicitDefEqProofs only [s0,d13,Nat.reduceAdd,Nat.reduceMul,Nat.reduceLT,Int.reduceToNat,Int.reduceAdd,Int.reduceSub,Int.reduceMul,aB,ak,ao,au,aw,ax,ay,az,ah,Nat.reduceLeDiff,decide_true,decide_false]) (Ok.to (x:=(c,F.bn.length)) rfl ?_)
   refine Ok.step (ahi hH0 hF0 N6 N6) ?_
   rintro ⟨v,ZY⟩ ⟨v1,E14⟩
   simp only at v1 E14
   subst v1
   exact Ok.to (x:=true) (by simp) (U.2 ⟨rfl,E14⟩)
  rintro ⟨v,ZY⟩ ⟨v1,E14⟩
  simp only at v1 E14
  subst v1
  have fW:=E14.next
  have f14:ZY.ai TH.next=some (.cells true 25 [.sl a3 F.nodes.length,.sl b3 F.roots.length,.sl c3 F.bn.length]):=by rw [E14.ai _ (by omega)];exact f13
  have g14:ZY.ai GL.next=some (.cells true 25 [.sl a4 F.nodes.length,.sl b4 F.roots.length,.sl c4 F.bn.length]):=by rw [E14.ai _ (by omega)];exact g13
  clear E14
  refine Ok.to (x:=true) rfl ?_
  refine Ok.step (Q:=fun r=>r=([.b true],ZY)) (Ok.cT rfl (U.2 (by rw [if_pos rfl,agE];rfl))) ?_
  rintro _ rfl
  refine Ok.to (x:=true) rfl ?_
  refine Ok.step (Q:=fun r=>r.1=[.b true] ∧ Ext ZY r.2) ?_ ?_
  ·refine Ok.cT rfl ?_
   refine Ok.to (x:=.sl a3 F.nodes.length) (by simp -implicitDefEqProofs only [f14,Nat.reduceAdd,Nat.reduceMul,Nat.reduceLT,Int.reduceToNat,Int.reduceAdd,Int.reduceSub,Int.reduceMul,aB,ak,ao,au,aw,ax,ay,az,ah,Nat.reduceLeDiff,decide_true,decide_false]) (Ok.to (x:=(a3,F.nodes.length)) rfl ?_)
   refine Ok.to (x:=.sl b3 F.roots.length) (by simp -implicitDefEqProofs only [f14,Nat.reduceAdd,Nat.reduceMul,Nat.reduceLT,Int.reduceToNat,Int.reduceAdd,Int.reduceSub,Int.reduceMul,aB,ak,ao,au,aw,ax,ay,az,ah,Nat.reduceLeDiff,decide_true,decide_false]) (Ok.to (x:=(b3,F.roots.length)) rfl ?_)
   refine Ok.to (x:=.sl c3 F.bn.length) (by simp -implicitDefEqProofs only [f14,Nat.reduceAdd,Nat.reduceMul,Nat.reduceLT,Int.reduceToNat,Int.reduceAdd,Int.reduceSub,Int.reduceMul,aB,ak,ao,au,aw,ax,ay,az,ah,Nat.reduceLeDiff,decide_true,decide_false]) (Ok.to (x:=(c3,F.bn.length)) rfl ?_)
   refine Ok.to (x:=(oT F).map (AV.i .u8)) (ip O _).bC ?_
   refine Ok.to (x:=u8s (oT F)) (Fo _) ?_
   refine Ok.step (JO (σ:=ZY) hH0 N6 hrg (by have:=tR hTI;omega)) ?_
   rintro ⟨v,anI⟩ ⟨⟨aq,v1,iq⟩,E15⟩
   simp only at v1 E15
   subst v1
   refine Ok.to (x:=(aq,(oT F).length)) rfl ?_
   refine Ok.to (x:=()) (aa1 ((ip O _).bC.trans (ip O _).bC.symm)) ?_
   refine Ok.to (x:=(oT F).map (AV.i .u8)) (iq O _).bC ?_
   refine Ok.to (x:=u8s (oT F)) (Fo _) ?_
   exact U.2 ⟨by rw [beq_self_eq_true],E15⟩
  rintro ⟨v,anI⟩ ⟨v1,E15⟩
  simp only at v1 E15
  subst v1
  have g15:anI.ai GL.next=some (.cells true 25 [.sl a4 F.nodes.length,.sl b4 F.roots.length,.sl c4 F.bn.length]):=by rw [E15.ai _ (by omega)];exact g14
  clear E15
  refine Ok.to (x:=true) rfl ?_
  refine Ok.step (Q:=fun r=>r.1=[.b true]) ?_ ?_
  ·refine Ok.cT rfl ?_
   refine Ok.to (x:=.sl a4 F.nodes.length) (by simp -implicitDefEqProofs only [g15,Nat.reduceAdd,Nat.reduceMul,Nat.reduceLT,Int.reduceToNat,Int.reduceAdd,Int.reduceSub,Int.reduceMul,aB,ak,ao,au,aw,ax,ay,az,ah,Nat.reduceLeDiff,decide_true,decide_false]) (Ok.to (x:=(a4,F.nodes.length)) rfl ?_)
   refine Ok.to (x:=.sl b4 F.roots.length) (by simp -implicitDefEqProofs only [g15,Nat.reduceAdd,Nat.reduceMul,Nat.reduceLT,Int.reduceToNat,Int.reduceAdd,Int.reduceSub,Int.reduceMul,aB,ak,ao,au,aw,ax,ay,az,ah,Nat.reduceLeDiff,decide_true,decide_false]) (Ok.to (x:=(b4,F.roots.length)) rfl ?_)
   refine Ok.to (x:=.sl c4 F.bn.length) (by simp -implicitDefEqProofs only [g15,Nat.reduceAdd,Nat.reduceMul,Nat.reduceLT,Int.reduceToNat,Int.reduceAdd,Int.reduceSub,Int.reduceMul,aB,ak,ao,au,aw,ax,ay,az,ah,Nat.reduceLeDiff,decide_true,decide_false]) (Ok.to (x:=(c4,F.bn.length)) rfl ?_)
   refine Ok.step (N4 hG0 ajy) ?_
   rintro ⟨v,ash⟩ ⟨v1,E16⟩
   simp only at v1
   subst v1
   refine Ok.to (x:=if ct F=true then tk F else []) rfl (U.2 ?_)
   rw [hR,beq_self_eq_true]
  rintro ⟨v,ash⟩ v1
  simp only at v1
  subst v1
  exact Ok.to (x:=true) rfl (U.2 rfl)
end Go.Abs.Tryz
