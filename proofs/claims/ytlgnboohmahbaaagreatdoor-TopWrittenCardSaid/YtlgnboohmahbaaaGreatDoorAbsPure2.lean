/-
  AbsPure2: the operations that only reckon, the rest.
-/
import Derived.Test.YtlgnboohmahbaaaGreatDoorAbsPure
import Derived.Laws.StructEq
import Derived.ChangeKeysEq
set_option linter.unusedVariables false
set_option linter.unusedSimpArgs false
set_option linter.constructorNameAsVariable false
namespace Go.Abs
open Go
variable {ρ:cl} {n:Nat} {e:Env} {a:Act} {P:Program} {R:Type}
theorem eQ {l:jK} {v:AV} {K:AV → Option R} {r:R} (h:nQ l v K=some r):K v=some r:=by
 unfold nQ at h
 cases l<;>simp only [] at h<;>first |exact h |skip
 all_goals (simp only [Option.bind_eq_some_iff] at h;obtain ⟨x,hx,h⟩:=h)
 ·cases v<;>simp_all [AV.aV]
 ·cases v<;>simp only [AV.ag] at hx<;>try (cases hx;done)
  split at hx
  ·rename_i hk;cases hx;subst hk;exact h
  ·cases hx
 ·cases v<;>simp_all [AV.dV]
 ·cases v<;>simp_all [AV.aT]
 ·cases v<;>simp_all [AV.aG]
  obtain ⟨x1,x2⟩:=x;cases hx;exact h
 ·cases v<;>simp_all [AV.Qt]
 ·cases v<;>simp_all [AV.VI]
theorem Ew:∀ (ls:List jK) (i:Nat) (vs:List AV) (K:List AV → Option R) (r:R),i+ls.length=vs.length → fL ls i vs K=some r → K (vs.drop i)=some r
 |[],i,vs,K,r,hl,h=>by
  simp only [fL] at h
  rw [List.drop_of_length_le (by simp at hl;omega)];exact h
 |l::ls,i,vs,K,r,hl,h=>by
  simp only [fL] at h
  have h1:=eQ h
  have h2:=Ew ls (i+1) vs _ r (by simp at hl;omega) h1
  have hi:i<vs.length:=by simp at hl;omega
  rw [List.drop_eq_getElem_cons hi]
  have:vs.getD i .u=vs[i]:=by simp [List.getD,hi]
  rw [this] at h2;exact h2
theorem Ts {ls:List jK} {v:AV} {K:AV → Option R} {r:R} (h:((AV.asAgg ls.length v).bind fun cs=>fL ls 0 cs fun vs=>K (.agg vs))=some r):K v=some r:=by
 obtain ⟨cs,hc,h⟩:=Option.bind_eq_some_iff.1 h
 obtain ⟨ds,rfl⟩:∃ ds,v=.agg ds:=by cases v<;>first |exact ⟨_,rfl⟩ |(cases hc;done)
 simp only [AV.asAgg] at hc
 cases hl:Nat.beq ds.length ls.length with
 |false=>rw [hl] at hc;cases hc
 |true=>
  rw [hl] at hc
  obtain rfl:ds=cs:=by simpa using hc
  have:=Ew ls 0 ds _ r (by have:=Nat.eq_of_beq_eq_true hl;omega) h
  simpa using this
theorem aaO {t:jK ⊕ List jK} {v:AV} {K:AV → Option R} {r:R} (h:as1 t v K=some r):K v=some r:=by
 cases t with
 |inl l=>exact eQ h
 |inr ls=>exact Ts h
theorem PB:∀ (ts:List (jK ⊕ List jK)) (i:Nat) (vs:List AV) (K:List AV → Option R) (r:R),i+ts.length=vs.length → Qu ts i vs K=some r → K (vs.drop i)=some r
 |[],i,vs,K,r,hl,h=>by
  simp only [Qu] at h
  rw [List.drop_of_length_le (by simp at hl;omega)];exact h
 |l::ls,i,vs,K,r,hl,h=>by
  simp only [Qu] at h
  have h1:=aaO h
  have h2:=PB ls (i+1) vs _ r (by simp at hl;omega) h1
  have hi:i<vs.length:=by simp at hl;omega
  rw [List.drop_eq_getElem_cons hi]
  have:vs.getD i .u=vs[i]:=by simp [List.getD,hi]
  rw [this] at h2;exact h2
theorem wD {t:Ty} {v:AV} {K:AV → Option R} {r:R} (h:Oh t v K=some r):K v=some r:=by
 cases t with
 |one l=>exact eQ h
 |agg ls=>exact Ts h
 |aS ts=>
  simp only [Oh] at h
  obtain ⟨cs,hc,h⟩:=Option.bind_eq_some_iff.1 h
  obtain ⟨ds,rfl⟩:∃ ds,v=.aS ds:=by cases v<;>first |exact ⟨_,rfl⟩ |(cases hc;done)
  simp only [AV.aE] at hc
  cases hl:Nat.beq ds.length ts.length with
  |false=>rw [hl] at hc;cases hc
  |true=>
   rw [hl] at hc
   obtain rfl:ds=cs:=by simpa using hc
   have:=PB ts 0 ds _ r (by have:=Nat.eq_of_beq_eq_true hl;omega) h
   simpa using this
theorem dW {t:TypeId} {F:Nat → Option R} {r:R} (h:gV P t F=some r):∃ i,P.info? t=some i ∧ F i.size=some r:=by
 unfold gV at h
 split at h
 ·exact ⟨_,‹_›,h⟩
 ·cases h
theorem Tt {c:Bool} {x:Option R} {r:R} (h:(bif c then none else x)=some r):c=false ∧ x=some r:=by
 cases c with
 |true=>cases h
 |false=>exact ⟨rfl,h⟩
theorem aD {c:Bool} {x:Option R} {r:R} (h:(bif c then x else none)=some r):c=true ∧ x=some r:=by
 cases c
 ·cases h
 ·exact ⟨rfl,h⟩
theorem nS {v:AV} {F:jJ × Nat → Option R} {r:R} (h:(AV.lN v).bind F=some r):∃ b o,v=.p (some (b,o)) ∧ F (b,o)=some r:=by
 obtain ⟨⟨b,o⟩,h1,h2⟩:=Option.bind_eq_some_iff.1 h
 cases v<;>simp only [AV.lN] at h1<;>first |(cases h1;done) |exact ⟨b,o,by rw [h1],h2⟩
theorem Ks {s ty:TypeId} {x:Operand} {f:Nat} {K:AV → Option R} {r:R} (h:bG P (.fieldAddr s x f) ty e K=some r) (he:aH n ρ e a):iH P ρ (.fieldAddr s x f) a K r:=by
 have hx:=he.ev x
 simp only [bG] at h
 split at h
 ·rename_i fs hu
  split at h
  ·rename_i fd hfd
   obtain ⟨i,hi,h⟩:=dW h
   cases hs:Nat.beq i.size 0 with
   |true=>rw [hs] at h;cases h
   |false=>
    rw [hs] at h
    obtain ⟨b,o,yj,h⟩:=nS h
    rw [yj] at hx
    obtain ⟨L,hL,ux⟩:=hx.Eu
    have hs':i.size≠0:=fun e=>by rw [e] at hs;cases hs
    refine ⟨_,_,h,.p b _ L hL,fun op w ho=>?_⟩
    have:(⟨L.B,L.O+o,none⟩:Addr).add fd.offset=⟨L.B,L.O+(o+fd.offset),none⟩:=by
     unfold Addr.add;split<;>simp_all;omega
    simp [execOp,ho,ux,Instr.fieldAt,run_underlying hu,hfd,Instr.sureAddr,fieldPlace,sizeOf,typeInfo,hi,hs',this]
  ·cases h
 ·cases h
theorem Pp {t:TypeId} {ls:List jK} (h:Ag P t=.agg ls) (w:World):(isAgg t).run P w=.ok true w:=by
 unfold Ag at h
 split at h
 ·cases h
 ·rename_i hu;simp [isAgg,run_underlying hu]
 ·rename_i hu;simp [isAgg,run_underlying hu]
 ·cases h
theorem LJ {t:TypeId} {l:jK} (h:Ag P t=.one l) (hl:∃ d,P.underlying t=some d) (w:World):(isAgg t).run P w=.ok false w:=by
 obtain ⟨d,hd⟩:=hl
 unfold Ag at h
 split at h
 ·cases h
 ·cases h
 ·cases h
 ·rename_i h1 h2 h3
  simp only [isAgg,Sem.run_bind,run_underlying hd,Result.andThen_ok]
  cases d<;>first |rfl |(exact absurd hd (h1 _)) |(exact absurd hd (h2 _)) |(exact absurd hd (h3 _ _))
theorem aaP {cs:List AV} {vs:List Value} (h:aL ρ cs vs) (ho:cs.all AV.aZ=true) (off sz:Nat):aI ρ (.agg ((cs.drop off).take sz)) (.agg (vs.toArray.extract off (off+sz))):=by
 have:=aI.agg ((cs.drop off).take sz) ((vs.drop off).take sz) ((h.drop off).take sz) (List.all_eq_true.2 fun x hx=>List.all_eq_true.1 ho x (List.mem_of_mem_drop (List.mem_of_mem_take hx)))
 have e:vs.toArray.extract off (off+sz)=((vs.drop off).take sz).toArray:=by
  apply Array.ext'
  simp [List.extract_eq_take_drop]
 rw [e];exact this
theorem wE {t:TypeId} {cs:List AV} {vs:List Value} (h:aL ρ cs vs) (ho:cs.all AV.aZ=true) (off:Nat) {K:AV → Option R} {r:R}
  (hk:Bz P t cs off K=some r):∃ v u,K v=some r ∧ aI ρ v u ∧ ∀ w,(part t vs.toArray off).run P w=.ok u w:=by
 unfold Bz at hk
 split at hk
 ·rename_i i d hi hd
  split at hk
  ·rename_i ls DE
   refine ⟨_,_,hk,aaP h ho off i.size,fun w=>?_⟩
   simp [part,Pp DE,sizeOf,typeInfo,hi]
  ·rename_i l DE
   simp only [Option.bind_eq_some_iff] at hk
   obtain ⟨v,hv,hk⟩:=hk
   obtain ⟨u,hu,hr⟩:=h.get hv
   refine ⟨v,u,eQ hk,hr,fun w=>?_⟩
   simp [part,LJ DE ⟨d,hd⟩,hu]
  ·cases hk
 ·cases hk
theorem Fk {E:TypeId → AV → AV → Option Bool} {D:Nat} (hE:∀ t v v' u u' q,E t v v'=some q → aI ρ v u → aI ρ v' u' → ∀ w,(Op.equalIn D t u u').run P w=.ok q w) {xs ys:List AV} {us vs:List Value} (hx:aL ρ xs us) (QT:xs.all AV.aZ=true) (hy:aL ρ ys vs) (hy1:ys.all AV.aZ=true):
  ∀ (fs:List Field) (q:Bool),aah P E xs ys fs=some q → ∀ w,(Op.eqFields D us.toArray vs.toArray fs).run P w=.ok q w
 |[],q,h,w=>by cases h;rfl
 |f::fs,q,h,w=>by
  simp only [aah] at h
  simp only [Op.eqFields]
  by_cases hn:f.name = "_"
  ·rw [if_pos hn] at h
   rw [if_neg (by simp [hn])]
   exact Fk hE hx QT hy hy1 fs q h w
  ·rw [if_neg hn] at h
   rw [if_pos (by simpa using hn)]
   obtain ⟨a,ha,h⟩:=Option.bind_eq_some_iff.1 h
   obtain ⟨b,hb,h⟩:=Option.bind_eq_some_iff.1 h
   obtain ⟨r,hr,h⟩:=Option.bind_eq_some_iff.1 h
   obtain ⟨q',hq,h⟩:=Option.bind_eq_some_iff.1 h
   cases h
   obtain ⟨v1,u1,e1,r1,p1⟩:=wE hx QT f.offset ha
   obtain ⟨v2,u2,e2,r2,p2⟩:=wE hy hy1 f.offset hb
   cases e1
   cases e2
   simp only [Sem.run_bind,p1 w,p2 w,Result.andThen_ok,hE _ _ _ _ _ _ hr r1 r2 w]
   cases r with
   |false=>simp
   |true=>
    simp only [Bool.not_true,Bool.false_eq_true,if_false,Bool.true_and]
    exact Fk hE hx QT hy hy1 fs q' hq w
theorem LS {E:TypeId → AV → AV → Option Bool} {D:Nat} (hE:∀ t v v' u u' q,E t v v'=some q → aI ρ v u → aI ρ v' u' → ∀ w,(Op.equalIn D t u u').run P w=.ok q w) {t:TypeId} {xs ys:List AV} {us vs:List Value} (hx:aL ρ xs us) (QT:xs.all AV.aZ=true) (hy:aL ρ ys vs) (hy1:ys.all AV.aZ=true):
  ∀ (is:List Nat) (q:Bool),adk P E t xs ys is=some q → ∀ w,(Op.eqItems D t (P.cellsOf t) us.toArray vs.toArray is).run P w=.ok q w
 |[],q,h,w=>by cases h;rfl
 |i::is,q,h,w=>by
  simp only [adk] at h
  simp only [Op.eqItems]
  obtain ⟨a,ha,h⟩:=Option.bind_eq_some_iff.1 h
  obtain ⟨b,hb,h⟩:=Option.bind_eq_some_iff.1 h
  obtain ⟨r,hr,h⟩:=Option.bind_eq_some_iff.1 h
  obtain ⟨q',hq,h⟩:=Option.bind_eq_some_iff.1 h
  cases h
  obtain ⟨v1,u1,e1,r1,p1⟩:=wE hx QT (i*P.cellsOf t) ha
  obtain ⟨v2,u2,e2,r2,p2⟩:=wE hy hy1 (i*P.cellsOf t) hb
  cases e1
  cases e2
  simp only [Sem.run_bind,p1 w,p2 w,Result.andThen_ok,hE _ _ _ _ _ _ hr r1 r2 w]
  cases r with
  |false=>simp
  |true=>
   simp only [Bool.not_true,Bool.false_eq_true,if_false,Bool.true_and]
   exact LS hE hx QT hy hy1 is q' hq w
theorem Ir:∀ (m d:Nat) (t:TypeId) (v v':AV) (u u':Value) (q:Bool),eqT P m t v v'=some q → aI ρ v u → aI ρ v' u' → ∀ w,(Op.equalIn (m+d) t u u').run P w=.ok q w
 |0,_,_,_,_,_,_,_,h,_,_,_=>by cases h
 |m+1,d,t,v,v',u,u',q,h,hv,tp,w=>by
  simp only [eqT] at h
  rw [show m+1+d=(m+d)+1 by omega]
  split at h
  ·rename_i hu
   obtain ⟨x,hx,h⟩:=Option.bind_eq_some_iff.1 h
   obtain ⟨y,hy,h⟩:=Option.bind_eq_some_iff.1 h
   cases h
   cases v<;>simp [AV.aV] at hx
   cases v'<;>simp [AV.aV] at hy
   subst hx;subst hy
   cases hv;cases tp
   exact run_equalIn_bool w _ t _ _ hu
  ·rename_i k hu
   obtain ⟨x,hx,h⟩:=Option.bind_eq_some_iff.1 h
   obtain ⟨y,hy,h⟩:=Option.bind_eq_some_iff.1 h
   cases h
   cases v<;>simp [AV.ag] at hx
   cases v'<;>simp [AV.ag] at hy
   obtain ⟨rfl,rfl⟩:=hx
   obtain ⟨rfl,rfl⟩:=hy
   cases hv;cases tp
   exact run_equalIn_int w _ t _ _ _ _ hu
  ·rename_i hu
   obtain ⟨x,hx,h⟩:=Option.bind_eq_some_iff.1 h
   obtain ⟨y,hy,h⟩:=Option.bind_eq_some_iff.1 h
   cases h
   cases v<;>simp [AV.dV] at hx
   cases v'<;>simp [AV.dV] at hy
   subst hx;subst hy
   cases hv with |s a=>cases tp with |s b=>
   rw [run_equalIn_string w _ t _ _ hu,ByteArray.toList_eq,ByteArray.toList_eq]
  ·rename_i fs hu
   obtain ⟨hs,h⟩:=Tt h
   split at h
   ·rename_i xs ys
    cases hv with |agg _ us h1 h2=>cases tp with |agg _ vs h3 h4=>
    have hf:P.fieldsOf t=fs:=by simp [Program.fieldsOf,hu]
    rw [run_equalIn_struct w (m+d) t _ _ (by rw [hf];exact hu) hs,hf]
    exact Fk (fun t v v' u u' q hq r1 r2 w=>Ir m d t v v' u u' q hq r1 r2 w) h1 h2 h3 h4 fs.toList q h w
   ·cases h
  ·rename_i n el hu
   split at h
   ·rename_i xs ys
    cases hv with |agg _ us h1 h2=>cases tp with |agg _ vs h3 h4=>
    split at h
    ·rename_i i hi
     rw [run_equalIn_array w (m+d) _ _ hu hi]
     exact LS (fun t v v' u u' q hq r1 r2 w=>Ir m d t v v' u u' q hq r1 r2 w) h1 h2 h3 h4 _ q h w
    ·cases h
   ·cases h
  ·cases h
theorem YM {op:BinOp} {t yt ty:TypeId} {x y:Operand} {K:AV → Option R} {r:R} (h:bG P (.binOp op t x y yt) ty e K=some r) (he:aH n ρ e a):iH P ρ (.binOp op t x y yt) a K r:=by
 have hx:=he.ev x
 have hy:=he.ev y
 simp only [bG] at h
 split at h
 ·rename_i xs ys yj hvy
  rw [yj] at hx
  rw [hvy] at hy
  obtain ⟨hg,h⟩:=Tt h
  obtain ⟨q,hq,h⟩:=Option.bind_eq_some_iff.1 h
  have heq:=fun w=>Ir (P:=P) (ρ:=ρ) 8 9992 t _ _ _ _ q hq hx hy w
  generalize Vj:a.eval x=ux at hx heq
  generalize huy:a.eval y=uy at hy heq
  cases hx with |agg _ us h1 h2=>cases hy with |agg _ vs h3 h4=>
  have yld:∀ (b:Bool),(∀ w,(binOp op t (.agg us.toArray) (.agg vs.toArray)).run P w=.ok (.bool b) w) → Yld P (.binOp op t x y yt) a (.bool b):=fun b hb o w ho=>by
   simp only [execOp,ho,Sem.run_bind]
   rw [Vj,huy,run_eqGuard_agg w op t x y _ _ hg]
   simp only [Result.andThen_ok]
   rw [hb w];rfl
  cases op<;>simp only [Bx] at h<;>first |(cases h;done) |skip
  ·exact ⟨_,_,h,.b _,yld q fun w=>by rw [run_eql_struct,heq w];rfl⟩
  ·exact ⟨_,_,h,.b _,yld (!q) fun w=>by rw [run_neq_struct,heq w];rfl⟩
 ·exact Wc h hx hy
theorem Tu {t ty:TypeId} {x:Operand} {f:Nat} {K:AV → Option R} {r:R} (h:bG P (.field t x f) ty e K=some r) (he:aH n ρ e a):iH P ρ (.field t x f) a K r:=by
 have hx:=he.ev x
 simp only [bG] at h
 split at h
 ·rename_i cs fs yj hu
  rw [yj] at hx
  obtain ⟨vs,ux,h1,h2⟩:=hx.QL
  split at h
  ·rename_i fd hfd
   obtain ⟨v,u,hk,hr,fy⟩:=wE h1 h2 _ h
   refine ⟨v,u,hk,hr,fun o w ho=>?_⟩
   simp [execOp,ho,ux,Instr.field,run_underlying hu,hfd,asAgg,fy]
  ·cases h
 ·cases h
theorem Kt {t ty:TypeId} {x ix:Operand} {K:AV → Option R} {r:R} (h:bG P (.indexAddr t x ix) ty e K=some r) (he:aH n ρ e a):iH P ρ (.indexAddr t x ix) a K r:=by
 have hx:=he.ev x
 have hi:=he.ev ix
 simp only [bG] at h
 split at h
 ·rename_i k i hvi
  rw [hvi] at hi
  have ui:=hi.eK
  split at h
  ·rename_i len el hu
   obtain ⟨hc,h⟩:=aD h
   simp only [Bool.and_eq_true,decide_eq_true_eq] at hc
   obtain ⟨inf,lQ,h⟩:=dW h
   obtain ⟨b,o,yj,h⟩:=nS h
   rw [yj] at hx
   obtain ⟨L,hL,ux⟩:=hx.Eu
   refine ⟨_,_,h,.p b _ L hL,fun op w ho=>?_⟩
   have:(⟨L.B,L.O+o,none⟩:Addr).add (i.toNat*inf.size)=⟨L.B,L.O+(o+i.toNat*inf.size),none⟩:=by
    unfold Addr.add;split<;>simp_all;omega
   simp [execOp,ho,ux,ui,Instr.indexAt,run_underlying hu,Instr.sureAddr,asIntOf,sizeOf,typeInfo,lQ,hc,this]
  ·rename_i el hu
   split at h
   ·rename_i sa m yj
    rw [yj] at hx
    have hc:=(aD h).1
    replace h:=(aD h).2
    simp only [Bool.and_eq_true,decide_eq_true_eq] at hc
    obtain ⟨inf,lQ,hB⟩:=dW h
    clear h
    obtain ⟨q,hq,hB⟩:=Option.bind_eq_some_iff.1 hB
    generalize Vj:a.eval x=ux at hx
    cases hx with
    |SN=>omega
    |Og=>omega
    |QK=>omega
    |YB=>cases hq
    |sl _ _ _ cap L hL h1 h2 h3=>
     cases hq
     refine ⟨_,_,hB,.p _ _ L hL,fun op w ho=>?_⟩
     have:∀ o,(⟨L.B,L.O+o,none⟩:Addr).add (i.toNat*inf.size)=⟨L.B,L.O+(o+i.toNat*inf.size),none⟩:=by
      intro o;unfold Addr.add;split<;>simp_all;omega
     simp [execOp,ho,Vj,ui,Instr.indexAt,run_underlying hu,asIntOf,sizeOf,typeInfo,lQ,hc,this]
   ·cases h
  ·cases h
 ·cases h
theorem Tv {t ty:TypeId} {x ix:Operand} {K:AV → Option R} {r:R} (h:bG P (.index t x ix) ty e K=some r) (he:aH n ρ e a):iH P ρ (.index t x ix) a K r:=by
 have hx:=he.ev x
 have hi:=he.ev ix
 simp only [bG] at h
 split at h
 ·rename_i k i hvi
  rw [hvi] at hi
  have ui:=hi.eK
  split at h
  ·rename_i len el cs hu yj
   rw [yj] at hx
   obtain ⟨vs,ux,h1,h2⟩:=hx.QL
   obtain ⟨hc,h⟩:=aD h
   simp only [Bool.and_eq_true,decide_eq_true_eq] at hc
   obtain ⟨inf,lQ,h⟩:=dW h
   obtain ⟨v,u,hk,hr,fy⟩:=wE h1 h2 _ h
   refine ⟨v,u,hk,hr,fun o w ho=>?_⟩
   simp [execOp,ho,ux,ui,Instr.index,run_underlying hu,asIntOf,hc,sizeOf,typeInfo,lQ,fy]
  ·rename_i l hu yj
   rw [yj] at hx
   obtain ⟨s,ux,rfl⟩:=hx.wA
   obtain ⟨hc,h⟩:=aD h
   simp only [decide_eq_true_eq] at hc
   simp only [Option.bind_eq_some_iff] at h
   obtain ⟨c,hcc,h⟩:=h
   refine ⟨_,_,h,.i _ _,fun o w ho=>?_⟩
   have hs:s[i.toNat]? = some c:=by
    obtain ⟨hl,hv⟩:=List.getElem?_eq_some_iff.1 hcc
    have Xj:i.toNat<s.size:=by simpa using hl
    rw [getElem?_pos s i.toNat Xj]
    rw [← hv];simp [ByteArray.getElem_eq_getElem_data]
   simp [execOp,ho,ux,ui,Instr.index,run_underlying hu,asIntOf,hc,hs]
  ·cases h
 ·cases h
theorem Oo {x:Operand} {m:Nat} {ty:TypeId} {K:AV → Option R} {r:R} (h:bG P (.extract x m) ty e K=some r) (he:aH n ρ e a):iH P ρ (.extract x m) a K r:=by
 have hx:=he.ev x
 simp only [bG] at h
 split at h
 ·rename_i vs yj
  rw [yj] at hx
  obtain ⟨us,ux,h1⟩:=hx.QM
  simp only [Option.bind_eq_some_iff] at h
  obtain ⟨v,hv,h⟩:=h
  obtain ⟨u,hu,hr⟩:=h1.get hv
  refine ⟨v,u,wD h,hr,fun o w ho=>?_⟩
  simp [execOp,ho,ux,Instr.extract,hu]
 ·cases h
theorem Dr {t el:TypeId} {a':Option Addr} {len cap:Nat} (hu:P.underlying t=some (.slice el)) {i:TypeInfo} (hi:P.info? el=some i) (lo hi':Option Value) (l h:Int)
  (h0:0 ≤ l) (h1:l ≤ h) (h2:h ≤ (cap:Int)) (hlo:(lo=none ∧ l=0) ∨ ∃ k,lo=some (.int k l)) (hhi:(hi'=none ∧ h=len) ∨ ∃ k,hi'=some (.int k h)) (w:World):
  (Instr.sliceAt t (.slice a' len cap) lo hi' none).run P w=.ok (.slice (if cap=l.toNat then a' else a'.map (·.add (l.toNat*i.size))) (h.toNat - l.toNat) (cap - l.toNat)) w:=by
 have eh:(h.toNat:Int)=h:=Int.toNat_of_nonneg (by omega)
 have h0':0 ≤ h:=by omega
 rcases hlo with ⟨rfl,rfl⟩ |⟨kl,rfl⟩<;>rcases hhi with ⟨rfl,rfl⟩ |⟨kh,rfl⟩<;>
  simp [Instr.sliceAt,Instr.slice,run_underlying hu,Instr.sliceBounds,run_sliceBound,sizeOf,typeInfo, *]
theorem Wd {t el:TypeId} {A:Addr} {len:Nat} (hu:P.underlying t=some (.array len el)) {i:TypeInfo} (hi:P.info? el=some i) (lo hi':Option Value) (l h:Int)
  (h0:0 ≤ l) (h1:l<h) (h2:h ≤ (len:Int)) (hlo:(lo=none ∧ l=0) ∨ ∃ k,lo=some (.int k l)) (hhi:(hi'=none ∧ h=len) ∨ ∃ k,hi'=some (.int k h)) (w:World):
  (Instr.sliceAt t (.pointer (some A)) lo hi' none).run P w=.ok (.slice (some (A.add (l.toNat*i.size))) (h.toNat - l.toNat) (len - l.toNat)) w:=by
 have eh:(h.toNat:Int)=h:=Int.toNat_of_nonneg (by omega)
 have h0':0 ≤ h:=by omega
 have h1':l ≤ h:=by omega
 have jL:¬ len=l.toNat:=by omega
 rcases hlo with ⟨rfl,rfl⟩ |⟨kl,rfl⟩<;>rcases hhi with ⟨rfl,rfl⟩ |⟨kh,rfl⟩<;>
  simp [Instr.sliceAt,Instr.sureAddr,run_underlying hu,Instr.sliceBounds,run_sliceBound,sizeOf,typeInfo, *]<;>(intro e;exfalso;omega)
theorem Tw {t ty:TypeId} {x:Operand} {lo hi mx:Option Operand} {K:AV → Option R} {r:R} (h:bG P (.slice t x lo hi mx) ty e K=some r) (he:aH n ρ e a):iH P ρ (.slice t x lo hi mx) a K r:=by
 have hx:=he.ev x
 simp only [bG] at h
 have hlo:∀ k l,(match lo with |some o=>Abs.ev e o |none=>.i .i64 0)=.i k l → ((lo.map a.eval=none ∧ l=0) ∨ ∃ k,lo.map a.eval=some (.int k l)):=by
  intro k l hl
  cases lo with
  |none=>simp at hl;exact .inl ⟨rfl,hl.2.symm⟩
  |some o=>simp only at hl;have:=he.ev o;rw [hl] at this;exact .inr ⟨k,by simp [this.eK]⟩
 have hhi:∀ (m:Int) k h',(match hi with |some o=>Abs.ev e o |none=>.i .i64 m)=.i k h' → ((hi.map a.eval=none ∧ h'=m) ∨ ∃ k,hi.map a.eval=some (.int k h')):=by
  intro m k h' hl
  cases hi with
  |none=>simp at hl;exact .inl ⟨rfl,hl.2.symm⟩
  |some o=>simp only at hl;have:=he.ev o;rw [hl] at this;exact .inr ⟨k,by simp [this.eK]⟩
 split at h
 ·rename_i sa m yj
  rw [yj] at hx
  split at h
  ·rename_i el hu
   split at h
   ·rename_i k1 l k2 h' hl hh
    obtain ⟨hc,hA⟩:=aD h
    simp only [Bool.and_eq_true,decide_eq_true_eq] at hc
    obtain ⟨⟨c1,c2⟩,c3⟩:=hc
    obtain ⟨inf,lQ,hB⟩:=dW hA
    clear h hA
    obtain ⟨sa',aaR,hB⟩:=Option.bind_eq_some_iff.1 hB
    have Xj:=hlo _ _ hl
    have Tx:=hhi _ _ _ hh
    generalize Vj:a.eval x=ux at hx
    cases hx with
    |SN=>
     have e1:l=0:=by omega
     have e2:h'=0:=by omega
     subst e1;subst e2
     cases aaR
     refine ⟨_,.slice none 0 0,hB,.SN,fun o w ho=>?_⟩
     simp only [execOp,ho,Vj,Option.map_none,Sem.run_bind]
     rw [Dr (P:=P) hu lQ _ _ 0 0 c1 c2 (by simp) Xj (by simpa using Tx) w];rfl
    |Og A=>
     have e1:l=0:=by omega
     have e2:h'=0:=by omega
     subst e1;subst e2
     cases aaR
     refine ⟨_,.slice (some A) 0 0,hB,.Og A,fun o w ho=>?_⟩
     simp only [execOp,ho,Vj,Option.map_none,Sem.run_bind]
     rw [Dr (P:=P) hu lQ _ _ 0 0 c1 c2 (by simp) Xj (by simpa using Tx) w];rfl
    |QK b o es A=>
     have e1:l=0:=by omega
     have e2:h'=0:=by omega
     subst e1;subst e2
     obtain ⟨HZ,hC⟩:=aD aaR
     cases hC
     refine ⟨_,.slice (some A) 0 0,hB,.QK _ _ _ A,fun o w ho=>?_⟩
     simp only [execOp,ho,Vj,Option.map_none,Sem.run_bind]
     rw [Dr (P:=P) hu lQ _ _ 0 0 c1 c2 (by simp) Xj (by simpa using Tx) w];rfl
    |YB=>cases aaR
    |sl b o _ cap L hL h1 h2 h3=>
     obtain ⟨HZ,hC⟩:=aD aaR
     cases hC
     have HZ:=Nat.eq_of_beq_eq_true HZ
     have fy:Yld P (.slice t x lo hi none) a (.slice (if cap=l.toNat then some ⟨L.B,L.O+o,none⟩ else (some ⟨L.B,L.O+o,none⟩:Option Addr).map (·.add (l.toNat*inf.size))) (h'.toNat - l.toNat) (cap - l.toNat)):=fun op w ho=>by
      simp only [execOp,ho,Vj,Option.map_none,Sem.run_bind]
      rw [Dr (P:=P) hu lQ _ _ l h' c1 c2 (by omega) Xj (by simpa using Tx) w];rfl
     refine ⟨_,_,hB,?_,fy⟩
     rw [← HZ]
     by_cases Jy:cap=l.toNat
     ·have:h'.toNat - l.toNat=0:=by omega
      rw [this,if_pos Jy,Jy,Nat.sub_self]
      exact .QK _ _ _ _
     ·rw [if_neg Jy]
      have:(⟨L.B,L.O+o,none⟩:Addr).add (l.toNat*L.es)=⟨L.B,L.O+(o+l.toNat*L.es),none⟩:=by
       unfold Addr.add;split<;>simp_all;omega
      simp only [Option.map_some,this]
      refine .sl b _ _ _ L hL (by omega) (by omega) ?_
      have:l.toNat*L.es+(cap - l.toNat)*L.es=cap*L.es:=by rw [← Nat.add_mul];congr 1;omega
      omega
   ·cases h
  ·cases h
 ·rename_i s yj
  rw [yj] at hx
  obtain ⟨s,ux,rfl⟩:=hx.wA
  split at h
  ·rename_i hu
   split at h
   ·rename_i k1 l k2 h' hl hh
    obtain ⟨hc,h⟩:=aD h
    simp only [Bool.and_eq_true,decide_eq_true_eq] at hc
    obtain ⟨⟨c1,c2⟩,c3⟩:=hc
    have Xj:=hlo _ _ hl
    have Tx:=hhi _ _ _ hh
    have qX:s.data.toList.length=s.size:=by simp
    refine ⟨_,.string (s.extract l.toNat h'.toNat),h,?_,fun o w ho=>?_⟩
    ·have:=aI.s (ρ:=ρ) (s.extract l.toNat h'.toNat)
     have e:(s.extract l.toNat h'.toNat).data.toList=(s.data.toList.drop l.toNat).take (h'.toNat - l.toNat):=by
      rw [ByteArray.data_extract,Array.toList_extract,List.extract_eq_take_drop]
     rw [e] at this;exact this
    ·have eh:(h'.toNat:Int)=h':=Int.toNat_of_nonneg (by omega)
     have h0':0 ≤ h':=by omega
     have hm:s.size - 0=s.size:=rfl
     simp only [execOp,ho,ux,Option.map_none,Sem.run_bind]
     rw [qX] at Tx c3
     rcases Xj with ⟨e1,rfl⟩ |⟨kl,e1⟩<;>rcases Tx with ⟨e2,rfl⟩ |⟨kh,e2⟩<;>
      simp [e1,e2,Instr.sliceAt,Instr.slice,run_underlying hu,Instr.sliceBounds,run_sliceBound,c1,c2,c3,eh,h0']
   ·cases h
  ·cases h
 ·rename_i q yj
  rw [yj] at hx
  split at h
  ·rename_i len el hu
   split at h
   ·rename_i k1 l k2 h' hl hh
    obtain ⟨hc,hA⟩:=aD h
    simp only [Bool.and_eq_true,decide_eq_true_eq] at hc
    obtain ⟨⟨⟨c1,c2⟩,c3⟩,c4⟩:=hc
    have c4:=Nat.le_of_ble_eq_true c4
    obtain ⟨inf,lQ,hB⟩:=dW hA
    clear h hA
    obtain ⟨ad,hq,hB⟩:=Option.bind_eq_some_iff.1 hB
    subst hq
    obtain ⟨b,o⟩:=ad
    have Xj:=hlo _ _ hl
    have Tx:=hhi _ _ _ hh
    obtain ⟨L,hL,ux⟩:=hx.Eu
    have:(⟨L.B,L.O+o,none⟩:Addr).add (l.toNat*inf.size)=⟨L.B,L.O+(o+l.toNat*inf.size),none⟩:=by
     unfold Addr.add;split<;>simp_all;omega
    refine ⟨_,_,hB,.YB b (o+l.toNat*inf.size) inf.size (h'.toNat - l.toNat) (len - l.toNat) L hL (by omega) (by omega) (by unfold maxLen;omega),fun op w ho=>?_⟩
    simp only [execOp,ho,ux,Option.map_none,Sem.run_bind]
    rw [Wd (P:=P) hu lQ _ _ l h' c1 c2 c3 Xj Tx w,this];rfl
   ·cases h
  ·cases h
 ·rename_i m sa k yj
  rw [yj] at hx
  split at h
  ·rename_i el hu
   split at h
   ·rename_i k1 l k2 h' k3 c hl hh hm
    obtain ⟨hc,hA⟩:=aD h
    simp only [Bool.and_eq_true,decide_eq_true_eq] at hc
    obtain ⟨⟨rfl,rfl⟩,rfl⟩:=hc
    obtain ⟨inf,lQ,hB⟩:=dW hA
    clear h hA
    have hk1:lo.map a.eval=none ∨ ∃ k,lo.map a.eval=some (.int k 0):=by
     rcases hlo _ _ hl with ⟨e1,_⟩ |⟨k,e1⟩
     ·exact .inl e1
     ·exact .inr ⟨k,e1⟩
    have Xq:∃ k,hi.map a.eval=some (.int k 0):=by
     cases hi with
     |none=>simp at hh
     |some o=>simp only at hh;have:=he.ev o;rw [hh] at this;exact ⟨k2,by simp [this.eK]⟩
    have hk3:a.eval m=.int k3 0:=by have:=he.ev m;rw [hm] at this;exact this.eK
    obtain ⟨kh,Xq⟩:=Xq
    have fy:∀ (A:Option Addr) (len cap:Nat) w,(Instr.sliceAt t (.slice A len cap) (lo.map a.eval) (hi.map a.eval) (some (a.eval m))).run P w=.ok (.slice A 0 0) w:=by
     intro A len cap w
     rw [Xq,hk3]
     rcases hk1 with e1 |⟨k,e1⟩<;>
      simp [e1,Instr.sliceAt,Instr.slice,run_underlying hu,Instr.sliceBounds,run_sliceBound,sizeOf,typeInfo,lQ]
    generalize Vj:a.eval x=ux at hx
    have fin:∀ (A:Option Addr) (len cap:Nat),ux=.slice A len cap → ∀ (o:Oper) (w:World),o.op=.slice t x lo hi (some m) → (execOp a.eval o).run P w=.ok (.value (.slice A 0 0)) w:=by
     intro A len cap e1 o w ho
     simp only [execOp,ho,Vj,e1,Option.map_some,Sem.run_bind]
     rw [fy];rfl
    cases hx with
    |SN=>exact ⟨_,_,hB,.SN,fin _ _ _ rfl⟩
    |Og A=>exact ⟨_,_,hB,.Og A,fin _ _ _ rfl⟩
    |QK b o es A=>exact ⟨_,_,hB,.Og A,fin _ _ _ rfl⟩
    |sl b o _ cap L hL h1 h2 h3=>exact ⟨_,_,hB,.Og _,fin _ _ _ rfl⟩
    |YB b o _ _ cap L hL h0 h1 h2=>exact ⟨_,_,hB,.Og _,fin _ _ _ rfl⟩
   ·cases h
  ·cases h
 ·cases h
theorem We {c:Call} {ty:TypeId} {K:AV → Option R} {r:R} (h:bG P (.call c) ty e K=some r) (he:aH n ρ e a):iH P ρ (.call c) a K r:=by
 have hx:=he.evs c.args.toList
 have hargs:(c.args.map a.eval).toList=c.args.toList.map a.eval:=by simp
 simp only [bG] at h
 split at h
 ·rename_i fB
  split at h
  ·rename_i l t hv ht
   rw [hv] at hx
   cases tp:c.args.toList.map a.eval with
   |nil=>rw [tp] at hx;cases hx
   |cons u us=>
    rw [tp] at hx
    cases hx with
    |cons _ _ _ _ h1 h2=>
     cases h2
     obtain ⟨s,rfl,rfl⟩:=h1.wA
     split at h
     ·rename_i hu
      refine ⟨_,_,h,.i _ _,fun o w ho=>?_⟩
      have e1:c.args.map a.eval = #[.string s]:=by apply Array.ext';rw [hargs,tp]
      have e2:c.argTypes = #[t]:=by apply Array.ext';rw [ht]
      have qX:s.data.toList.length=s.size:=by simp
      rw [qX]
      simp [execOp,ho,resolve,fB,invoke,builtin,Builtin.len_,e1,e2,run_underlying hu,goInt]
     ·cases h
  ·rename_i sa m t hv ht
   rw [hv] at hx
   cases tp:c.args.toList.map a.eval with
   |nil=>rw [tp] at hx;cases hx
   |cons u us=>
    rw [tp] at hx
    cases hx with
    |cons _ _ _ _ h1 h2=>
     cases h2
     obtain ⟨A,cap,rfl,_⟩:=h1.Ik
     split at h
     ·rename_i el hu
      refine ⟨_,_,h,.i _ _,fun o w ho=>?_⟩
      have e1:c.args.map a.eval = #[.slice A m cap]:=by apply Array.ext';rw [hargs,tp]
      have e2:c.argTypes = #[t]:=by apply Array.ext';rw [ht]
      simp [execOp,ho,resolve,fB,invoke,builtin,Builtin.len_,e1,e2,run_underlying hu,goInt]
     ·cases h
  ·cases h
 ·rename_i fB
  split at h
  ·rename_i k x k' y hv
   rw [hv] at hx
   split at h
   ·rename_i hk
    subst hk
    have e0:c.args.toList.map a.eval=[.int k x,.int k y]:=by
     cases tp:c.args.toList.map a.eval with
     |nil=>rw [tp] at hx;cases hx
     |cons u us=>
      rw [tp] at hx
      cases hx with
      |cons _ _ _ _ h1 h2=>
       cases h2 with
       |cons _ _ _ _ h3 h4=>cases h4;rw [h1.eK,h3.eK]
    refine ⟨_,_,h,.i _ _,fun o w ho=>?_⟩
    have e1:c.args.map a.eval = #[.int k x,.int k y]:=by apply Array.ext';rw [hargs,e0]
    simp [execOp,ho,resolve,fB,invoke,builtin,Builtin.min_,e1,Builtin.min2]
   ·cases h
  ·rename_i k x k' y k'' z hv
   rw [hv] at hx
   split at h
   ·rename_i hk
    obtain ⟨hk1,Xq⟩:=hk
    subst hk1;subst Xq
    have e0:c.args.toList.map a.eval=[.int k x,.int k y,.int k z]:=by
     cases tp:c.args.toList.map a.eval with
     |nil=>rw [tp] at hx;cases hx
     |cons u us=>
      rw [tp] at hx
      cases hx with
      |cons _ _ _ _ h1 h2=>
       cases h2 with
       |cons _ _ _ _ h3 h4=>
        cases h4 with
        |cons _ _ _ _ h5 h6=>cases h6;rw [h1.eK,h3.eK,h5.eK]
    refine ⟨_,_,h,.i _ _,fun o w ho=>?_⟩
    have e1:c.args.map a.eval = #[.int k x,.int k y,.int k z]:=by apply Array.ext';rw [hargs,e0]
    simp [execOp,ho,resolve,fB,invoke,builtin,Builtin.min_,e1,Builtin.min2]
   ·cases h
  ·cases h
 ·rename_i fB
  split at h
  ·rename_i k x k' y hv
   rw [hv] at hx
   split at h
   ·rename_i hk
    subst hk
    have e0:c.args.toList.map a.eval=[.int k x,.int k y]:=by
     cases tp:c.args.toList.map a.eval with
     |nil=>rw [tp] at hx;cases hx
     |cons u us=>
      rw [tp] at hx
      cases hx with
      |cons _ _ _ _ h1 h2=>
       cases h2 with
       |cons _ _ _ _ h3 h4=>cases h4;rw [h1.eK,h3.eK]
    refine ⟨_,_,h,.i _ _,fun o w ho=>?_⟩
    have e1:c.args.map a.eval = #[.int k x,.int k y]:=by apply Array.ext';rw [hargs,e0]
    simp [execOp,ho,resolve,fB,invoke,builtin,Builtin.max_,e1,Builtin.max2]
   ·cases h
  ·rename_i k x k' y k'' z hv
   rw [hv] at hx
   split at h
   ·rename_i hk
    obtain ⟨hk1,Xq⟩:=hk
    subst hk1;subst Xq
    have e0:c.args.toList.map a.eval=[.int k x,.int k y,.int k z]:=by
     cases tp:c.args.toList.map a.eval with
     |nil=>rw [tp] at hx;cases hx
     |cons u us=>
      rw [tp] at hx
      cases hx with
      |cons _ _ _ _ h1 h2=>
       cases h2 with
       |cons _ _ _ _ h3 h4=>
        cases h4 with
        |cons _ _ _ _ h5 h6=>cases h6;rw [h1.eK,h3.eK,h5.eK]
    refine ⟨_,_,h,.i _ _,fun o w ho=>?_⟩
    have e1:c.args.map a.eval = #[.int k x,.int k y,.int k z]:=by apply Array.ext';rw [hargs,e0]
    simp [execOp,ho,resolve,fB,invoke,builtin,Builtin.max_,e1,Builtin.max2]
   ·cases h
  ·cases h
 ·cases h
theorem VU {op:Op} {ty:TypeId} {K:AV → Option R} {r:R} (h:bG P op ty e K=some r) (he:aH n ρ e a):iH P ρ op a K r:=by
 cases op
 case move x=>exact ⟨_,_,h,he.ev x,aaM x⟩
 case assign x=>exact ⟨_,_,h,he.ev x,V8 x⟩
 case pick=>exact V9 h he
 case build=>exact To h he
 case nilCheck=>exact LQ h he
 case binOp=>exact YM h he
 case unOp=>exact aaN h he
 case convert=>exact On h he
 case makeFunc=>exact LR h he
 case slice=>exact Tw h he
 case fieldAddr=>exact Ks h he
 case field=>exact Tu h he
 case indexAddr=>exact Kt h he
 case index=>exact Tv h he
 case extract=>exact Oo h he
 case call=>exact We h he
 all_goals (simp only [bG] at h;cases h)
end Go.Abs
