/-
  AbsPure2: the operations that only reckon, the rest.
-/
import Derived.Test.YtncohicmiihjiaaGreatAbsPure
import Derived.Laws.StructEq
import Derived.ChangeKeysEq
set_option linter.unusedVariables false
set_option linter.unusedSimpArgs false
set_option linter.constructorNameAsVariable false
namespace Go.Abs
open Go
variable {ρ:bX} {n:Nat} {e:Env} {a:Act} {P:Program} {R:Type}
theorem dB {l:fm} {v:AV} {K:AV->Option R} {r:R} (h:gm l v K=some r):K v=some r:=by
 unfold gm at h
 cases l<;>simp only [] at h<;>first |exact h |skip
 all_goals (simp only [Option.bind_eq_some_iff] at h;obtain ⟨x,hx,h⟩:=h)
 ·cases v<;>simp_all [AV.aZ]
 ·cases v<;>simp only [AV.aX] at hx<;>try (cases hx;done)
  split at hx
  ·rename_i hk;cases hx;subst hk;exact h
  ·cases hx
 ·cases v<;>simp_all [AV.Rx]
 ·cases v<;>simp_all [AV.bD]
 ·cases v<;>simp_all [AV.dF]
  obtain ⟨x1,x2⟩:=x;cases hx;exact h
 ·cases v<;>simp_all [AV.Hk]
 ·cases v<;>simp_all [AV.Fx]
theorem nT:∀ (ls:List fm) (i:Nat) (vs:List AV) (K:List AV->Option R) (r:R),i+ls.length=vs.length->dW ls i vs K=some r->K (vs.drop i)=some r
 |[],i,vs,K,r,hl,h=>by
  simp only [dW] at h
  rw [List.drop_of_length_le (by simp at hl;omega)];exact h
 |l::ls,i,vs,K,r,hl,h=>by
  simp only [dW] at h
  have h1:=dB h
  have h2:=nT ls (i+1) vs _ r (by simp at hl;omega) h1
  have hi:i<vs.length:=by simp at hl;omega
  rw [List.drop_eq_getElem_cons hi]
  have:vs.getD i .u=vs[i]:=by simp [List.getD,hi]
  rw [this] at h2;exact h2
theorem Ap {ls:List fm} {v:AV} {K:AV->Option R} {r:R} (h:((AV.asAgg ls.length v).bind fun cs=>dW ls 0 cs fun vs=>K (.agg vs))=some r):K v=some r:=by
 obtain ⟨cs,hc,h⟩:=Option.bind_eq_some_iff.1 h
 obtain ⟨ds,rfl⟩:∃ ds,v=.agg ds:=by cases v<;>first |exact ⟨_,rfl⟩ |(cases hc;done)
 simp only [AV.asAgg] at hc
 cases hl:Nat.beq ds.length ls.length with
 |false=>rw [hl] at hc;cases hc
 |true=>
  rw [hl] at hc
  obtain rfl:ds=cs:=by simpa using hc
  have:=nT ls 0 ds _ r (by have:=Nat.eq_of_beq_eq_true hl;omega) h
  simpa using this
theorem IA {t:fm ⊕ List fm} {v:AV} {K:AV->Option R} {r:R} (h:as1 t v K=some r):K v=some r:=by
 cases t with
 |inl l=>exact dB h
 |inr ls=>exact Ap h
theorem wX:∀ (ts:List (fm ⊕ List fm)) (i:Nat) (vs:List AV) (K:List AV->Option R) (r:R),i+ts.length=vs.length->xU ts i vs K=some r->K (vs.drop i)=some r
 |[],i,vs,K,r,hl,h=>by
  simp only [xU] at h
  rw [List.drop_of_length_le (by simp at hl;omega)];exact h
 |l::ls,i,vs,K,r,hl,h=>by
  simp only [xU] at h
  have h1:=IA h
  have h2:=wX ls (i+1) vs _ r (by simp at hl;omega) h1
  have hi:i<vs.length:=by simp at hl;omega
  rw [List.drop_eq_getElem_cons hi]
  have:vs.getD i .u=vs[i]:=by simp [List.getD,hi]
  rw [this] at h2;exact h2
theorem j9 {t:Ty} {v:AV} {K:AV->Option R} {r:R} (h:vC t v K=some r):K v=some r:=by
 cases t with
 |one l=>exact dB h
 |agg ls=>exact Ap h
 |aB ts=>
  simp only [vC] at h
  obtain ⟨cs,hc,h⟩:=Option.bind_eq_some_iff.1 h
  obtain ⟨ds,rfl⟩:∃ ds,v=.aB ds:=by cases v<;>first |exact ⟨_,rfl⟩ |(cases hc;done)
  simp only [AV.ay] at hc
  cases hl:Nat.beq ds.length ts.length with
  |false=>rw [hl] at hc;cases hc
  |true=>
   rw [hl] at hc
   obtain rfl:ds=cs:=by simpa using hc
   have:=wX ts 0 ds _ r (by have:=Nat.eq_of_beq_eq_true hl;omega) h
   simpa using this
theorem dC {t:TypeId} {F:Nat->Option R} {r:R} (h:eU P t F=some r):∃ i,P.info? t=some i/\F i.size=some r:=by
 unfold eU at h
 split at h
 ·exact ⟨_,‹_›,h⟩
 ·cases h
theorem Aq {c:Bool} {x:Option R} {r:R} (h:(bif c then none else x)=some r):c=false/\x=some r:=by
 cases c with
 |true=>cases h
 |false=>exact ⟨rfl,h⟩
theorem aG {c:Bool} {x:Option R} {r:R} (h:(bif c then x else none)=some r):c=true/\x=some r:=by
 cases c
 ·cases h
 ·exact ⟨rfl,h⟩
theorem gn {v:AV} {F:fH × Nat->Option R} {r:R} (h:(AV.kC v).bind F=some r):∃ b o,v=.p (some (b,o))/\F (b,o)=some r:=by
 obtain ⟨⟨b,o⟩,h1,h2⟩:=Option.bind_eq_some_iff.1 h
 cases v<;>simp only [AV.kC] at h1<;>first |(cases h1;done) |exact ⟨b,o,by rw [h1],h2⟩
theorem sM {s ty:TypeId} {x:Operand} {f:Nat} {K:AV->Option R} {r:R} (h:bB P (.fieldAddr s x f) ty e K=some r) (he:aJ n ρ e a):eV P ρ (.fieldAddr s x f) a K r:=by
 have hx:=he.ev x
 simp only [bB] at h
 split at h
 ·rename_i fs hu
  split at h
  ·rename_i fd hfd
   obtain ⟨i,hi,h⟩:=dC h
   cases hs:Nat.beq i.size 0 with
   |true=>rw [hs] at h;cases h
   |false=>
    rw [hs] at h
    obtain ⟨b,o,lF,h⟩:=gn h
    rw [lF] at hx
    obtain ⟨L,hL,ux⟩:=hx.wL
    have iU:i.size≠0:=fun e=>by rw [e] at hs;cases hs
    refine ⟨_,_,h,.p b _ L hL,fun op w ho=>?_⟩
    have:(⟨L.B,L.O+o,none⟩:Addr).add fd.offset=⟨L.B,L.O+(o+fd.offset),none⟩:=by
     unfold Addr.add;split<;>simp_all;omega
    simp [execOp,ho,ux,Instr.fieldAt,run_underlying hu,hfd,Instr.sureAddr,fieldPlace,sizeOf,typeInfo,hi,iU,this]
  ·cases h
 ·cases h
theorem wK {t:TypeId} {ls:List fm} (h:lD P t=.agg ls) (w:World):(isAgg t).run P w=.ok true w:=by
 unfold lD at h
 split at h
 ·cases h
 ·rename_i hu;simp [isAgg,run_underlying hu]
 ·rename_i hu;simp [isAgg,run_underlying hu]
 ·cases h
theorem ub {t:TypeId} {l:fm} (h:lD P t=.one l) (hl:∃ d,P.underlying t=some d) (w:World):(isAgg t).run P w=.ok false w:=by
 obtain ⟨d,hd⟩:=hl
 unfold lD at h
 split at h
 ·cases h
 ·cases h
 ·cases h
 ·rename_i h1 h2 h3
  simp only [isAgg,Sem.run_bind,run_underlying hd,Result.andThen_ok]
  cases d<;>first |rfl |(exact absurd hd (h1 _)) |(exact absurd hd (h2 _)) |(exact absurd hd (h3 _ _))
theorem IB {cs:List AV} {vs:List Value} (h:aL ρ cs vs) (ho:cs.all AV.aR=true) (off sz:Nat):aK ρ (.agg ((cs.drop off).take sz)) (.agg (vs.toArray.extract off (off+sz))):=by
 have:=aK.agg ((cs.drop off).take sz) ((vs.drop off).take sz) ((h.drop off).take sz) (List.all_eq_true.2 fun x hx=>List.all_eq_true.1 ho x (List.mem_of_mem_drop (List.mem_of_mem_take hx)))
 have e:vs.toArray.extract off (off+sz)=((vs.drop off).take sz).toArray:=by
  apply Array.ext'
  simp [List.extract_eq_take_drop]
 rw [e];exact this
theorem ke {t:TypeId} {cs:List AV} {vs:List Value} (h:aL ρ cs vs) (ho:cs.all AV.aR=true) (off:Nat) {K:AV->Option R} {r:R}
  (hk:lS P t cs off K=some r):∃ v u,K v=some r/\aK ρ v u/\∀ w,(part t vs.toArray off).run P w=.ok u w:=by
 unfold lS at hk
 split at hk
 ·rename_i i d hi hd
  split at hk
  ·rename_i ls nP
   refine ⟨_,_,hk,IB h ho off i.size,fun w=>?_⟩
   simp [part,wK nP,sizeOf,typeInfo,hi]
  ·rename_i l nP
   simp only [Option.bind_eq_some_iff] at hk
   obtain ⟨v,hv,hk⟩:=hk
   obtain ⟨u,hu,hr⟩:=h.get hv
   refine ⟨v,u,dB hk,hr,fun w=>?_⟩
   simp [part,ub nP ⟨d,hd⟩,hu]
  ·cases hk
 ·cases hk
theorem oK {E:TypeId->AV->AV->Option Bool} {D:Nat} (hE:∀ t v v' u u' q,E t v v'=some q->aK ρ v u->aK ρ v' u'->∀ w,(Op.equalIn D t u u').run P w=.ok q w) {xs ys:List AV} {us vs:List Value} (hx:aL ρ xs us) (LU:xs.all AV.aR=true) (hy:aL ρ ys vs) (wV:ys.all AV.aR=true):
  ∀ (fs:List Field) (q:Bool),HU P E xs ys fs=some q->∀ w,(Op.eqFields D us.toArray vs.toArray fs).run P w=.ok q w
 |[],q,h,w=>by cases h;rfl
 |f::fs,q,h,w=>by
  simp only [HU] at h
  simp only [Op.eqFields]
  by_cases hn:f.name = "_"
  ·rw [if_pos hn] at h
   rw [if_neg (by simp [hn])]
   exact oK hE hx LU hy wV fs q h w
  ·rw [if_neg hn] at h
   rw [if_pos (by simpa using hn)]
   obtain ⟨a,ha,h⟩:=Option.bind_eq_some_iff.1 h
   obtain ⟨b,hb,h⟩:=Option.bind_eq_some_iff.1 h
   obtain ⟨r,hr,h⟩:=Option.bind_eq_some_iff.1 h
   obtain ⟨q',hq,h⟩:=Option.bind_eq_some_iff.1 h
   cases h
   obtain ⟨v1,u1,e1,r1,p1⟩:=ke hx LU f.offset ha
   obtain ⟨v2,u2,e2,r2,p2⟩:=ke hy wV f.offset hb
   cases e1
   cases e2
   simp only [Sem.run_bind,p1 w,p2 w,Result.andThen_ok,hE _ _ _ _ _ _ hr r1 r2 w]
   cases r with
   |false=>simp
   |true=>
    simp only [Bool.not_true,Bool.false_eq_true,if_false,Bool.true_and]
    exact oK hE hx LU hy wV fs q' hq w
theorem uA {E:TypeId->AV->AV->Option Bool} {D:Nat} (hE:∀ t v v' u u' q,E t v v'=some q->aK ρ v u->aK ρ v' u'->∀ w,(Op.equalIn D t u u').run P w=.ok q w) {t:TypeId} {xs ys:List AV} {us vs:List Value} (hx:aL ρ xs us) (LU:xs.all AV.aR=true) (hy:aL ρ ys vs) (wV:ys.all AV.aR=true):
  ∀ (is:List Nat) (q:Bool),MF P E t xs ys is=some q->∀ w,(Op.eqItems D t (P.cellsOf t) us.toArray vs.toArray is).run P w=.ok q w
 |[],q,h,w=>by cases h;rfl
 |i::is,q,h,w=>by
  simp only [MF] at h
  simp only [Op.eqItems]
  obtain ⟨a,ha,h⟩:=Option.bind_eq_some_iff.1 h
  obtain ⟨b,hb,h⟩:=Option.bind_eq_some_iff.1 h
  obtain ⟨r,hr,h⟩:=Option.bind_eq_some_iff.1 h
  obtain ⟨q',hq,h⟩:=Option.bind_eq_some_iff.1 h
  cases h
  obtain ⟨v1,u1,e1,r1,p1⟩:=ke hx LU (i*P.cellsOf t) ha
  obtain ⟨v2,u2,e2,r2,p2⟩:=ke hy wV (i*P.cellsOf t) hb
  cases e1
  cases e2
  simp only [Sem.run_bind,p1 w,p2 w,Result.andThen_ok,hE _ _ _ _ _ _ hr r1 r2 w]
  cases r with
  |false=>simp
  |true=>
   simp only [Bool.not_true,Bool.false_eq_true,if_false,Bool.true_and]
   exact uA hE hx LU hy wV is q' hq w
theorem qX:∀ (m d:Nat) (t:TypeId) (v v':AV) (u u':Value) (q:Bool),Wa P m t v v'=some q->aK ρ v u->aK ρ v' u'->∀ w,(Op.equalIn (m+d) t u u').run P w=.ok q w
 |0,_,_,_,_,_,_,_,h,_,_,_=>by cases h
 |m+1,d,t,v,v',u,u',q,h,hv,iD,w=>by
  simp only [Wa] at h
  rw [show m+1+d=(m+d)+1 by omega]
  split at h
  ·rename_i hu
   obtain ⟨x,hx,h⟩:=Option.bind_eq_some_iff.1 h
   obtain ⟨y,hy,h⟩:=Option.bind_eq_some_iff.1 h
   cases h
   cases v<;>simp [AV.aZ] at hx
   cases v'<;>simp [AV.aZ] at hy
   subst hx;subst hy
   cases hv;cases iD
   exact run_equalIn_bool w _ t _ _ hu
  ·rename_i k hu
   obtain ⟨x,hx,h⟩:=Option.bind_eq_some_iff.1 h
   obtain ⟨y,hy,h⟩:=Option.bind_eq_some_iff.1 h
   cases h
   cases v<;>simp [AV.aX] at hx
   cases v'<;>simp [AV.aX] at hy
   obtain ⟨rfl,rfl⟩:=hx
   obtain ⟨rfl,rfl⟩:=hy
   cases hv;cases iD
   exact run_equalIn_int w _ t _ _ _ _ hu
  ·rename_i hu
   obtain ⟨x,hx,h⟩:=Option.bind_eq_some_iff.1 h
   obtain ⟨y,hy,h⟩:=Option.bind_eq_some_iff.1 h
   cases h
   cases v<;>simp [AV.Rx] at hx
   cases v'<;>simp [AV.Rx] at hy
   subst hx;subst hy
   cases hv with |s a=>cases iD with |s b=>
   rw [run_equalIn_string w _ t _ _ hu,ByteArray.toList_eq,ByteArray.toList_eq]
  ·rename_i fs hu
   obtain ⟨hs,h⟩:=Aq h
   split at h
   ·rename_i xs ys
    cases hv with |agg _ us h1 h2=>cases iD with |agg _ vs h3 h4=>
    have hf:P.fieldsOf t=fs:=by simp [Program.fieldsOf,hu]
    rw [run_equalIn_struct w (m+d) t _ _ (by rw [hf];exact hu) hs,hf]
    exact oK (fun t v v' u u' q hq r1 r2 w=>qX m d t v v' u u' q hq r1 r2 w) h1 h2 h3 h4 fs.toList q h w
   ·cases h
  ·rename_i n el hu
   split at h
   ·rename_i xs ys
    cases hv with |agg _ us h1 h2=>cases iD with |agg _ vs h3 h4=>
    split at h
    ·rename_i i hi
     rw [run_equalIn_array w (m+d) _ _ hu hi]
     exact uA (fun t v v' u u' q hq r1 r2 w=>qX m d t v v' u u' q hq r1 r2 w) h1 h2 h3 h4 _ q h w
    ·cases h
   ·cases h
  ·cases h
theorem FW {op:BinOp} {t yt ty:TypeId} {x y:Operand} {K:AV->Option R} {r:R} (h:bB P (.binOp op t x y yt) ty e K=some r) (he:aJ n ρ e a):eV P ρ (.binOp op t x y yt) a K r:=by
 have hx:=he.ev x
 have hy:=he.ev y
 simp only [bB] at h
 split at h
 ·rename_i xs ys lF hvy
  rw [lF] at hx
  rw [hvy] at hy
  obtain ⟨hg,h⟩:=Aq h
  obtain ⟨q,hq,h⟩:=Option.bind_eq_some_iff.1 h
  have heq:=fun w=>qX (P:=P) (ρ:=ρ) 8 9992 t _ _ _ _ q hq hx hy w
  generalize Cp:a.eval x=ux at hx heq
  generalize huy:a.eval y=uy at hy heq
  cases hx with |agg _ us h1 h2=>cases hy with |agg _ vs h3 h4=>
  have yld:∀ (b:Bool),(∀ w,(binOp op t (.agg us.toArray) (.agg vs.toArray)).run P w=.ok (.bool b) w)->MV P (.binOp op t x y yt) a (.bool b):=fun b hb o w ho=>by
   simp only [execOp,ho,Sem.run_bind]
   rw [Cp,huy,run_eqGuard_agg w op t x y _ _ hg]
   simp only [Result.andThen_ok]
   rw [hb w];rfl
  cases op<;>simp only [lQ] at h<;>first |(cases h;done) |skip
  ·exact ⟨_,_,h,.b _,yld q fun w=>by rw [run_eql_struct,heq w];rfl⟩
  ·exact ⟨_,_,h,.b _,yld (!q) fun w=>by rw [run_neq_struct,heq w];rfl⟩
 ·exact Cz h hx hy
theorem Ar {t ty:TypeId} {x:Operand} {f:Nat} {K:AV->Option R} {r:R} (h:bB P (.field t x f) ty e K=some r) (he:aJ n ρ e a):eV P ρ (.field t x f) a K r:=by
 have hx:=he.ev x
 simp only [bB] at h
 split at h
 ·rename_i cs fs lF hu
  rw [lF] at hx
  obtain ⟨vs,ux,h1,h2⟩:=hx.yn
  split at h
  ·rename_i fd hfd
   obtain ⟨v,u,hk,hr,jM⟩:=ke h1 h2 _ h
   refine ⟨v,u,hk,hr,fun o w ho=>?_⟩
   simp [execOp,ho,ux,Instr.field,run_underlying hu,hfd,asAgg,jM]
  ·cases h
 ·cases h
theorem sN {t ty:TypeId} {x ix:Operand} {K:AV->Option R} {r:R} (h:bB P (.indexAddr t x ix) ty e K=some r) (he:aJ n ρ e a):eV P ρ (.indexAddr t x ix) a K r:=by
 have hx:=he.ev x
 have hi:=he.ev ix
 simp only [bB] at h
 split at h
 ·rename_i k i hvi
  rw [hvi] at hi
  have ui:=hi.dJ
  split at h
  ·rename_i len el hu
   obtain ⟨hc,h⟩:=aG h
   simp only [Bool.and_eq_true,decide_eq_true_eq] at hc
   obtain ⟨inf,iJ,h⟩:=dC h
   obtain ⟨b,o,lF,h⟩:=gn h
   rw [lF] at hx
   obtain ⟨L,hL,ux⟩:=hx.wL
   refine ⟨_,_,h,.p b _ L hL,fun op w ho=>?_⟩
   have:(⟨L.B,L.O+o,none⟩:Addr).add (i.toNat*inf.size)=⟨L.B,L.O+(o+i.toNat*inf.size),none⟩:=by
    unfold Addr.add;split<;>simp_all;omega
   simp [execOp,ho,ux,ui,Instr.indexAt,run_underlying hu,Instr.sureAddr,asIntOf,sizeOf,typeInfo,iJ,hc,this]
  ·rename_i el hu
   split at h
   ·rename_i sa m lF
    rw [lF] at hx
    have hc:=(aG h).1
    replace h:=(aG h).2
    simp only [Bool.and_eq_true,decide_eq_true_eq] at hc
    obtain ⟨inf,iJ,hB⟩:=dC h
    clear h
    obtain ⟨q,hq,hB⟩:=Option.bind_eq_some_iff.1 hB
    generalize Cp:a.eval x=ux at hx
    cases hx with
    |B1=>omega
    |zD=>omega
    |Bz=>omega
    |sl _ _ _ cap L hL h1 h2 h3=>
     cases hq
     refine ⟨_,_,hB,.p _ _ L hL,fun op w ho=>?_⟩
     have:∀ o,(⟨L.B,L.O+o,none⟩:Addr).add (i.toNat*inf.size)=⟨L.B,L.O+(o+i.toNat*inf.size),none⟩:=by
      intro o;unfold Addr.add;split<;>simp_all;omega
     simp [execOp,ho,Cp,ui,Instr.indexAt,run_underlying hu,asIntOf,sizeOf,typeInfo,iJ,hc,this]
   ·cases h
  ·cases h
 ·cases h
theorem As {t ty:TypeId} {x ix:Operand} {K:AV->Option R} {r:R} (h:bB P (.index t x ix) ty e K=some r) (he:aJ n ρ e a):eV P ρ (.index t x ix) a K r:=by
 have hx:=he.ev x
 have hi:=he.ev ix
 simp only [bB] at h
 split at h
 ·rename_i k i hvi
  rw [hvi] at hi
  have ui:=hi.dJ
  split at h
  ·rename_i len el cs hu lF
   rw [lF] at hx
   obtain ⟨vs,ux,h1,h2⟩:=hx.yn
   obtain ⟨hc,h⟩:=aG h
   simp only [Bool.and_eq_true,decide_eq_true_eq] at hc
   obtain ⟨inf,iJ,h⟩:=dC h
   obtain ⟨v,u,hk,hr,jM⟩:=ke h1 h2 _ h
   refine ⟨v,u,hk,hr,fun o w ho=>?_⟩
   simp [execOp,ho,ux,ui,Instr.index,run_underlying hu,asIntOf,hc,sizeOf,typeInfo,iJ,jM]
  ·rename_i l hu lF
   rw [lF] at hx
   obtain ⟨s,ux,rfl⟩:=hx.uh
   obtain ⟨hc,h⟩:=aG h
   simp only [decide_eq_true_eq] at hc
   simp only [Option.bind_eq_some_iff] at h
   obtain ⟨c,hcc,h⟩:=h
   refine ⟨_,_,h,.i _ _,fun o w ho=>?_⟩
   have hs:s[i.toNat]? = some c:=by
    obtain ⟨hl,hv⟩:=List.getElem?_eq_some_iff.1 hcc
    have D9:i.toNat<s.size:=by simpa using hl
    rw [getElem?_pos s i.toNat D9]
    rw [<-hv];simp [ByteArray.getElem_eq_getElem_data]
   simp [execOp,ho,ux,ui,Instr.index,run_underlying hu,asIntOf,hc,hs]
  ·cases h
 ·cases h
theorem vM {x:Operand} {m:Nat} {ty:TypeId} {K:AV->Option R} {r:R} (h:bB P (.extract x m) ty e K=some r) (he:aJ n ρ e a):eV P ρ (.extract x m) a K r:=by
 have hx:=he.ev x
 simp only [bB] at h
 split at h
 ·rename_i vs lF
  rw [lF] at hx
  obtain ⟨us,ux,h1⟩:=hx.yo
  simp only [Option.bind_eq_some_iff] at h
  obtain ⟨v,hv,h⟩:=h
  obtain ⟨u,hu,hr⟩:=h1.get hv
  refine ⟨v,u,j9 h,hr,fun o w ho=>?_⟩
  simp [execOp,ho,ux,Instr.extract,hu]
 ·cases h
theorem mZ {t el:TypeId} {a':Option Addr} {len cap:Nat} (hu:P.underlying t=some (.slice el)) {i:TypeInfo} (hi:P.info? el=some i) (lo hi':Option Value) (l h:Int)
  (h0:0<=l) (h1:l<=h) (h2:h<=(cap:Int)) (Uw:(lo=none/\l=0) ∨ ∃ k,lo=some (.int k l)) (hhi:(hi'=none/\h=len) ∨ ∃ k,hi'=some (.int k h)) (w:World):
  (Instr.sliceAt t (.slice a' len cap) lo hi' none).run P w=.ok (.slice (if cap=l.toNat then a' else a'.map (·.add (l.toNat*i.size))) (h.toNat - l.toNat) (cap - l.toNat)) w:=by
 have eh:(h.toNat:Int)=h:=Int.toNat_of_nonneg (by omega)
 have h0':0<=h:=by omega
 rcases Uw with ⟨rfl,rfl⟩ |⟨kl,rfl⟩<;>rcases hhi with ⟨rfl,rfl⟩ |⟨kh,rfl⟩<;>
  simp [Instr.sliceAt,Instr.slice,run_underlying hu,Instr.sliceBounds,run_sliceBound,sizeOf,typeInfo, *]
theorem Au {t ty:TypeId} {x:Operand} {lo hi mx:Option Operand} {K:AV->Option R} {r:R} (h:bB P (.slice t x lo hi mx) ty e K=some r) (he:aJ n ρ e a):eV P ρ (.slice t x lo hi mx) a K r:=by
 have hx:=he.ev x
 simp only [bB] at h
 have Uw:∀ k l,(match lo with |some o=>Abs.ev e o |none=>.i .i64 0)=.i k l->((lo.map a.eval=none/\l=0) ∨ ∃ k,lo.map a.eval=some (.int k l)):=by
  intro k l hl
  cases lo with
  |none=>simp at hl;exact .inl ⟨rfl,hl.2.symm⟩
  |some o=>simp only at hl;have:=he.ev o;rw [hl] at this;exact .inr ⟨k,by simp [this.dJ]⟩
 have hhi:∀ (m:Int) k h',(match hi with |some o=>Abs.ev e o |none=>.i .i64 m)=.i k h'->((hi.map a.eval=none/\h'=m) ∨ ∃ k,hi.map a.eval=some (.int k h')):=by
  intro m k h' hl
  cases hi with
  |none=>simp at hl;exact .inl ⟨rfl,hl.2.symm⟩
  |some o=>simp only at hl;have:=he.ev o;rw [hl] at this;exact .inr ⟨k,by simp [this.dJ]⟩
 split at h
 ·rename_i sa m lF
  rw [lF] at hx
  split at h
  ·rename_i el hu
   split at h
   ·rename_i k1 l k2 h' hl hh
    obtain ⟨hc,hA⟩:=aG h
    simp only [Bool.and_eq_true,decide_eq_true_eq] at hc
    obtain ⟨⟨c1,c2⟩,c3⟩:=hc
    obtain ⟨inf,iJ,hB⟩:=dC hA
    clear h hA
    obtain ⟨Uy,MX,hB⟩:=Option.bind_eq_some_iff.1 hB
    have D9:=Uw _ _ hl
    have RQ:=hhi _ _ _ hh
    generalize Cp:a.eval x=ux at hx
    cases hx with
    |B1=>
     have e1:l=0:=by omega
     have e2:h'=0:=by omega
     subst e1;subst e2
     cases MX
     refine ⟨_,.slice none 0 0,hB,.B1,fun o w ho=>?_⟩
     simp only [execOp,ho,Cp,Option.map_none,Sem.run_bind]
     rw [mZ (P:=P) hu iJ _ _ 0 0 c1 c2 (by simp) D9 (by simpa using RQ) w];rfl
    |zD A=>
     have e1:l=0:=by omega
     have e2:h'=0:=by omega
     subst e1;subst e2
     cases MX
     refine ⟨_,.slice (some A) 0 0,hB,.zD A,fun o w ho=>?_⟩
     simp only [execOp,ho,Cp,Option.map_none,Sem.run_bind]
     rw [mZ (P:=P) hu iJ _ _ 0 0 c1 c2 (by simp) D9 (by simpa using RQ) w];rfl
    |Bz b o es A=>
     have e1:l=0:=by omega
     have e2:h'=0:=by omega
     subst e1;subst e2
     obtain ⟨vA,hC⟩:=aG MX
     cases hC
     refine ⟨_,.slice (some A) 0 0,hB,.Bz _ _ _ A,fun o w ho=>?_⟩
     simp only [execOp,ho,Cp,Option.map_none,Sem.run_bind]
     rw [mZ (P:=P) hu iJ _ _ 0 0 c1 c2 (by simp) D9 (by simpa using RQ) w];rfl
    |sl b o _ cap L hL h1 h2 h3=>
     obtain ⟨vA,hC⟩:=aG MX
     cases hC
     have vA:=Nat.eq_of_beq_eq_true vA
     have jM:MV P (.slice t x lo hi none) a (.slice (if cap=l.toNat then some ⟨L.B,L.O+o,none⟩ else (some ⟨L.B,L.O+o,none⟩:Option Addr).map (·.add (l.toNat*inf.size))) (h'.toNat - l.toNat) (cap - l.toNat)):=fun op w ho=>by
      simp only [execOp,ho,Cp,Option.map_none,Sem.run_bind]
      rw [mZ (P:=P) hu iJ _ _ l h' c1 c2 (by omega) D9 (by simpa using RQ) w];rfl
     refine ⟨_,_,hB,?_,jM⟩
     rw [<-vA]
     by_cases sY:cap=l.toNat
     ·have:h'.toNat - l.toNat=0:=by omega
      rw [this,if_pos sY,sY,Nat.sub_self]
      exact .Bz _ _ _ _
     ·rw [if_neg sY]
      have:(⟨L.B,L.O+o,none⟩:Addr).add (l.toNat*L.es)=⟨L.B,L.O+(o+l.toNat*L.es),none⟩:=by
       unfold Addr.add;split<;>simp_all;omega
      simp only [Option.map_some,this]
      refine .sl b _ _ _ L hL (by omega) (by omega) ?_
      have:l.toNat*L.es+(cap - l.toNat)*L.es=cap*L.es:=by rw [<-Nat.add_mul];congr 1;omega
      omega
   ·cases h
  ·cases h
 ·rename_i s lF
  rw [lF] at hx
  obtain ⟨s,ux,rfl⟩:=hx.uh
  split at h
  ·rename_i hu
   split at h
   ·rename_i k1 l k2 h' hl hh
    obtain ⟨hc,h⟩:=aG h
    simp only [Bool.and_eq_true,decide_eq_true_eq] at hc
    obtain ⟨⟨c1,c2⟩,c3⟩:=hc
    have D9:=Uw _ _ hl
    have RQ:=hhi _ _ _ hh
    have kA:s.data.toList.length=s.size:=by simp
    refine ⟨_,.string (s.extract l.toNat h'.toNat),h,?_,fun o w ho=>?_⟩
    ·have:=aK.s (ρ:=ρ) (s.extract l.toNat h'.toNat)
     have e:(s.extract l.toNat h'.toNat).data.toList=(s.data.toList.drop l.toNat).take (h'.toNat - l.toNat):=by
      rw [ByteArray.data_extract,Array.toList_extract,List.extract_eq_take_drop]
     rw [e] at this;exact this
    ·have eh:(h'.toNat:Int)=h':=Int.toNat_of_nonneg (by omega)
     have h0':0<=h':=by omega
     have hm:s.size - 0=s.size:=rfl
     simp only [execOp,ho,ux,Option.map_none,Sem.run_bind]
     rw [kA] at RQ c3
     rcases D9 with ⟨e1,rfl⟩ |⟨kl,e1⟩<;>rcases RQ with ⟨e2,rfl⟩ |⟨kh,e2⟩<;>
      simp [e1,e2,Instr.sliceAt,Instr.slice,run_underlying hu,Instr.sliceBounds,run_sliceBound,c1,c2,c3,eh,h0']
   ·cases h
  ·cases h
 ·rename_i m sa k lF
  rw [lF] at hx
  split at h
  ·rename_i el hu
   split at h
   ·rename_i k1 l k2 h' k3 c hl hh hm
    obtain ⟨hc,hA⟩:=aG h
    simp only [Bool.and_eq_true,decide_eq_true_eq] at hc
    obtain ⟨⟨rfl,rfl⟩,rfl⟩:=hc
    obtain ⟨inf,iJ,hB⟩:=dC hA
    clear h hA
    have vN:lo.map a.eval=none ∨ ∃ k,lo.map a.eval=some (.int k 0):=by
     rcases Uw _ _ hl with ⟨e1,_⟩ |⟨k,e1⟩
     ·exact .inl e1
     ·exact .inr ⟨k,e1⟩
    have wR:∃ k,hi.map a.eval=some (.int k 0):=by
     cases hi with
     |none=>simp at hh
     |some o=>simp only at hh;have:=he.ev o;rw [hh] at this;exact ⟨k2,by simp [this.dJ]⟩
    have hk3:a.eval m=.int k3 0:=by have:=he.ev m;rw [hm] at this;exact this.dJ
    obtain ⟨kh,wR⟩:=wR
    have jM:∀ (A:Option Addr) (len cap:Nat) w,(Instr.sliceAt t (.slice A len cap) (lo.map a.eval) (hi.map a.eval) (some (a.eval m))).run P w=.ok (.slice A 0 0) w:=by
     intro A len cap w
     rw [wR,hk3]
     rcases vN with e1 |⟨k,e1⟩<;>
      simp [e1,Instr.sliceAt,Instr.slice,run_underlying hu,Instr.sliceBounds,run_sliceBound,sizeOf,typeInfo,iJ]
    generalize Cp:a.eval x=ux at hx
    have fin:∀ (A:Option Addr) (len cap:Nat),ux=.slice A len cap->∀ (o:Oper) (w:World),o.op=.slice t x lo hi (some m)->(execOp a.eval o).run P w=.ok (.value (.slice A 0 0)) w:=by
     intro A len cap e1 o w ho
     simp only [execOp,ho,Cp,e1,Option.map_some,Sem.run_bind]
     rw [jM];rfl
    cases hx with
    |B1=>exact ⟨_,_,hB,.B1,fin _ _ _ rfl⟩
    |zD A=>exact ⟨_,_,hB,.zD A,fin _ _ _ rfl⟩
    |Bz b o es A=>exact ⟨_,_,hB,.zD A,fin _ _ _ rfl⟩
    |sl b o _ cap L hL h1 h2 h3=>exact ⟨_,_,hB,.zD _,fin _ _ _ rfl⟩
   ·cases h
  ·cases h
 ·cases h
theorem CA {c:Call} {ty:TypeId} {K:AV->Option R} {r:R} (h:bB P (.call c) ty e K=some r) (he:aJ n ρ e a):eV P ρ (.call c) a K r:=by
 have hx:=he.evs c.args.toList
 have hargs:(c.args.map a.eval).toList=c.args.toList.map a.eval:=by simp
 simp only [bB] at h
 split at h
 ·rename_i dU
  split at h
  ·rename_i l t hv ht
   rw [hv] at hx
   cases iD:c.args.toList.map a.eval with
   |nil=>rw [iD] at hx;cases hx
   |cons u us=>
    rw [iD] at hx
    cases hx with
    |cons _ _ _ _ h1 h2=>
     cases h2
     obtain ⟨s,rfl,rfl⟩:=h1.uh
     split at h
     ·rename_i hu
      refine ⟨_,_,h,.i _ _,fun o w ho=>?_⟩
      have e1:c.args.map a.eval = #[.string s]:=by apply Array.ext';rw [hargs,iD]
      have e2:c.argTypes = #[t]:=by apply Array.ext';rw [ht]
      have kA:s.data.toList.length=s.size:=by simp
      rw [kA]
      simp [execOp,ho,resolve,dU,invoke,builtin,Builtin.len_,e1,e2,run_underlying hu,goInt]
     ·cases h
  ·rename_i sa m t hv ht
   rw [hv] at hx
   cases iD:c.args.toList.map a.eval with
   |nil=>rw [iD] at hx;cases hx
   |cons u us=>
    rw [iD] at hx
    cases hx with
    |cons _ _ _ _ h1 h2=>
     cases h2
     obtain ⟨A,cap,rfl,_⟩:=h1.qT
     split at h
     ·rename_i el hu
      refine ⟨_,_,h,.i _ _,fun o w ho=>?_⟩
      have e1:c.args.map a.eval = #[.slice A m cap]:=by apply Array.ext';rw [hargs,iD]
      have e2:c.argTypes = #[t]:=by apply Array.ext';rw [ht]
      simp [execOp,ho,resolve,dU,invoke,builtin,Builtin.len_,e1,e2,run_underlying hu,goInt]
     ·cases h
  ·cases h
 ·rename_i dU
  split at h
  ·rename_i k x k' y hv
   rw [hv] at hx
   split at h
   ·rename_i hk
    subst hk
    have e0:c.args.toList.map a.eval=[.int k x,.int k y]:=by
     cases iD:c.args.toList.map a.eval with
     |nil=>rw [iD] at hx;cases hx
     |cons u us=>
      rw [iD] at hx
      cases hx with
      |cons _ _ _ _ h1 h2=>
       cases h2 with
       |cons _ _ _ _ h3 h4=>cases h4;rw [h1.dJ,h3.dJ]
    refine ⟨_,_,h,.i _ _,fun o w ho=>?_⟩
    have e1:c.args.map a.eval = #[.int k x,.int k y]:=by apply Array.ext';rw [hargs,e0]
    simp [execOp,ho,resolve,dU,invoke,builtin,Builtin.min_,e1,Builtin.min2]
   ·cases h
  ·rename_i k x k' y Wb z hv
   rw [hv] at hx
   split at h
   ·rename_i hk
    obtain ⟨vN,wR⟩:=hk
    subst vN;subst wR
    have e0:c.args.toList.map a.eval=[.int k x,.int k y,.int k z]:=by
     cases iD:c.args.toList.map a.eval with
     |nil=>rw [iD] at hx;cases hx
     |cons u us=>
      rw [iD] at hx
      cases hx with
      |cons _ _ _ _ h1 h2=>
       cases h2 with
       |cons _ _ _ _ h3 h4=>
        cases h4 with
        |cons _ _ _ _ h5 h6=>cases h6;rw [h1.dJ,h3.dJ,h5.dJ]
    refine ⟨_,_,h,.i _ _,fun o w ho=>?_⟩
    have e1:c.args.map a.eval = #[.int k x,.int k y,.int k z]:=by apply Array.ext';rw [hargs,e0]
    simp [execOp,ho,resolve,dU,invoke,builtin,Builtin.min_,e1,Builtin.min2]
   ·cases h
  ·cases h
 ·rename_i dU
  split at h
  ·rename_i k x k' y hv
   rw [hv] at hx
   split at h
   ·rename_i hk
    subst hk
    have e0:c.args.toList.map a.eval=[.int k x,.int k y]:=by
     cases iD:c.args.toList.map a.eval with
     |nil=>rw [iD] at hx;cases hx
     |cons u us=>
      rw [iD] at hx
      cases hx with
      |cons _ _ _ _ h1 h2=>
       cases h2 with
       |cons _ _ _ _ h3 h4=>cases h4;rw [h1.dJ,h3.dJ]
    refine ⟨_,_,h,.i _ _,fun o w ho=>?_⟩
    have e1:c.args.map a.eval = #[.int k x,.int k y]:=by apply Array.ext';rw [hargs,e0]
    simp [execOp,ho,resolve,dU,invoke,builtin,Builtin.max_,e1,Builtin.max2]
   ·cases h
  ·rename_i k x k' y Wb z hv
   rw [hv] at hx
   split at h
   ·rename_i hk
    obtain ⟨vN,wR⟩:=hk
    subst vN;subst wR
    have e0:c.args.toList.map a.eval=[.int k x,.int k y,.int k z]:=by
     cases iD:c.args.toList.map a.eval with
     |nil=>rw [iD] at hx;cases hx
     |cons u us=>
      rw [iD] at hx
      cases hx with
      |cons _ _ _ _ h1 h2=>
       cases h2 with
       |cons _ _ _ _ h3 h4=>
        cases h4 with
        |cons _ _ _ _ h5 h6=>cases h6;rw [h1.dJ,h3.dJ,h5.dJ]
    refine ⟨_,_,h,.i _ _,fun o w ho=>?_⟩
    have e1:c.args.map a.eval = #[.int k x,.int k y,.int k z]:=by apply Array.ext';rw [hargs,e0]
    simp [execOp,ho,resolve,dU,invoke,builtin,Builtin.max_,e1,Builtin.max2]
   ·cases h
  ·cases h
 ·cases h
theorem Ci {op:Op} {ty:TypeId} {K:AV->Option R} {r:R} (h:bB P op ty e K=some r) (he:aJ n ρ e a):eV P ρ op a K r:=by
 cases op
 case move x=>exact ⟨_,_,h,he.ev x,Ix x⟩
 case assign x=>exact ⟨_,_,h,he.ev x,Ct x⟩
 case pick=>exact Cu h he
 case build=>exact Am h he
 case nilCheck=>exact uw h he
 case binOp=>exact FW h he
 case unOp=>exact Iz h he
 case convert=>exact vL h he
 case makeFunc=>exact uz h he
 case slice=>exact Au h he
 case fieldAddr=>exact sM h he
 case field=>exact Ar h he
 case indexAddr=>exact sN h he
 case index=>exact As h he
 case extract=>exact vM h he
 case call=>exact CA h he
 all_goals (simp only [bB] at h;cases h)
end Go.Abs
