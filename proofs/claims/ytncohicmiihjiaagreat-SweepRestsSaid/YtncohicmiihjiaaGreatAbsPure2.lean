/-
  AbsPure2: the operations that only reckon, the rest.
-/
import Derived.Test.YtncohicmiihjiaaGreatAbsPure
import Derived.Laws.StructEq
import Derived.ChangeKeysEq
set_option linter.unusedVariables false
set_option linter.unusedSimpArgs false
set_option linter.constructorNameAsVariable false
namespace Go.Abs
open Go
variable {ρ:bT} {n:Nat} {e:Env} {a:Act} {P:Program} {R:Type}
theorem dA {l:fg} {v:AV} {K:AV->Option R} {r:R} (h:gp l v K=some r):K v=some r:=by
 unfold gp at h
 cases l<;>simp only [] at h<;>first |exact h |skip
 all_goals (simp only [Option.bind_eq_some_iff] at h;obtain ⟨x,hx,h⟩:=h)
 ·cases v<;>simp_all [AV.aZ]
 ·cases v<;>simp only [AV.aX] at hx<;>try (cases hx;done)
  split at hx
  ·rename_i hk;cases hx;subst hk;exact h
  ·cases hx
 ·cases v<;>simp_all [AV.Sl]
 ·cases v<;>simp_all [AV.bH]
 ·cases v<;>simp_all [AV.eG]
  obtain ⟨x1,x2⟩:=x;cases hx;exact h
 ·cases v<;>simp_all [AV.Vb]
 ·cases v<;>simp_all [AV.FH]
theorem nO:∀ (ls:List fg) (i:Nat) (vs:List AV) (K:List AV->Option R) (r:R),i+ls.length=vs.length->dQ ls i vs K=some r->K (vs.drop i)=some r
 |[],i,vs,K,r,hl,h=>by
  simp only [dQ] at h
  rw [List.drop_of_length_le (by simp at hl;omega)];exact h
 |l::ls,i,vs,K,r,hl,h=>by
  simp only [dQ] at h
  have h1:=dA h
  have h2:=nO ls (i+1) vs _ r (by simp at hl;omega) h1
  have hi:i<vs.length:=by simp at hl;omega
  rw [List.drop_eq_getElem_cons hi]
  have:vs.getD i .u=vs[i]:=by simp [List.getD,hi]
  rw [this] at h2;exact h2
theorem AJ {ls:List fg} {v:AV} {K:AV->Option R} {r:R} (h:((AV.asAgg ls.length v).bind fun cs=>dQ ls 0 cs fun vs=>K (.agg vs))=some r):K v=some r:=by
 obtain ⟨cs,hc,h⟩:=Option.bind_eq_some_iff.1 h
 obtain ⟨ds,rfl⟩:∃ ds,v=.agg ds:=by cases v<;>first |exact ⟨_,rfl⟩ |(cases hc;done)
 simp only [AV.asAgg] at hc
 cases hl:Nat.beq ds.length ls.length with
 |false=>rw [hl] at hc;cases hc
 |true=>
  rw [hl] at hc
  obtain rfl:ds=cs:=by simpa using hc
  have:=nO ls 0 ds _ r (by have:=Nat.eq_of_beq_eq_true hl;omega) h
  simpa using this
theorem IX {t:fg ⊕ List fg} {v:AV} {K:AV->Option R} {r:R} (h:as1 t v K=some r):K v=some r:=by
 cases t with
 |inl l=>exact dA h
 |inr ls=>exact AJ h
theorem xc:∀ (ts:List (fg ⊕ List fg)) (i:Nat) (vs:List AV) (K:List AV->Option R) (r:R),i+ts.length=vs.length->xX ts i vs K=some r->K (vs.drop i)=some r
 |[],i,vs,K,r,hl,h=>by
  simp only [xX] at h
  rw [List.drop_of_length_le (by simp at hl;omega)];exact h
 |l::ls,i,vs,K,r,hl,h=>by
  simp only [xX] at h
  have h1:=IX h
  have h2:=xc ls (i+1) vs _ r (by simp at hl;omega) h1
  have hi:i<vs.length:=by simp at hl;omega
  rw [List.drop_eq_getElem_cons hi]
  have:vs.getD i .u=vs[i]:=by simp [List.getD,hi]
  rw [this] at h2;exact h2
theorem jX {t:Ty} {v:AV} {K:AV->Option R} {r:R} (h:vG t v K=some r):K v=some r:=by
 cases t with
 |one l=>exact dA h
 |agg ls=>exact AJ h
 |aG ts=>
  simp only [vG] at h
  obtain ⟨cs,hc,h⟩:=Option.bind_eq_some_iff.1 h
  obtain ⟨ds,rfl⟩:∃ ds,v=.aG ds:=by cases v<;>first |exact ⟨_,rfl⟩ |(cases hc;done)
  simp only [AV.az] at hc
  cases hl:Nat.beq ds.length ts.length with
  |false=>rw [hl] at hc;cases hc
  |true=>
   rw [hl] at hc
   obtain rfl:ds=cs:=by simpa using hc
   have:=xc ts 0 ds _ r (by have:=Nat.eq_of_beq_eq_true hl;omega) h
   simpa using this
theorem dB {t:TypeId} {F:Nat->Option R} {r:R} (h:eQ P t F=some r):∃ i,P.info? t=some i/\F i.size=some r:=by
 unfold eQ at h
 split at h
 ·exact ⟨_,‹_›,h⟩
 ·cases h
theorem AK {c:Bool} {x:Option R} {r:R} (h:(bif c then none else x)=some r):c=false/\x=some r:=by
 cases c with
 |true=>cases h
 |false=>exact ⟨rfl,h⟩
theorem aF {c:Bool} {x:Option R} {r:R} (h:(bif c then x else none)=some r):c=true/\x=some r:=by
 cases c
 ·cases h
 ·exact ⟨rfl,h⟩
theorem gq {v:AV} {F:fJ × Nat->Option R} {r:R} (h:(AV.qz v).bind F=some r):∃ b o,v=.p (some (b,o))/\F (b,o)=some r:=by
 obtain ⟨⟨b,o⟩,h1,h2⟩:=Option.bind_eq_some_iff.1 h
 cases v<;>simp only [AV.qz] at h1<;>first |(cases h1;done) |exact ⟨b,o,by rw [h1],h2⟩
theorem sw {s ty:TypeId} {x:Operand} {f:Nat} {K:AV->Option R} {r:R} (h:bc P (.fieldAddr s x f) ty e K=some r) (he:aC n ρ e a):eS P ρ (.fieldAddr s x f) a K r:=by
 have hx:=he.ev x
 simp only [bc] at h
 split at h
 ·rename_i fs hu
  split at h
  ·rename_i fd hfd
   obtain ⟨i,hi,h⟩:=dB h
   cases hs:Nat.beq i.size 0 with
   |true=>rw [hs] at h;cases h
   |false=>
    rw [hs] at h
    obtain ⟨b,o,lD,h⟩:=gq h
    rw [lD] at hx
    obtain ⟨L,hL,ux⟩:=hx.wN
    have ik:i.size≠0:=fun e=>by rw [e] at hs;cases hs
    refine ⟨_,_,h,.p b _ L hL,fun op w ho=>?_⟩
    have:(⟨L.B,L.O+o,none⟩:Addr).add fd.offset=⟨L.B,L.O+(o+fd.offset),none⟩:=by
     unfold Addr.add;split<;>simp_all;omega
    simp [execOp,ho,ux,Instr.fieldAt,run_underlying hu,hfd,Instr.sureAddr,fieldPlace,sizeOf,typeInfo,hi,ik,this]
  ·cases h
 ·cases h
theorem wM {t:TypeId} {ls:List fg} (h:lB P t=.agg ls) (w:World):(isAgg t).run P w=.ok true w:=by
 unfold lB at h
 split at h
 ·cases h
 ·rename_i hu;simp [isAgg,run_underlying hu]
 ·rename_i hu;simp [isAgg,run_underlying hu]
 ·cases h
theorem tZ {t:TypeId} {l:fg} (h:lB P t=.one l) (hl:∃ d,P.underlying t=some d) (w:World):(isAgg t).run P w=.ok false w:=by
 obtain ⟨d,hd⟩:=hl
 unfold lB at h
 split at h
 ·cases h
 ·cases h
 ·cases h
 ·rename_i h1 h2 h3
  simp only [isAgg,Sem.run_bind,run_underlying hd,Result.andThen_ok]
  cases d<;>first |rfl |(exact absurd hd (h1 _)) |(exact absurd hd (h2 _)) |(exact absurd hd (h3 _ _))
theorem IY {cs:List AV} {vs:List Value} (h:aL ρ cs vs) (ho:cs.all AV.aU=true) (off sz:Nat):aK ρ (.agg ((cs.drop off).take sz)) (.agg (vs.toArray.extract off (off+sz))):=by
 have:=aK.agg ((cs.drop off).take sz) ((vs.drop off).take sz) ((h.drop off).take sz) (List.all_eq_true.2 fun x hx=>List.all_eq_true.1 ho x (List.mem_of_mem_drop (List.mem_of_mem_take hx)))
 have e:vs.toArray.extract off (off+sz)=((vs.drop off).take sz).toArray:=by
  apply Array.ext'
  simp [List.extract_eq_take_drop]
 rw [e];exact this
theorem j7 {t:TypeId} {cs:List AV} {vs:List Value} (h:aL ρ cs vs) (ho:cs.all AV.aU=true) (off:Nat) {K:AV->Option R} {r:R}
  (hk:lT P t cs off K=some r):∃ v u,K v=some r/\aK ρ v u/\∀ w,(part t vs.toArray off).run P w=.ok u w:=by
 unfold lT at hk
 split at hk
 ·rename_i i d hi hd
  split at hk
  ·rename_i ls nL
   refine ⟨_,_,hk,IY h ho off i.size,fun w=>?_⟩
   simp [part,wM nL,sizeOf,typeInfo,hi]
  ·rename_i l nL
   simp only [Option.bind_eq_some_iff] at hk
   obtain ⟨v,hv,hk⟩:=hk
   obtain ⟨u,hu,hr⟩:=h.get hv
   refine ⟨v,u,dA hk,hr,fun w=>?_⟩
   simp [part,tZ nL ⟨d,hd⟩,hu]
  ·cases hk
 ·cases hk
theorem oA {E:TypeId->AV->AV->Option Bool} {D:Nat} (hE:∀ t v v' u u' q,E t v v'=some q->aK ρ v u->aK ρ v' u'->∀ w,(Op.equalIn D t u u').run P w=.ok q w) {xs ys:List AV} {us vs:List Value} (hx:aL ρ xs us) (Mp:xs.all AV.aU=true) (hy:aL ρ ys vs) (w9:ys.all AV.aU=true):
  ∀ (fs:List Field) (q:Bool),Ik P E xs ys fs=some q->∀ w,(Op.eqFields D us.toArray vs.toArray fs).run P w=.ok q w
 |[],q,h,w=>by cases h;rfl
 |f::fs,q,h,w=>by
  simp only [Ik] at h
  simp only [Op.eqFields]
  by_cases hn:f.name = "_"
  ·rw [if_pos hn] at h
   rw [if_neg (by simp [hn])]
   exact oA hE hx Mp hy w9 fs q h w
  ·rw [if_neg hn] at h
   rw [if_pos (by simpa using hn)]
   obtain ⟨a,ha,h⟩:=Option.bind_eq_some_iff.1 h
   obtain ⟨b,hb,h⟩:=Option.bind_eq_some_iff.1 h
   obtain ⟨r,hr,h⟩:=Option.bind_eq_some_iff.1 h
   obtain ⟨q',hq,h⟩:=Option.bind_eq_some_iff.1 h
   cases h
   obtain ⟨v1,u1,e1,r1,p1⟩:=j7 hx Mp f.offset ha
   obtain ⟨v2,u2,e2,r2,p2⟩:=j7 hy w9 f.offset hb
   cases e1
   cases e2
   simp only [Sem.run_bind,p1 w,p2 w,Result.andThen_ok,hE _ _ _ _ _ _ hr r1 r2 w]
   cases r with
   |false=>simp
   |true=>
    simp only [Bool.not_true,Bool.false_eq_true,if_false,Bool.true_and]
    exact oA hE hx Mp hy w9 fs q' hq w
theorem uz {E:TypeId->AV->AV->Option Bool} {D:Nat} (hE:∀ t v v' u u' q,E t v v'=some q->aK ρ v u->aK ρ v' u'->∀ w,(Op.equalIn D t u u').run P w=.ok q w) {t:TypeId} {xs ys:List AV} {us vs:List Value} (hx:aL ρ xs us) (Mp:xs.all AV.aU=true) (hy:aL ρ ys vs) (w9:ys.all AV.aU=true):
  ∀ (is:List Nat) (q:Bool),Nh P E t xs ys is=some q->∀ w,(Op.eqItems D t (P.cellsOf t) us.toArray vs.toArray is).run P w=.ok q w
 |[],q,h,w=>by cases h;rfl
 |i::is,q,h,w=>by
  simp only [Nh] at h
  simp only [Op.eqItems]
  obtain ⟨a,ha,h⟩:=Option.bind_eq_some_iff.1 h
  obtain ⟨b,hb,h⟩:=Option.bind_eq_some_iff.1 h
  obtain ⟨r,hr,h⟩:=Option.bind_eq_some_iff.1 h
  obtain ⟨q',hq,h⟩:=Option.bind_eq_some_iff.1 h
  cases h
  obtain ⟨v1,u1,e1,r1,p1⟩:=j7 hx Mp (i*P.cellsOf t) ha
  obtain ⟨v2,u2,e2,r2,p2⟩:=j7 hy w9 (i*P.cellsOf t) hb
  cases e1
  cases e2
  simp only [Sem.run_bind,p1 w,p2 w,Result.andThen_ok,hE _ _ _ _ _ _ hr r1 r2 w]
  cases r with
  |false=>simp
  |true=>
   simp only [Bool.not_true,Bool.false_eq_true,if_false,Bool.true_and]
   exact uz hE hx Mp hy w9 is q' hq w
theorem qR:∀ (m d:Nat) (t:TypeId) (v v':AV) (u u':Value) (q:Bool),WS P m t v v'=some q->aK ρ v u->aK ρ v' u'->∀ w,(Op.equalIn (m+d) t u u').run P w=.ok q w
 |0,_,_,_,_,_,_,_,h,_,_,_=>by cases h
 |m+1,d,t,v,v',u,u',q,h,hv,iB,w=>by
  simp only [WS] at h
  rw [show m+1+d=(m+d)+1 by omega]
  split at h
  ·rename_i hu
   obtain ⟨x,hx,h⟩:=Option.bind_eq_some_iff.1 h
   obtain ⟨y,hy,h⟩:=Option.bind_eq_some_iff.1 h
   cases h
   cases v<;>simp [AV.aZ] at hx
   cases v'<;>simp [AV.aZ] at hy
   subst hx;subst hy
   cases hv;cases iB
   exact run_equalIn_bool w _ t _ _ hu
  ·rename_i k hu
   obtain ⟨x,hx,h⟩:=Option.bind_eq_some_iff.1 h
   obtain ⟨y,hy,h⟩:=Option.bind_eq_some_iff.1 h
   cases h
   cases v<;>simp [AV.aX] at hx
   cases v'<;>simp [AV.aX] at hy
   obtain ⟨rfl,rfl⟩:=hx
   obtain ⟨rfl,rfl⟩:=hy
   cases hv;cases iB
   exact run_equalIn_int w _ t _ _ _ _ hu
  ·rename_i hu
   obtain ⟨x,hx,h⟩:=Option.bind_eq_some_iff.1 h
   obtain ⟨y,hy,h⟩:=Option.bind_eq_some_iff.1 h
   cases h
   cases v<;>simp [AV.Sl] at hx
   cases v'<;>simp [AV.Sl] at hy
   subst hx;subst hy
   cases hv with |s a=>cases iB with |s b=>
   rw [run_equalIn_string w _ t _ _ hu,ByteArray.toList_eq,ByteArray.toList_eq]
  ·rename_i fs hu
   obtain ⟨hs,h⟩:=AK h
   split at h
   ·rename_i xs ys
    cases hv with |agg _ us h1 h2=>cases iB with |agg _ vs h3 h4=>
    have hf:P.fieldsOf t=fs:=by simp [Program.fieldsOf,hu]
    rw [run_equalIn_struct w (m+d) t _ _ (by rw [hf];exact hu) hs,hf]
    exact oA (fun t v v' u u' q hq r1 r2 w=>qR m d t v v' u u' q hq r1 r2 w) h1 h2 h3 h4 fs.toList q h w
   ·cases h
  ·rename_i n el hu
   split at h
   ·rename_i xs ys
    cases hv with |agg _ us h1 h2=>cases iB with |agg _ vs h3 h4=>
    split at h
    ·rename_i i hi
     rw [run_equalIn_array w (m+d) _ _ hu hi]
     exact uz (fun t v v' u u' q hq r1 r2 w=>qR m d t v v' u u' q hq r1 r2 w) h1 h2 h3 h4 _ q h w
    ·cases h
   ·cases h
  ·cases h
theorem Gb {op:BinOp} {t yt ty:TypeId} {x y:Operand} {K:AV->Option R} {r:R} (h:bc P (.binOp op t x y yt) ty e K=some r) (he:aC n ρ e a):eS P ρ (.binOp op t x y yt) a K r:=by
 have hx:=he.ev x
 have hy:=he.ev y
 simp only [bc] at h
 split at h
 ·rename_i xs ys lD hvy
  rw [lD] at hx
  rw [hvy] at hy
  obtain ⟨hg,h⟩:=AK h
  obtain ⟨q,hq,h⟩:=Option.bind_eq_some_iff.1 h
  have heq:=fun w=>qR (P:=P) (ρ:=ρ) 8 9992 t _ _ _ _ q hq hx hy w
  generalize CF:a.eval x=ux at hx heq
  generalize huy:a.eval y=uy at hy heq
  cases hx with |agg _ us h1 h2=>cases hy with |agg _ vs h3 h4=>
  have yld:∀ (b:Bool),(∀ w,(binOp op t (.agg us.toArray) (.agg vs.toArray)).run P w=.ok (.bool b) w)->NH P (.binOp op t x y yt) a (.bool b):=fun b hb o w ho=>by
   simp only [execOp,ho,Sem.run_bind]
   rw [CF,huy,run_eqGuard_agg w op t x y _ _ hg]
   simp only [Result.andThen_ok]
   rw [hb w];rfl
  cases op<;>simp only [lS] at h<;>first |(cases h;done) |skip
  ·exact ⟨_,_,h,.b _,yld q fun w=>by rw [run_eql_struct,heq w];rfl⟩
  ·exact ⟨_,_,h,.b _,yld (!q) fun w=>by rw [run_neq_struct,heq w];rfl⟩
 ·exact CS h hx hy
theorem AL {t ty:TypeId} {x:Operand} {f:Nat} {K:AV->Option R} {r:R} (h:bc P (.field t x f) ty e K=some r) (he:aC n ρ e a):eS P ρ (.field t x f) a K r:=by
 have hx:=he.ev x
 simp only [bc] at h
 split at h
 ·rename_i cs fs lD hu
  rw [lD] at hx
  obtain ⟨vs,ux,h1,h2⟩:=hx.ym
  split at h
  ·rename_i fd hfd
   obtain ⟨v,u,hk,hr,fN⟩:=j7 h1 h2 _ h
   refine ⟨v,u,hk,hr,fun o w ho=>?_⟩
   simp [execOp,ho,ux,Instr.field,run_underlying hu,hfd,asAgg,fN]
  ·cases h
 ·cases h
theorem sx {t ty:TypeId} {x ix:Operand} {K:AV->Option R} {r:R} (h:bc P (.indexAddr t x ix) ty e K=some r) (he:aC n ρ e a):eS P ρ (.indexAddr t x ix) a K r:=by
 have hx:=he.ev x
 have hi:=he.ev ix
 simp only [bc] at h
 split at h
 ·rename_i k i Vs
  rw [Vs] at hi
  have ui:=hi.dK
  split at h
  ·rename_i len el hu
   obtain ⟨hc,h⟩:=aF h
   simp only [Bool.and_eq_true,decide_eq_true_eq] at hc
   obtain ⟨inf,iH,h⟩:=dB h
   obtain ⟨b,o,lD,h⟩:=gq h
   rw [lD] at hx
   obtain ⟨L,hL,ux⟩:=hx.wN
   refine ⟨_,_,h,.p b _ L hL,fun op w ho=>?_⟩
   have:(⟨L.B,L.O+o,none⟩:Addr).add (i.toNat*inf.size)=⟨L.B,L.O+(o+i.toNat*inf.size),none⟩:=by
    unfold Addr.add;split<;>simp_all;omega
   simp [execOp,ho,ux,ui,Instr.indexAt,run_underlying hu,Instr.sureAddr,asIntOf,sizeOf,typeInfo,iH,hc,this]
  ·rename_i el hu
   split at h
   ·rename_i sa m lD
    rw [lD] at hx
    have hc:=(aF h).1
    replace h:=(aF h).2
    simp only [Bool.and_eq_true,decide_eq_true_eq] at hc
    obtain ⟨inf,iH,hB⟩:=dB h
    clear h
    obtain ⟨q,hq,hB⟩:=Option.bind_eq_some_iff.1 hB
    generalize CF:a.eval x=ux at hx
    cases hx with
    |Cj=>omega
    |zB=>omega
    |BT=>omega
    |sl _ _ _ cap L hL h1 h2 h3=>
     cases hq
     refine ⟨_,_,hB,.p _ _ L hL,fun op w ho=>?_⟩
     have:∀ o,(⟨L.B,L.O+o,none⟩:Addr).add (i.toNat*inf.size)=⟨L.B,L.O+(o+i.toNat*inf.size),none⟩:=by
      intro o;unfold Addr.add;split<;>simp_all;omega
     simp [execOp,ho,CF,ui,Instr.indexAt,run_underlying hu,asIntOf,sizeOf,typeInfo,iH,hc,this]
   ·cases h
  ·cases h
 ·cases h
theorem AM {t ty:TypeId} {x ix:Operand} {K:AV->Option R} {r:R} (h:bc P (.index t x ix) ty e K=some r) (he:aC n ρ e a):eS P ρ (.index t x ix) a K r:=by
 have hx:=he.ev x
 have hi:=he.ev ix
 simp only [bc] at h
 split at h
 ·rename_i k i Vs
  rw [Vs] at hi
  have ui:=hi.dK
  split at h
  ·rename_i len el cs hu lD
   rw [lD] at hx
   obtain ⟨vs,ux,h1,h2⟩:=hx.ym
   obtain ⟨hc,h⟩:=aF h
   simp only [Bool.and_eq_true,decide_eq_true_eq] at hc
   obtain ⟨inf,iH,h⟩:=dB h
   obtain ⟨v,u,hk,hr,fN⟩:=j7 h1 h2 _ h
   refine ⟨v,u,hk,hr,fun o w ho=>?_⟩
   simp [execOp,ho,ux,ui,Instr.index,run_underlying hu,asIntOf,hc,sizeOf,typeInfo,iH,fN]
  ·rename_i l hu lD
   rw [lD] at hx
   obtain ⟨s,ux,rfl⟩:=hx.ug
   obtain ⟨hc,h⟩:=aF h
   simp only [decide_eq_true_eq] at hc
   simp only [Option.bind_eq_some_iff] at h
   obtain ⟨c,hcc,h⟩:=h
   refine ⟨_,_,h,.i _ _,fun o w ho=>?_⟩
   have hs:s[i.toNat]? = some c:=by
    obtain ⟨hl,hv⟩:=List.getElem?_eq_some_iff.1 hcc
    have Eh:i.toNat<s.size:=by simpa using hl
    rw [getElem?_pos s i.toNat Eh]
    rw [<-hv];simp [ByteArray.getElem_eq_getElem_data]
   simp [execOp,ho,ux,ui,Instr.index,run_underlying hu,asIntOf,hc,hs]
  ·cases h
 ·cases h
theorem vS {x:Operand} {m:Nat} {ty:TypeId} {K:AV->Option R} {r:R} (h:bc P (.extract x m) ty e K=some r) (he:aC n ρ e a):eS P ρ (.extract x m) a K r:=by
 have hx:=he.ev x
 simp only [bc] at h
 split at h
 ·rename_i vs lD
  rw [lD] at hx
  obtain ⟨us,ux,h1⟩:=hx.yn
  simp only [Option.bind_eq_some_iff] at h
  obtain ⟨v,hv,h⟩:=h
  obtain ⟨u,hu,hr⟩:=h1.get hv
  refine ⟨v,u,jX h,hr,fun o w ho=>?_⟩
  simp [execOp,ho,ux,Instr.extract,hu]
 ·cases h
theorem mW {t el:TypeId} {a':Option Addr} {len cap:Nat} (hu:P.underlying t=some (.slice el)) {i:TypeInfo} (hi:P.info? el=some i) (lo hi':Option Value) (l h:Int)
  (h0:0<=l) (h1:l<=h) (h2:h<=(cap:Int)) (Vl:(lo=none/\l=0) ∨ ∃ k,lo=some (.int k l)) (hhi:(hi'=none/\h=len) ∨ ∃ k,hi'=some (.int k h)) (w:World):
  (Instr.sliceAt t (.slice a' len cap) lo hi' none).run P w=.ok (.slice (if cap=l.toNat then a' else a'.map (·.add (l.toNat*i.size))) (h.toNat - l.toNat) (cap - l.toNat)) w:=by
 have eh:(h.toNat:Int)=h:=Int.toNat_of_nonneg (by omega)
 have h0':0<=h:=by omega
 rcases Vl with ⟨rfl,rfl⟩ |⟨kl,rfl⟩<;>rcases hhi with ⟨rfl,rfl⟩ |⟨kh,rfl⟩<;>
  simp [Instr.sliceAt,Instr.slice,run_underlying hu,Instr.sliceBounds,run_sliceBound,sizeOf,typeInfo, *]
theorem AN {t ty:TypeId} {x:Operand} {lo hi mx:Option Operand} {K:AV->Option R} {r:R} (h:bc P (.slice t x lo hi mx) ty e K=some r) (he:aC n ρ e a):eS P ρ (.slice t x lo hi mx) a K r:=by
 have hx:=he.ev x
 simp only [bc] at h
 have Vl:∀ k l,(match lo with |some o=>Abs.ev e o |none=>.i .i64 0)=.i k l->((lo.map a.eval=none/\l=0) ∨ ∃ k,lo.map a.eval=some (.int k l)):=by
  intro k l hl
  cases lo with
  |none=>simp at hl;exact .inl ⟨rfl,hl.2.symm⟩
  |some o=>simp only at hl;have:=he.ev o;rw [hl] at this;exact .inr ⟨k,by simp [this.dK]⟩
 have hhi:∀ (m:Int) k h',(match hi with |some o=>Abs.ev e o |none=>.i .i64 m)=.i k h'->((hi.map a.eval=none/\h'=m) ∨ ∃ k,hi.map a.eval=some (.int k h')):=by
  intro m k h' hl
  cases hi with
  |none=>simp at hl;exact .inl ⟨rfl,hl.2.symm⟩
  |some o=>simp only at hl;have:=he.ev o;rw [hl] at this;exact .inr ⟨k,by simp [this.dK]⟩
 split at h
 ·rename_i sa m lD
  rw [lD] at hx
  split at h
  ·rename_i el hu
   split at h
   ·rename_i k1 l k2 h' hl hh
    obtain ⟨hc,hA⟩:=aF h
    simp only [Bool.and_eq_true,decide_eq_true_eq] at hc
    obtain ⟨⟨c1,c2⟩,c3⟩:=hc
    obtain ⟨inf,iH,hB⟩:=dB hA
    clear h hA
    obtain ⟨Vo,NI,hB⟩:=Option.bind_eq_some_iff.1 hB
    have Eh:=Vl _ _ hl
    have SJ:=hhi _ _ _ hh
    generalize CF:a.eval x=ux at hx
    cases hx with
    |Cj=>
     have e1:l=0:=by omega
     have e2:h'=0:=by omega
     subst e1;subst e2
     cases NI
     refine ⟨_,.slice none 0 0,hB,.Cj,fun o w ho=>?_⟩
     simp only [execOp,ho,CF,Option.map_none,Sem.run_bind]
     rw [mW (P:=P) hu iH _ _ 0 0 c1 c2 (by simp) Eh (by simpa using SJ) w];rfl
    |zB A=>
     have e1:l=0:=by omega
     have e2:h'=0:=by omega
     subst e1;subst e2
     cases NI
     refine ⟨_,.slice (some A) 0 0,hB,.zB A,fun o w ho=>?_⟩
     simp only [execOp,ho,CF,Option.map_none,Sem.run_bind]
     rw [mW (P:=P) hu iH _ _ 0 0 c1 c2 (by simp) Eh (by simpa using SJ) w];rfl
    |BT b o es A=>
     have e1:l=0:=by omega
     have e2:h'=0:=by omega
     subst e1;subst e2
     obtain ⟨qt,hC⟩:=aF NI
     cases hC
     refine ⟨_,.slice (some A) 0 0,hB,.BT _ _ _ A,fun o w ho=>?_⟩
     simp only [execOp,ho,CF,Option.map_none,Sem.run_bind]
     rw [mW (P:=P) hu iH _ _ 0 0 c1 c2 (by simp) Eh (by simpa using SJ) w];rfl
    |sl b o _ cap L hL h1 h2 h3=>
     obtain ⟨qt,hC⟩:=aF NI
     cases hC
     have qt:=Nat.eq_of_beq_eq_true qt
     have fN:NH P (.slice t x lo hi none) a (.slice (if cap=l.toNat then some ⟨L.B,L.O+o,none⟩ else (some ⟨L.B,L.O+o,none⟩:Option Addr).map (·.add (l.toNat*inf.size))) (h'.toNat - l.toNat) (cap - l.toNat)):=fun op w ho=>by
      simp only [execOp,ho,CF,Option.map_none,Sem.run_bind]
      rw [mW (P:=P) hu iH _ _ l h' c1 c2 (by omega) Eh (by simpa using SJ) w];rfl
     refine ⟨_,_,hB,?_,fN⟩
     rw [<-qt]
     by_cases vw:cap=l.toNat
     ·have:h'.toNat - l.toNat=0:=by omega
      rw [this,if_pos vw,vw,Nat.sub_self]
      exact .BT _ _ _ _
     ·rw [if_neg vw]
      have:(⟨L.B,L.O+o,none⟩:Addr).add (l.toNat*L.es)=⟨L.B,L.O+(o+l.toNat*L.es),none⟩:=by
       unfold Addr.add;split<;>simp_all;omega
      simp only [Option.map_some,this]
      refine .sl b _ _ _ L hL (by omega) (by omega) ?_
      have:l.toNat*L.es+(cap - l.toNat)*L.es=cap*L.es:=by rw [<-Nat.add_mul];congr 1;omega
      omega
   ·cases h
  ·cases h
 ·rename_i s lD
  rw [lD] at hx
  obtain ⟨s,ux,rfl⟩:=hx.ug
  split at h
  ·rename_i hu
   split at h
   ·rename_i k1 l k2 h' hl hh
    obtain ⟨hc,h⟩:=aF h
    simp only [Bool.and_eq_true,decide_eq_true_eq] at hc
    obtain ⟨⟨c1,c2⟩,c3⟩:=hc
    have Eh:=Vl _ _ hl
    have SJ:=hhi _ _ _ hh
    have jM:s.data.toList.length=s.size:=by simp
    refine ⟨_,.string (s.extract l.toNat h'.toNat),h,?_,fun o w ho=>?_⟩
    ·have:=aK.s (ρ:=ρ) (s.extract l.toNat h'.toNat)
     have e:(s.extract l.toNat h'.toNat).data.toList=(s.data.toList.drop l.toNat).take (h'.toNat - l.toNat):=by
      rw [ByteArray.data_extract,Array.toList_extract,List.extract_eq_take_drop]
     rw [e] at this;exact this
    ·have eh:(h'.toNat:Int)=h':=Int.toNat_of_nonneg (by omega)
     have h0':0<=h':=by omega
     have hm:s.size - 0=s.size:=rfl
     simp only [execOp,ho,ux,Option.map_none,Sem.run_bind]
     rw [jM] at SJ c3
     rcases Eh with ⟨e1,rfl⟩ |⟨kl,e1⟩<;>rcases SJ with ⟨e2,rfl⟩ |⟨kh,e2⟩<;>
      simp [e1,e2,Instr.sliceAt,Instr.slice,run_underlying hu,Instr.sliceBounds,run_sliceBound,c1,c2,c3,eh,h0']
   ·cases h
  ·cases h
 ·rename_i m sa k lD
  rw [lD] at hx
  split at h
  ·rename_i el hu
   split at h
   ·rename_i k1 l k2 h' k3 c hl hh hm
    obtain ⟨hc,hA⟩:=aF h
    simp only [Bool.and_eq_true,decide_eq_true_eq] at hc
    obtain ⟨⟨rfl,rfl⟩,rfl⟩:=hc
    obtain ⟨inf,iH,hB⟩:=dB hA
    clear h hA
    have uA:lo.map a.eval=none ∨ ∃ k,lo.map a.eval=some (.int k 0):=by
     rcases Vl _ _ hl with ⟨e1,_⟩ |⟨k,e1⟩
     ·exact .inl e1
     ·exact .inr ⟨k,e1⟩
    have F7:∃ k,hi.map a.eval=some (.int k 0):=by
     cases hi with
     |none=>simp at hh
     |some o=>simp only at hh;have:=he.ev o;rw [hh] at this;exact ⟨k2,by simp [this.dK]⟩
    have hk3:a.eval m=.int k3 0:=by have:=he.ev m;rw [hm] at this;exact this.dK
    obtain ⟨kh,F7⟩:=F7
    have fN:∀ (A:Option Addr) (len cap:Nat) w,(Instr.sliceAt t (.slice A len cap) (lo.map a.eval) (hi.map a.eval) (some (a.eval m))).run P w=.ok (.slice A 0 0) w:=by
     intro A len cap w
     rw [F7,hk3]
     rcases uA with e1 |⟨k,e1⟩<;>
      simp [e1,Instr.sliceAt,Instr.slice,run_underlying hu,Instr.sliceBounds,run_sliceBound,sizeOf,typeInfo,iH]
    generalize CF:a.eval x=ux at hx
    have fin:∀ (A:Option Addr) (len cap:Nat),ux=.slice A len cap->∀ (o:Oper) (w:World),o.op=.slice t x lo hi (some m)->(execOp a.eval o).run P w=.ok (.value (.slice A 0 0)) w:=by
     intro A len cap e1 o w ho
     simp only [execOp,ho,CF,e1,Option.map_some,Sem.run_bind]
     rw [fN];rfl
    cases hx with
    |Cj=>exact ⟨_,_,hB,.Cj,fin _ _ _ rfl⟩
    |zB A=>exact ⟨_,_,hB,.zB A,fin _ _ _ rfl⟩
    |BT b o es A=>exact ⟨_,_,hB,.zB A,fin _ _ _ rfl⟩
    |sl b o _ cap L hL h1 h2 h3=>exact ⟨_,_,hB,.zB _,fin _ _ _ rfl⟩
   ·cases h
  ·cases h
 ·cases h
theorem CT {c:Call} {ty:TypeId} {K:AV->Option R} {r:R} (h:bc P (.call c) ty e K=some r) (he:aC n ρ e a):eS P ρ (.call c) a K r:=by
 have hx:=he.evs c.args.toList
 have hargs:(c.args.map a.eval).toList=c.args.toList.map a.eval:=by simp
 simp only [bc] at h
 split at h
 ·rename_i dN
  split at h
  ·rename_i l t hv ht
   rw [hv] at hx
   cases iB:c.args.toList.map a.eval with
   |nil=>rw [iB] at hx;cases hx
   |cons u us=>
    rw [iB] at hx
    cases hx with
    |cons _ _ _ _ h1 h2=>
     cases h2
     obtain ⟨s,rfl,rfl⟩:=h1.ug
     split at h
     ·rename_i hu
      refine ⟨_,_,h,.i _ _,fun o w ho=>?_⟩
      have e1:c.args.map a.eval = #[.string s]:=by apply Array.ext';rw [hargs,iB]
      have e2:c.argTypes = #[t]:=by apply Array.ext';rw [ht]
      have jM:s.data.toList.length=s.size:=by simp
      rw [jM]
      simp [execOp,ho,resolve,dN,invoke,builtin,Builtin.len_,e1,e2,run_underlying hu,goInt]
     ·cases h
  ·rename_i sa m t hv ht
   rw [hv] at hx
   cases iB:c.args.toList.map a.eval with
   |nil=>rw [iB] at hx;cases hx
   |cons u us=>
    rw [iB] at hx
    cases hx with
    |cons _ _ _ _ h1 h2=>
     cases h2
     obtain ⟨A,cap,rfl,_⟩:=h1.qL
     split at h
     ·rename_i el hu
      refine ⟨_,_,h,.i _ _,fun o w ho=>?_⟩
      have e1:c.args.map a.eval = #[.slice A m cap]:=by apply Array.ext';rw [hargs,iB]
      have e2:c.argTypes = #[t]:=by apply Array.ext';rw [ht]
      simp [execOp,ho,resolve,dN,invoke,builtin,Builtin.len_,e1,e2,run_underlying hu,goInt]
     ·cases h
  ·cases h
 ·rename_i dN
  split at h
  ·rename_i k x k' y hv
   rw [hv] at hx
   split at h
   ·rename_i hk
    subst hk
    have e0:c.args.toList.map a.eval=[.int k x,.int k y]:=by
     cases iB:c.args.toList.map a.eval with
     |nil=>rw [iB] at hx;cases hx
     |cons u us=>
      rw [iB] at hx
      cases hx with
      |cons _ _ _ _ h1 h2=>
       cases h2 with
       |cons _ _ _ _ h3 h4=>cases h4;rw [h1.dK,h3.dK]
    refine ⟨_,_,h,.i _ _,fun o w ho=>?_⟩
    have e1:c.args.map a.eval = #[.int k x,.int k y]:=by apply Array.ext';rw [hargs,e0]
    simp [execOp,ho,resolve,dN,invoke,builtin,Builtin.min_,e1,Builtin.min2]
   ·cases h
  ·rename_i k x k' y WT z hv
   rw [hv] at hx
   split at h
   ·rename_i hk
    obtain ⟨uA,F7⟩:=hk
    subst uA;subst F7
    have e0:c.args.toList.map a.eval=[.int k x,.int k y,.int k z]:=by
     cases iB:c.args.toList.map a.eval with
     |nil=>rw [iB] at hx;cases hx
     |cons u us=>
      rw [iB] at hx
      cases hx with
      |cons _ _ _ _ h1 h2=>
       cases h2 with
       |cons _ _ _ _ h3 h4=>
        cases h4 with
        |cons _ _ _ _ h5 h6=>cases h6;rw [h1.dK,h3.dK,h5.dK]
    refine ⟨_,_,h,.i _ _,fun o w ho=>?_⟩
    have e1:c.args.map a.eval = #[.int k x,.int k y,.int k z]:=by apply Array.ext';rw [hargs,e0]
    simp [execOp,ho,resolve,dN,invoke,builtin,Builtin.min_,e1,Builtin.min2]
   ·cases h
  ·cases h
 ·rename_i dN
  split at h
  ·rename_i k x k' y hv
   rw [hv] at hx
   split at h
   ·rename_i hk
    subst hk
    have e0:c.args.toList.map a.eval=[.int k x,.int k y]:=by
     cases iB:c.args.toList.map a.eval with
     |nil=>rw [iB] at hx;cases hx
     |cons u us=>
      rw [iB] at hx
      cases hx with
      |cons _ _ _ _ h1 h2=>
       cases h2 with
       |cons _ _ _ _ h3 h4=>cases h4;rw [h1.dK,h3.dK]
    refine ⟨_,_,h,.i _ _,fun o w ho=>?_⟩
    have e1:c.args.map a.eval = #[.int k x,.int k y]:=by apply Array.ext';rw [hargs,e0]
    simp [execOp,ho,resolve,dN,invoke,builtin,Builtin.max_,e1,Builtin.max2]
   ·cases h
  ·rename_i k x k' y WT z hv
   rw [hv] at hx
   split at h
   ·rename_i hk
    obtain ⟨uA,F7⟩:=hk
    subst uA;subst F7
    have e0:c.args.toList.map a.eval=[.int k x,.int k y,.int k z]:=by
     cases iB:c.args.toList.map a.eval with
     |nil=>rw [iB] at hx;cases hx
     |cons u us=>
      rw [iB] at hx
      cases hx with
      |cons _ _ _ _ h1 h2=>
       cases h2 with
       |cons _ _ _ _ h3 h4=>
        cases h4 with
        |cons _ _ _ _ h5 h6=>cases h6;rw [h1.dK,h3.dK,h5.dK]
    refine ⟨_,_,h,.i _ _,fun o w ho=>?_⟩
    have e1:c.args.map a.eval = #[.int k x,.int k y,.int k z]:=by apply Array.ext';rw [hargs,e0]
    simp [execOp,ho,resolve,dN,invoke,builtin,Builtin.max_,e1,Builtin.max2]
   ·cases h
  ·cases h
 ·cases h
theorem Cy {op:Op} {ty:TypeId} {K:AV->Option R} {r:R} (h:bc P op ty e K=some r) (he:aC n ρ e a):eS P ρ op a K r:=by
 cases op
 case move x=>exact ⟨_,_,h,he.ev x,IV x⟩
 case assign x=>exact ⟨_,_,h,he.ev x,CO x⟩
 case pick=>exact CP h he
 case build=>exact AF h he
 case nilCheck=>exact uv h he
 case binOp=>exact Gb h he
 case unOp=>exact IW h he
 case convert=>exact vR h he
 case makeFunc=>exact uw h he
 case slice=>exact AN h he
 case fieldAddr=>exact sw h he
 case field=>exact AL h he
 case indexAddr=>exact sx h he
 case index=>exact AM h he
 case extract=>exact vS h he
 case call=>exact CT h he
 all_goals (simp only [bc] at h;cases h)
end Go.Abs
