/-
  AbsPure: the operations that only reckon yield what 'pureK' says.
-/
import Derived.Test.YtlgnboohmahbaaaGreatDoorAbsOps
set_option linter.unusedVariables false
set_option linter.unusedSimpArgs false
set_option linter.constructorNameAsVariable false
namespace Go.Abs
open Go
variable {ρ:cl} {n:Nat} {e:Env} {a:Act} {P:Program} {R:Type}
abbrev iH (P:Program) (ρ:cl) (op:Op) (a:Act) (K:AV → Option R) (r:R):Prop:=∃ v u,K v=some r ∧ aI ρ v u ∧ Yld P op a u
theorem Dn (he:aH n ρ e a):∀ (ps:List (Nat × Operand)),aL ρ ((ps.map fun x=>(x.1,Abs.ev e x.2)).map (·.2)) ((ps.map fun x=>(x.1,a.eval x.2)).map (·.2))
 |[]=>.nil
 |p::ps=>.cons _ _ _ _ (he.ev p.2) (Dn he ps)
theorem To {t ty:TypeId} {parts:Array (Nat × Operand)} {K:AV → Option R} {r:R} (h:bG P (.build t parts) ty e K=some r) (he:aH n ρ e a):iH P ρ (.build t parts) a K r:=by
 simp only [bG] at h
 split at h
 ·cases h
 ·rename_i z hz
  obtain ⟨i,v,hi,hv,-,h1,h2,h3,h4,h5⟩:=lh (ρ:=ρ) hz
  have fin:∀ cs:Array Value,P.built t (parts.toList.map fun x=>(x.1,a.eval x.2))=some cs → Yld P (.build t parts) a (.agg cs):=fun cs Gj o w ho=>by
   have:=run_build (P:=P) w t (parts.map fun x=>(x.1,a.eval x.2)) cs (by simpa using Gj)
   simp only [execOp,ho,Sem.run_bind]
   rw [this];rfl
  split at h
  ·rename_i fs hu
   split at h
   ·rename_i places hp
    split at h
    ·rename_i cs hf
     obtain ⟨qm,VD,hr,ho⟩:=yi (ρ:=ρ) (fun i=>places[i]?) _ (parts.toList.map fun x=>(x.1,a.eval x.2)) z cs v.cells hf (by simp) (Dn he _) h4 h1
     refine ⟨_,.agg qm,h,?_,fin qm ?_⟩
     ·have:=aI.agg cs qm.toList hr ho;simpa using this
     ·unfold Program.built
      rw [hi,hu]
      simp only [hv,hp]
      rw [← VD];congr 1;funext x;simp
    ·cases h
   ·cases h
  ·rename_i el hu
   split at h
   ·rename_i ie hie
    split at h
    ·rename_i cs hf
     obtain ⟨qm,VD,hr,ho⟩:=yi (ρ:=ρ) _ _ (parts.toList.map fun x=>(x.1,a.eval x.2)) z cs v.cells hf (by simp) (Dn he _) h4 h1
     refine ⟨_,.agg qm,h,?_,fin qm ?_⟩
     ·have:=aI.agg cs qm.toList hr ho;simpa using this
     ·unfold Program.built
      rw [hi,hu]
      simp only [hv,hie]
      exact VD
    ·cases h
   ·cases h
  ·cases h
theorem LQ {x:Operand} {ty:TypeId} {K:AV → Option R} {r:R} (h:bG P (.nilCheck x) ty e K=some r) (he:aH n ρ e a):iH P ρ (.nilCheck x) a K r:=by
 have hx:=he.ev x
 simp only [bG] at h
 split at h
 ·rename_i ad had
  rw [had] at hx
  cases ad with
  |none=>cases h
  |some q=>
   obtain ⟨b,o⟩:=q
   obtain ⟨L,hL,hu⟩:=hx.Eu
   refine ⟨_,_,h,.p b o L hL,fun op w ho=>?_⟩
   simp only [execOp,ho,hu];rfl
 ·rename_i ad had
  rw [had] at hx
  cases ad with
  |none=>cases h
  |some q=>
   simp only [Option.bind_some] at h
   split at h
   ·obtain ⟨QI,QJ,hu,h1,h2⟩:=hx.VR
    refine ⟨_,_,h,.fn _ _ _ QI QJ (fun l h=>by cases h) h1 h2,fun op w ho=>?_⟩
    simp only [execOp,ho,hu];rfl
   ·cases h
 ·cases h
theorem BL (op:BinOp) (k:IntKind) (x y:Int) (w:World) (h:op=.and ∨ op=.or ∨ op=.xor ∨ op=.andNot):(Op.intBits op k x y).run P w=.ok (.int k (bE op k x y)) w:=by
 rcases h with rfl |rfl |rfl |rfl<;>simp [Op.intBits,bE]
theorem Wb (op:BinOp) (t:TypeId) (x y:Operand) (u v:Value) (w:World) (h:(∀ c,u≠.agg c) ∧ u≠.nilIface):(eqGuard op t x y u v).run P w=.ok () w:=by
 obtain ⟨h1,h2⟩:=h
 cases u<;>first |(exact absurd rfl h2) |(exact absurd rfl (h1 _)) |(cases op<;>rfl)
theorem QU {op:BinOp} {t yt:TypeId} {x y:Operand} {u:Value} (h1:(∀ c,a.eval x≠.agg c) ∧ a.eval x≠.nilIface) (h2:∀ w,(binOp op t (a.eval x) (a.eval y)).run P w=.ok u w):Yld P (.binOp op t x y yt) a u:=fun o w ho=>by
 simp only [execOp,ho,Sem.run_bind]
 rw [Wb op t x y _ _ w h1]
 simp only [Result.andThen_ok]
 rw [h2 w];rfl
theorem Tp {op:BinOp} {k:IntKind} {x y:Int} {K:AV → Option R} {r:R} (h:O9 op k x y K=some r) (hs:op≠.shl) (hs':op≠.shr) (t:TypeId):
  ∃ v u,K v=some r ∧ aI ρ v u ∧ ∀ w,(binOp op t (.int k x) (.int k y)).run P w=.ok u w:=by
 cases op<;>first |(exact absurd rfl hs) |(exact absurd rfl hs') |simp only [O9] at h
 case add=>exact ⟨_,_,h,.i _ _,fun w=>by simp [binOp,Op.intArith]⟩
 case sub=>exact ⟨_,_,h,.i _ _,fun w=>by simp [binOp,Op.intArith]⟩
 case mul=>exact ⟨_,_,h,.i _ _,fun w=>by simp [binOp,Op.intArith]⟩
 case quo=>
  cases hy:(y == 0) with
  |true=>rw [hy] at h;cases h
  |false=>
   rw [hy] at h
   have:y≠0:=by simpa using hy
   exact ⟨_,_,h,.i _ _,fun w=>by simp [binOp,Op.intDiv,this]⟩
 case rem=>
  cases hy:(y == 0) with
  |true=>rw [hy] at h;cases h
  |false=>
   rw [hy] at h
   have:y≠0:=by simpa using hy
   exact ⟨_,_,h,.i _ _,fun w=>by simp [binOp,Op.intDiv,this]⟩
 case and=>exact ⟨_,_,h,.i _ _,fun w=>by simp only [binOp,ne_eq,not_true_eq_false,if_false];exact BL _ _ _ _ _ (by simp)⟩
 case or=>exact ⟨_,_,h,.i _ _,fun w=>by simp only [binOp,ne_eq,not_true_eq_false,if_false];exact BL _ _ _ _ _ (by simp)⟩
 case xor=>exact ⟨_,_,h,.i _ _,fun w=>by simp only [binOp,ne_eq,not_true_eq_false,if_false];exact BL _ _ _ _ _ (by simp)⟩
 case andNot=>exact ⟨_,_,h,.i _ _,fun w=>by simp only [binOp,ne_eq,not_true_eq_false,if_false];exact BL _ _ _ _ _ (by simp)⟩
 all_goals exact ⟨_,_,h,.b _,fun w=>by simp [binOp,Op.intCmp]⟩
theorem toList_eq (s:ByteArray):s.toList=s.data.toList:=ByteArray.toList_eq s
theorem Tq {op:BinOp} {x y:ByteArray} {K:AV → Option R} {r:R} (h:Pa op x.data.toList y.data.toList K=some r) (t:TypeId):
  ∃ v u,K v=some r ∧ aI ρ v u ∧ ∀ w,(binOp op t (.string x) (.string y)).run P w=.ok u w:=by
 cases op<;>simp only [Pa] at h<;>first |(cases h;done) |skip
 case add=>
  cases hl:Nat.ble (x.data.toList.length+y.data.toList.length) 9223372036854775807 with
  |false=>rw [hl] at h;cases h
  |true=>
   rw [hl] at h
   have hle:=Nat.le_of_ble_eq_true hl
   have hv:aI ρ (.s (x.data.toList++y.data.toList)) (.string (x++y)):=by
    have:=aI.s (ρ:=ρ) (x++y)
    simpa using this
   refine ⟨_,_,h,hv,fun w=>?_⟩
   have:¬ (((x.size+y.size:Nat):Int) > IntKind.i64.max):=by
    have e1:x.data.toList.length=x.size:=by simp
    have e2:y.data.toList.length=y.size:=by simp
    have:IntKind.i64.max=9223372036854775807:=by decide
    omega
   simp only [binOp,Op.stringOp,this,if_false]
   rfl
 all_goals exact ⟨_,_,h,.b _,fun w=>by simp [binOp,Op.stringOp,toList_eq]⟩
theorem eO {u:Value} (h:(∃ b,u=.bool b) ∨ (∃ k n,u=.int k n) ∨ (∃ s,u=.string s) ∨ (∃ p,u=.pointer p) ∨ (∃ p n c,u=.slice p n c) ∨ (∃ r,u=.map r) ∨ u=.nilFunc ∨ ∃ f x y,u=.func f x y):(∀ c,u≠.agg c) ∧ u≠.nilIface:=by
 rcases h with ⟨_,rfl⟩ |⟨_,_,rfl⟩ |⟨_,rfl⟩ |⟨_,rfl⟩ |⟨_,_,_,rfl⟩ |⟨_,rfl⟩ |rfl |⟨_,_,_,rfl⟩<;>simp
theorem ff {op:BinOp} {t yt:TypeId} {x y:Operand} {q:Bool} {K:AV → Option R} {r:R} (h:Bx op q K=some r) (hs:(∀ c,a.eval x≠.agg c) ∧ a.eval x≠.nilIface)
  (u1 u2:Value) (h1:a.eval x=u1) (h2:a.eval y=u2)
  (hq:∀ d w,(Op.equalIn (d+1) t u1 u2).run P w=.ok q w) (hb:binOp .eql t u1 u2=(do pure (.bool (← Op.equal t u1 u2)))) (oP:binOp .neq t u1 u2=(do pure (.bool (!(← Op.equal t u1 u2))))):iH P ρ (.binOp op t x y yt) a K r:=by
 have LF:∀ w,(Op.equal t u1 u2).run P w=.ok q w:=fun w=>hq 9999 w
 cases op<;>simp only [Bx] at h<;>first |(cases h;done) |skip
 ·exact ⟨_,_,h,.b _,QU hs fun w=>by rw [h1,h2,hb];simp [LF w]⟩
 ·exact ⟨_,_,h,.b _,QU hs fun w=>by rw [h1,h2,oP];simp [LF w]⟩
theorem Wc {op:BinOp} {t yt:TypeId} {x y:Operand} {vx vy:AV} {K:AV → Option R} {r:R} (h:Yg (P.underlying t) op vx vy K=some r) (hx:aI ρ vx (a.eval x)) (hy:aI ρ vy (a.eval y)):iH P ρ (.binOp op t x y yt) a K r:=by
 unfold Yg at h
 split at h
 ·rename_i k i k' j
  have ux:=hx.eK
  have uy:=hy.eK
  have g:=eO (u:=a.eval x) (.inr (.inl ⟨_,_,ux⟩))
  have fin:∀ {v u},K v=some r → aI ρ v u → (∀ w,(binOp op t (.int k i) (.int k' j)).run P w=.ok u w) → iH P ρ (.binOp op t x y yt) a K r:=fun {v u} h1 h2 h3=>
   ⟨v,u,h1,h2,QU g (by rw [ux,uy];exact h3)⟩
  split at h
  ·cases hj:decide (j<0) with
   |true=>rw [hj] at h;cases h
   |false=>
    rw [hj] at h
    have hj':¬ j<0:=by simpa using hj
    exact fin h (.i _ _) fun w=>by simp [binOp,Op.shift,hj']
  ·cases hj:decide (j<0) with
   |true=>rw [hj] at h;cases h
   |false=>
    rw [hj] at h
    have hj':¬ j<0:=by simpa using hj
    exact fin h (.i _ _) fun w=>by simp [binOp,Op.shift,hj']
  ·rename_i h1 h2
   split at h
   ·rename_i hk
    subst hk
    obtain ⟨v,u,h3,h4,h5⟩:=Tp (ρ:=ρ) (P:=P) h (fun e=>h1 e) (fun e=>h2 e) t
    exact fin h3 h4 h5
   ·cases h
 ·rename_i l1 l2
  obtain ⟨s1,ux,rfl⟩:=hx.wA
  obtain ⟨s2,uy,rfl⟩:=hy.wA
  obtain ⟨v,u,h3,h4,h5⟩:=Tq (ρ:=ρ) (P:=P) h t
  exact ⟨v,u,h3,h4,QU (eO (.inr (.inr (.inl ⟨_,ux⟩)))) (by rw [ux,uy];exact h5)⟩
 ·rename_i c1 c2
  have ux:=hx.Pk
  have uy:=hy.Pk
  split at h
  ·rename_i hd
   refine ff h (eO (.inl ⟨_,ux⟩)) _ _ (by assumption) (by assumption) (fun d w=>?_) (by rfl) (by rfl)
   simp [Op.equalIn,run_underlying hd]
  ·cases h
 ·rename_i a1 c1
  split at h
  ·rename_i hd
   obtain ⟨a',ux,Xl⟩:=hx.aaK
   obtain ⟨c',uy,YE⟩:=hy.aaK
   cases H0:c1.isNone with
   |true=>
    rw [H0] at h YE;simp only [cond_true] at h
    obtain rfl:c'=none:=by cases c' with |none=>rfl |some _=>simp at YE
    refine ff h (eO (by simp [ux])) _ _ (by assumption) (by assumption) (fun d w=>?_) (by rfl) (by rfl)
    rw [Xl];cases a'<;>simp [Op.equalIn,run_underlying hd]
   |false=>
    rw [H0] at h;simp only [cond_false] at h
    cases han:a1.isNone with
    |false=>rw [han] at h;cases h
    |true=>
     rw [han] at h Xl;simp only [cond_true] at h
     obtain rfl:a'=none:=by cases a' with |none=>rfl |some _=>simp at Xl
     refine ff h (eO (by simp [ux])) _ _ (by assumption) (by assumption) (fun d w=>?_) (by rfl) (by rfl)
     rw [← H0,YE];cases c'<;>simp [Op.equalIn,run_underlying hd]
  ·cases h
 ·rename_i a1 m1 c1 m2
  split at h
  ·rename_i hd
   obtain ⟨a',ak1,ux,Xl,_⟩:=hx.Ik
   obtain ⟨c',apA,uy,YE,_⟩:=hy.Ik
   cases H0:c1.isNil with
   |true=>
    rw [H0] at h YE;simp only [cond_true] at h
    obtain rfl:c'=none:=by cases c' with |none=>rfl |some _=>simp at YE
    refine ff h (eO (by simp [ux])) _ _ (by assumption) (by assumption) (fun d w=>?_) (by rfl) (by rfl)
    rw [Xl];cases a'<;>simp [Op.equalIn,run_underlying hd]
   |false=>
    rw [H0] at h;simp only [cond_false] at h
    cases han:a1.isNil with
    |false=>rw [han] at h;cases h
    |true=>
     rw [han] at h Xl;simp only [cond_true] at h
     obtain rfl:a'=none:=by cases a' with |none=>rfl |some _=>simp at Xl
     refine ff h (eO (by simp [ux])) _ _ (by assumption) (by assumption) (fun d w=>?_) (by rfl) (by rfl)
     rw [← H0,YE];cases c'<;>simp [Op.equalIn,run_underlying hd]
  ·cases h
 ·rename_i a1 c1
  split at h
  ·rename_i hd
   have key:∀ {q:Option (Fn × List AV × List AV)} {u:Value},aI ρ (.fn q) u → (q.isNone=true ∧ u=.nilFunc) ∨ (q.isNone=false ∧ ∃ f x y,u=.func f x y):=by
    intro q u hu
    cases q with
    |none=>exact .inl ⟨rfl,hu.adG⟩
    |some q=>obtain ⟨_,_,_,uy⟩:=hu.ah9;exact .inr ⟨rfl,_,_,_,uy⟩
   rcases key hx with ⟨ha,ux⟩ |⟨ha,xf,x1,x2,ux⟩<;>rcases key hy with ⟨hc,uy⟩ |⟨hc,yf,y1,y2,uy⟩<;>simp only [ha,hc,cond_true,cond_false] at h
   ·refine ff h (eO (by simp [ux])) _ _ (by assumption) (by assumption) (fun d w=>?_) (by rfl) (by rfl)
    simp [Op.equalIn,run_underlying hd]
   ·refine ff h (eO (by simp [ux])) _ _ (by assumption) (by assumption) (fun d w=>?_) (by rfl) (by rfl)
    simp [Op.equalIn,run_underlying hd]
   ·refine ff h (eO (by simp [ux])) _ _ (by assumption) (by assumption) (fun d w=>?_) (by rfl) (by rfl)
    simp [Op.equalIn,run_underlying hd]
   ·cases h
  ·cases h
 ·rename_i a1 c1
  split at h
  ·rename_i hd
   obtain ⟨a',ux,Xl⟩:=hx.aaL
   obtain ⟨c',uy,YE⟩:=hy.aaL
   cases H0:c1.isNone with
   |true=>
    rw [H0] at h YE;simp only [cond_true] at h
    obtain rfl:c'=none:=by cases c' with |none=>rfl |some _=>simp at YE
    refine ff h (eO (by simp [ux])) _ _ (by assumption) (by assumption) (fun d w=>?_) (by rfl) (by rfl)
    rw [Xl];cases a'<;>simp [Op.equalIn,run_underlying hd]
   |false=>
    rw [H0] at h;simp only [cond_false] at h
    cases han:a1.isNone with
    |false=>rw [han] at h;cases h
    |true=>
     rw [han] at h Xl;simp only [cond_true] at h
     obtain rfl:a'=none:=by cases a' with |none=>rfl |some _=>simp at Xl
     refine ff h (eO (by simp [ux])) _ _ (by assumption) (by assumption) (fun d w=>?_) (by rfl) (by rfl)
     rw [← H0,YE];cases c'<;>simp [Op.equalIn,run_underlying hd]
  ·cases h
 ·cases h
theorem aaN {op:UnOp} {t ty:TypeId} {x:Operand} {K:AV → Option R} {r:R} (h:bG P (.unOp op t x) ty e K=some r) (he:aH n ρ e a):iH P ρ (.unOp op t x) a K r:=by
 have hx:=he.ev x
 simp only [bG] at h
 generalize yj:Abs.ev e x=vx at h hx
 unfold unK at h
 split at h
 ·have ux:=hx.eK
  exact ⟨_,_,h,.i _ _,fun o w ho=>by simp [execOp,ho,ux,Op.unary,Op.intArith]⟩
 ·have ux:=hx.eK
  refine ⟨_,_,h,.i _ _,fun o w ho=>?_⟩
  simp only [execOp,ho,ux,Op.unary,Sem.run_bind]
  rw [BL _ _ _ _ _ (by simp)];rfl
 ·have ux:=hx.Pk
  exact ⟨_,_,h,.b _,fun o w ho=>by simp [execOp,ho,ux,Op.unary]⟩
 ·cases h
theorem On {src dst ty:TypeId} {x:Operand} {K:AV → Option R} {r:R} (h:bG P (.convert src dst x) ty e K=some r) (he:aH n ρ e a):iH P ρ (.convert src dst x) a K r:=by
 have hx:=he.ev x
 simp only [bG] at h
 split at h
 ·rename_i k i yj
  rw [yj] at hx
  have ux:=hx.eK
  split at h
  ·rename_i d k' hs hd
   exact ⟨_,_,h,.i _ _,fun o w ho=>by simp [execOp,ho,ux,convert,run_underlying hs,run_underlying hd,Conv.intToInt]⟩
  ·cases h
 ·rename_i l yj
  rw [yj] at hx
  obtain ⟨s,ux,rfl⟩:=hx.wA
  split at h
  ·rename_i d hs hd
   exact ⟨_,_,h,.s _,fun o w ho=>by simp [execOp,ho,ux,convert,run_underlying hs,run_underlying hd]⟩
  ·cases h
 ·cases h
theorem LR {fn:Fn} {fi ca:Array Operand} {ty:TypeId} {K:AV → Option R} {r:R} (h:bG P (.makeFunc fn fi ca) ty e K=some r) (he:aH n ρ e a):iH P ρ (.makeFunc fn fi ca) a K r:=by
 simp only [bG] at h
 obtain ⟨hn,h⟩:Gs fn=true ∧ K (.fn (some (fn,fi.toList.map (Abs.ev e),ca.toList.map (Abs.ev e))))=some r:=by
  cases hb:Gs fn with
  |true=>rw [hb] at h;exact ⟨rfl,h⟩
  |false=>rw [hb] at h;cases h
 have hy:∀ l,fn≠.yield l:=fun l e=>by subst e;cases hn
 refine ⟨_,_,h,.fn fn _ _ (fi.toList.map a.eval) (ca.toList.map a.eval) hy (he.evs _) (he.evs _),fun o w ho=>?_⟩
 simp only [execOp,ho,Instr.makeFunc]
 rw [← List.map_toArray,← List.map_toArray];simp
end Go.Abs
