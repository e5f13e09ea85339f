/-
  Forms as texts, by definition, and that they are read back. No conditions.
-/
import Derived.Test.YtlgnboohmahbaaaGreatDoorT1
import Derived.Test.YtlgnboohmahbaaaGreatDoorI4
set_option linter.unusedVariables false
set_option linter.unusedSimpArgs false
set_option linter.constructorNameAsVariable false
set_option linter.unusedSimpArgs false
set_option linter.unusedVariables false
set_option maxHeartbeats 1000000
namespace Go.Abs
def Dc:Bs:=[110,111,100,101]
def na:Bs:=[108,97,114,103,101]
def WV:Bs:=[115,109,97,108,108]
def jg:Bs:=[58]
def fV:Bs:=[114,111,111,116,115]
def lH:Bs:=[119,101,97,107]
def tj (l:Bool):Bs:=if l then na else WV
def En (w:Int):Bs:=HP w.toNat
def cr (x:NV):List Bs:=[Dc,tj x.h.bW,cw x.h.site,cw x.h.pR]++x.P.map cw++jg::x.R.map En
def eH (x:NV):Bs:=bL 32 (cr x)
def gI (w:Bs) (l:List Int):Bs:=bL 32 (w::l.map cw)
def Gc (F:FV):List Bs:=F.nodes.map eH++[gI fV F.roots,gI lH F.bn,[]]
def tk (F:FV):Bs:=bL 10 (Gc F)
def db:List Bs → Option (List Int)
 |[]=>some []
 |w::ws=>if (tK w).2=0 then (db ws).map ((tK w).1 :: ·) else none
def fu:List Bs → Option (List Int)
 |[]=>some []
 |w::ws=>match O6 w with |some n=>(fu ws).map ((n:Int) :: ·) |none=>none
def bN (w:List Bs):Nat:=w.findIdx fun s=>decide (s=jg)
def Dd (w:List Bs):Prop:=4 ≤ bN w ∧ bN w<w.length ∧ w[0]? = some Dc ∧ (w[1]? = some na ∨ w[1]? = some WV)
instance (w:List Bs):Decidable (Dd w):=by unfold Dd;infer_instance
def mkN (lg:Bool) (n r:List Int):NV:=⟨⟨(n.length - 2:Nat),r.length,n.getD 0 0,n.getD 1 0,lg⟩,n.drop 2,r⟩
def kZ (w:List Bs):Option NV:=
 if Dd w then match db ((w.take (bN w)).drop 2),fu (w.drop (bN w+1)) with
  |some n,some r=>some (mkN (decide (w[1]? = some na)) n r)
  |_,_=>none
 else none
def zB (l:Bs):Bool:=decide (l.take 4=Dc)
def De:Nat → List NV → List Bs → (List NV × Nat × List Bs) ⊕ Nat
 |k,acc,[]=>.inl (acc,k,[])
 |k,acc,l::ls=>if zB l=true then (match kZ (dK 32 l) with |none=>.inr (k+1) |some x=>De (k+1) (acc++[x]) ls) else .inl (acc,k,l::ls)
def gg (w l:Bs):Option (List Int):=if (dK 32 l).head? = some w then db (dK 32 l).tail else none
def HS:FV:=⟨[],[],[]⟩
def UO (N:List NV) (k:Nat) (r w:List Int) (ls:List Bs):FV × Nat × Nat:=if ls=[[]] then (if ct ⟨N,r,w⟩=true then (⟨N,r,w⟩,0,0) else (HS,0,5)) else (HS,k+3,61)
def wc (N:List NV) (k:Nat):List Bs → FV × Nat × Nat
 |[]=>(HS,k+1,61)
 |l::ls=>match gg fV l with
  |none=>(HS,k+1,61)
  |some r=>match ls with
   |[]=>(HS,k+2,61)
   |m::ls=>match gg lH m with
    |none=>(HS,k+2,61)
    |some w=>UO N k r w ls
def oL (t:Bs):FV × Nat × Nat:=match De 0 [] (dK 10 t) with
 |.inr k=>(HS,k,61)
 |.inl (N,k,ls)=>wc N k ls
theorem UP (u:Nat):∀ c∈gP u,48 ≤ c.toNat ∧ c.toNat ≤ 57:=fun c hc=>by
 have:=List.all_eq_true.1 (NQ u) c hc
 simpa [Kb] using this
theorem aci (n:Int):∀ c∈cw n,c=45 ∨ (48 ≤ c.toNat ∧ c.toNat ≤ 57):=fun c hc=>by
 unfold cw at hc
 split at hc
 ·rcases List.mem_cons.1 hc with h |h
  ·exact .inl h
  ·exact .inr (UP _ c h)
 ·exact .inr (UP _ c hc)
theorem xV (n:Int) (c:UInt8) (h:c=32 ∨ c=10 ∨ c=58):c∉cw n:=fun hc=>by
 rcases aci n c hc with e |e
 ·subst e;rcases h with h |h |h<;>cases h
 ·rcases h with rfl |rfl |rfl
  ·exact absurd e.1 (by decide)
  ·exact absurd e.1 (by decide)
  ·exact absurd e.2 (by decide)
theorem agn {d:Nat} (h:d<16):48 ≤ (fig d).toNat ∧ (fig d).toNat≠58:=by
 rw [Lq h];split<;>omega
theorem UQ:∀ (k w:Nat),∀ c∈Gb k w,48 ≤ c.toNat ∧ c.toNat≠58
 |0,_,c,h=>by cases h
 |k+1,w,c,h=>by
  rw [Gb,List.mem_append,List.mem_singleton] at h
  rcases h with h |rfl
  ·exact UQ k _ c h
  ·exact agn (Nat.mod_lt _ (by decide))
theorem ZP (w:Int) (c:UInt8) (h:c=32 ∨ c=10):c∉En w:=fun hc=>by
 have:=UQ 16 w.toNat c hc
 rcases h with rfl |rfl
 ·exact absurd this.1 (by decide)
 ·exact absurd this.1 (by decide)
theorem Gd (n:Int):cw n≠jg:=fun e=>xV n 58 (by simp) (by rw [e];simp [jg])
theorem Ge (l:Bool):32∉tj l ∧ 10∉tj l ∧ tj l≠jg ∧ (tj l=na ∨ tj l=WV):=by
 cases l
 ·decide
 ·decide
theorem Kc (x:NV) (c:UInt8) (h:c=32 ∨ c=10):∀ w∈cr x,c∉w:=by
 intro w hw
 unfold cr at hw
 simp only [List.mem_append,List.mem_cons,List.mem_map,List.not_mem_nil,or_false] at hw
 have h3:c=32 ∨ c=10 ∨ c=58:=by rcases h with h |h<;>simp [h]
 rcases hw with (((rfl |rfl |rfl |rfl) |⟨n,_,rfl⟩) |(rfl |⟨n,_,rfl⟩))
 ·rcases h with rfl |rfl<;>decide
 ·rcases h with rfl |rfl
  ·exact (Ge _).1
  ·exact (Ge _).2.1
 ·exact xV _ _ h3
 ·exact xV _ _ h3
 ·exact xV _ _ h3
 ·rcases h with rfl |rfl<;>decide
 ·exact ZP _ _ h
theorem Qn (x:NV):cr x≠[]:=by unfold cr;simp
theorem Df (d c:UInt8) (hd:d≠c):∀ {ws:List Bs},(∀ w∈ws,c∉w) → c∉bL d ws
 |[],_=>by simp [bL]
 |[w],h=>h w (by simp)
 |w::v::ws,h=>by
  show c∉w++d::bL d (v::ws)
  simp only [List.mem_append,List.mem_cons,not_or]
  exact ⟨h w (by simp),fun e=>hd e.symm,Df d c hd fun u hu=>h u (List.mem_cons_of_mem _ hu)⟩
theorem UR (x:NV):10∉eH x:=Df 32 10 (by decide) (Kc x 10 (.inr rfl))
theorem Kd (w:Bs) (l:List Int) (c:UInt8) (h:c=32 ∨ c=10) (hw:c∉w):∀ u∈w::l.map cw,c∉u:=by
 intro u hu
 rcases List.mem_cons.1 hu with rfl |hu
 ·exact hw
 ·obtain ⟨n,_,rfl⟩:=List.mem_map.1 hu
  exact xV _ _ (by rcases h with h |h<;>simp [h])
theorem Ke (w:Bs) (l:List Int) (hw:10∉w):10∉gI w l:=Df 32 10 (by decide) (Kd w l 10 (.inr rfl) hw)
def Kf (n:Int):Prop := -9223372036854775808 ≤ n ∧ n ≤ 9223372036854775807
def U64 (n:Int):Prop:=0 ≤ n ∧ n<18446744073709551616
theorem Gf:∀ {l:List Int},(∀ n∈l,Kf n) → db (l.map cw)=some l
 |[],_=>rfl
 |n::l,h=>by
  have hn:=h n (by simp)
  simp only [List.map_cons,db,ZK hn.1 hn.2,if_true,Gf fun m hm=>h m (List.mem_cons_of_mem _ hm),Option.map_some]
theorem NU:∀ {l:List Int},(∀ n∈l,U64 n) → fu (l.map En)=some l
 |[],_=>rfl
 |n::l,h=>by
  have hn:=h n (by simp)
  unfold U64 at hn
  have e:O6 (En n)=some n.toNat:=ZM (by omega)
  simp only [List.map_cons,fu,e,NU fun m hm=>h m (List.mem_cons_of_mem _ hm),Option.map_some]
  congr 2;omega
theorem NW {α:Type} {p:α → Bool}:∀ {a:List α} {x:α} {b:List α},(∀ y∈a,p y=false) → p x=true → (a++x::b).findIdx p=a.length
 |[],x,b,_,h=>by simp [List.findIdx_cons,h]
 |y::a,x,b,h,hx=>by
  rw [List.cons_append,List.findIdx_cons,h y (by simp),NW (fun z hz=>h z (List.mem_cons_of_mem _ hz)) hx];rfl
structure NV.Me (x:NV):Prop where
 s:Kf x.h.site
 g:Kf x.h.pR
 P:∀ n∈x.P,Kf n
 R:∀ n∈x.R,U64 n
theorem Sy {x:NV} (h:x.Me) (hp:(x.P.length:Int)=x.h.p) (hr:(x.R.length:Int)=x.h.r):kZ (cr x)=some x:=by
 have mf:=Ge x.h.bW
 have ca:bN (cr x)=4+x.P.length:=by
  unfold bN cr
  rw [NW]
  ·simp;omega
  ·intro y hy
   rw [decide_eq_false_iff_not]
   simp only [List.mem_append,List.mem_cons,List.mem_map,List.not_mem_nil,or_false] at hy
   rcases hy with (rfl |rfl |rfl |rfl) |⟨n,_,rfl⟩
   ·decide
   ·exact mf.2.2.1
   ·exact Gd _
   ·exact Gd _
   ·exact Gd _
  ·rfl
 have w1:(cr x)[1]? = some (tj x.h.bW):=rfl
 have ok:Dd (cr x):=by
  refine ⟨by omega,?_,rfl,?_⟩
  ·rw [ca];unfold cr;simp;omega
  ·rw [w1];rcases mf.2.2.2 with e |e<;>rw [e]<;>simp
 have e1:((cr x).take (bN (cr x))).drop 2=(x.h.site::x.h.pR::x.P).map cw:=by
  rw [ca]
  unfold cr
  rw [List.take_left' (by simp;omega)]
  simp
 have e2:(cr x).drop (bN (cr x)+1)=x.R.map En:=by
  rw [ca]
  unfold cr
  rw [List.drop_append,List.drop_of_length_le (by simp;omega)]
  rw [show 4+x.P.length+1 - ([Dc,tj x.h.bW,cw x.h.site,cw x.h.pR]++x.P.map cw).length=1 by simp;omega]
  rfl
 unfold kZ
 rw [if_pos ok,e1,e2,Gf (l:=x.h.site::x.h.pR::x.P) (fun n hn=>by
  rcases List.mem_cons.1 hn with rfl |hn
  ·exact h.s
  ·rcases List.mem_cons.1 hn with rfl |hn
   ·exact h.g
   ·exact h.P n hn),NU h.R,w1]
 have ml:decide (some (tj x.h.bW)=some na)=x.h.bW:=by cases x.h.bW<;>rfl
 rw [ml]
 obtain ⟨⟨a,b,c,d,e⟩,P,R⟩:=x
 simp only [mkN,List.length_cons,List.getD_cons_zero,List.getD_cons_succ,List.drop_succ_cons,List.drop_zero] at*
 rw [← hp,← hr]
 rfl
theorem US (x:NV):zB (eH x)=true:=by
 unfold zB eH cr
 rw [decide_eq_true_eq]
 rfl
theorem UT:∀ {l:List NV} (k:Nat) (acc:List NV) (ls:List Bs),(∀ x∈l,x.Me ∧ (x.P.length:Int)=x.h.p ∧ (x.R.length:Int)=x.h.r) → (∀ m∈ls.head?,zB m=false) → De k acc (l.map eH++ls)=.inl (acc++l,k+l.length,ls)
 |[],k,acc,ls,_,h=>by
  cases ls with
  |nil=>simp [De]
  |cons m ls=>
   have:=h m (by simp)
   show De k acc (m::ls)=_
   rw [De,if_neg (by rw [this];decide)];simp
 |x::l,k,acc,ls,hx,h=>by
  obtain ⟨h1,h2,h3⟩:=hx x (by simp)
  show De k acc (eH x::(l.map eH++ls))=_
  rw [De,if_pos (US x)]
  have:dK 32 (eH x)=cr x:=HR 32 (Qn x) (Kc x 32 (.inl rfl))
  rw [this,Sy h1 h2 h3]
  simp only
  rw [UT (k+1) (acc++[x]) ls (fun y hy=>hx y (List.mem_cons_of_mem _ hy)) h,List.append_assoc,List.singleton_append,List.length_cons]
  congr 2;congr 1;omega
theorem Kg {w:Bs} {l:List Int} (hw:32∉w) (hl:∀ n∈l,Kf n):gg w (gI w l)=some l:=by
 have:dK 32 (gI w l)=w::l.map cw:=HR 32 (by simp) (Kd w l 32 (.inl rfl) hw)
 unfold gg
 rw [this]
 simp only [List.head?_cons,if_true,List.tail_cons]
 exact Gf hl
theorem UU (F:FV):∀ w∈Gc F,10∉w:=by
 intro w hw
 unfold Gc at hw
 simp only [List.mem_append,List.mem_cons,List.mem_map,List.not_mem_nil,or_false] at hw
 rcases hw with ⟨x,_,rfl⟩ |rfl |rfl |rfl
 ·exact UR x
 ·exact Ke _ _ (by decide)
 ·exact Ke _ _ (by decide)
 ·simp
theorem Sz {w:Bs} {l:List Int} {a b c d:UInt8} {t:Bs} (e:w=a::b::c::d::t) (h:a≠110):zB (gI w l)=false:=by
 have:∃ u,gI w l=w++u:=by
  unfold gI
  cases l with
  |nil=>exact ⟨[],by simp [bL]⟩
  |cons n l=>exact ⟨_,rfl⟩
 obtain ⟨u,hu⟩:=this
 unfold zB
 rw [hu,e,decide_eq_false_iff_not]
 intro q
 have:=congrArg List.head? q
 simp [Dc] at this
 exact h this
theorem WW {F:FV} (hx:∀ x∈F.nodes,x.Me ∧ (x.P.length:Int)=x.h.p ∧ (x.R.length:Int)=x.h.r) (hr:∀ n∈F.roots,Kf n) (hw:∀ n∈F.bn,Kf n) (h:ct F=true):oL (tk F)=(F,0,0):=by
 have hc:dK 10 (tk F)=Gc F:=HR 10 (by unfold Gc;simp) (UU F)
 unfold oL
 rw [hc]
 unfold Gc
 rw [UT 0 [] _ hx (by
  intro m hm
  simp only [List.head?_cons,Option.mem_def,Option.some.injEq] at hm
  subst hm
  exact Sz (a:=114) rfl (by decide))]
 simp only [List.nil_append,wc,Kg (w:=fV) (by decide) hr,Kg (w:=lH) (by decide) hw]
 unfold UO
 rw [if_pos rfl,if_pos h]
theorem Dg:∀ {ws:List Bs} {l:List Int},db ws=some l → ws=l.map cw ∧ ∀ n∈l,Kf n
 |[],l,h=>by simp only [db,Option.some.injEq] at h;subst h;simp
 |w::ws,l,h=>by
  unfold db at h
  split at h
  ·rename_i c
   obtain ⟨m,h1,rfl⟩:=Option.map_eq_some_iff.1 h
   obtain ⟨q1,q2⟩:=Dg h1
   obtain ⟨e1,e2⟩:=ZL (s:=w) (n:=(tK w).1) (by rw [← c])
   refine ⟨by rw [List.map_cons,e1,q1],fun n hn=>?_⟩
   rcases List.mem_cons.1 hn with rfl |hn
   ·exact e2
   ·exact q2 n hn
  ·cases h
theorem Kh:∀ {ws:List Bs} {l:List Int},fu ws=some l → ws=l.map En ∧ ∀ n∈l,U64 n
 |[],l,h=>by simp only [fu,Option.some.injEq] at h;subst h;simp
 |w::ws,l,h=>by
  unfold fu at h
  split at h
  ·rename_i n c
   obtain ⟨m,h1,rfl⟩:=Option.map_eq_some_iff.1 h
   obtain ⟨q1,q2⟩:=Kh h1
   obtain ⟨e1,e2⟩:=ZO c
   refine ⟨by rw [List.map_cons,q1];congr 1;unfold En;rw [Int.toNat_natCast,e1],fun k hk=>?_⟩
   rcases List.mem_cons.1 hk with rfl |hk
   ·exact ⟨by omega,by omega⟩
   ·exact q2 k hk
  ·cases h
theorem UW {w:List Bs} {x:NV} (h:kZ w=some x):cr x=w ∧ x.Me:=by
 unfold kZ at h
 split at h
 ·rename_i ok
  obtain ⟨o1,o2,o3,o4⟩:=ok
  split at h
  ·rename_i n r hn hr
   simp only [Option.some.injEq] at h
   subst h
   obtain ⟨n1,n2⟩:=Dg hn
   obtain ⟨r1,r2⟩:=Kh hr
   have nl:n.length=bN w - 2:=by
    have:=congrArg List.length n1
    simp at this;omega
   match n,nl,n1,n2 with
   |[],nl,_,_=>simp at nl;omega
   |[_],nl,_,_=>simp at nl;omega
   |a::b::P,nl,n1,n2=>
    have anv:w[bN w]? = some jg:=by
     have:=List.findIdx_getElem (p:=fun s=>decide (s=jg)) (xs:=w) (w:=o2)
     rw [List.getElem?_eq_getElem o2]
     have h2:decide (w[bN w]=jg)=true:=this
     exact congrArg some (of_decide_eq_true h2)
    have t1:w.take (bN w)=Dc::tj (decide (w[1]? = some na))::(a::b::P).map cw:=by
     have e0:(w.take (bN w))=(w.take (bN w)).take 2++(w.take (bN w)).drop 2:=(List.take_append_drop 2 _).symm
     rw [e0,n1,List.take_take,Nat.min_eq_left (by omega)]
     have e2:w.take 2=[Dc,tj (decide (w[1]? = some na))]:=by
      match w,o2,o3,o4 with
      |[],o2,_,_=>simp at o2
      |[_],o2,_,_=>simp at o2;omega
      |u::v::w,_,o3,o4=>
       simp only [List.getElem?_cons_zero,Option.some.injEq] at o3
       subst o3
       simp only [List.getElem?_cons_succ,List.getElem?_cons_zero,Option.some.injEq] at o4 ⊢
       show [Dc,v]=_
       rcases o4 with rfl |rfl
       ·rfl
       ·rfl
     rw [e2];rfl
    have hw:w=w.take (bN w)++jg::w.drop (bN w+1):=by
     have:=(List.take_append_drop (bN w) w).symm
     rw [List.drop_eq_getElem_cons o2] at this
     have e:w[bN w]=jg:=by rw [List.getElem?_eq_getElem o2] at anv;simpa using anv
     rw [e] at this
     exact this
    refine ⟨?_,⟨n2 a (by simp),n2 b (by simp),fun m hm=>n2 m (by simp [mkN] at hm;simp [hm]),r2⟩⟩
    rw [hw,t1,r1]
    simp [cr,mkN]
    generalize decide (w[1]? = some na)=b
    cases b<;>decide
  ·cases h
 ·cases h
theorem WX {w l:Bs} {n:List Int} (h:gg w l=some n):gI w n=l ∧ ∀ m∈n,Kf m:=by
 unfold gg at h
 split at h
 ·rename_i c
  obtain ⟨e1,e2⟩:=Dg h
  refine ⟨?_,e2⟩
  unfold gI
  rw [← e1]
  cases hc:dK 32 l with
  |nil=>exact absurd hc (Sx _ _)
  |cons v vs=>
   rw [hc] at c
   simp only [List.head?_cons,Option.some.injEq] at c
   subst c
   rw [List.tail_cons,← hc,HQ]
 ·cases h
end Go.Abs
