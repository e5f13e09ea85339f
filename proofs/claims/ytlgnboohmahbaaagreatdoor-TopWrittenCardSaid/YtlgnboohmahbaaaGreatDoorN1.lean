/-
  Trees of plain data: what stands for them in a heap, frozen or owned. No conditions.
-/
import Derived.Test.YtlgnboohmahbaaaGreatDoorAbsSl
set_option linter.unusedVariables false
set_option linter.unusedSimpArgs false
set_option linter.constructorNameAsVariable false
namespace Go.Abs
open Go
variable {O:Type}
structure wN (σ:AH O) (el es:Nat) (a:SA) (n:Nat) (cs:List AV):Prop where
 len:cs.length=n*es
 wh:match a with
  |.loc b o e=>∃ k rest,b=.n k ∧ o=0 ∧ e=es ∧ σ.ai k=some (.cells true el (cs++rest)) ∧ k<σ.next
  |.ar _ _ _=>False
  |_=>n=0
theorem aN.p {σ:AH O} {el es n:Nat} {a:SA} {cs:List AV} (h:aN σ el es a n cs):wN σ el es a n cs:=by
 refine ⟨h.len,?_⟩
 have h2:=h.wh
 cases a with
 |loc b o e=>obtain ⟨k,h1,h2,h3,h4,h5⟩:=h2;exact ⟨k,[],h1,h2,h3,by rw [List.append_nil];exact h4,h5⟩
 |nil=>exact h2
 |z=>exact h2
 |ar=>exact h2.elim
theorem wN.rd {σ:AH O} {el es:Nat} {a:SA} {n:Nat} {cs:List AV} (h:wN σ el es a n cs):Rd σ es a n cs:=by
 refine ⟨h.len,?_⟩
 have h2:=h.wh
 have hl:=h.len
 cases a with
 |loc b o e=>
  obtain ⟨k,rest,rfl,rfl,rfl,h3,_⟩:=h2
  exact ⟨rfl,cs++rest,by simp only [AH.cs,h3],by simp;omega,by rw [List.drop_zero,← hl,List.take_left]⟩
 |nil=>have h2:n=0:=h2;subst h2;exact ⟨rfl,List.eq_nil_of_length_eq_zero (by simpa using hl)⟩
 |z=>have h2:n=0:=h2;subst h2;exact ⟨rfl,List.eq_nil_of_length_eq_zero (by simpa using hl)⟩
 |ar=>exact h2.elim
theorem wN.of {σ aj:AH O} {el es n:Nat} {a:SA} {cs:List AV} (h:wN σ el es a n cs) (hn:σ.next ≤ aj.next) (hb:∀ b∈SA.bk a,aj.ai b=σ.ai b):wN aj el es a n cs:=by
 refine ⟨h.len,?_⟩
 have h2:=h.wh
 cases a with
 |loc b o e=>
  obtain ⟨k,rest,rfl,rfl,rfl,h3,h4⟩:=h2
  exact ⟨k,rest,rfl,rfl,rfl,by rw [hb k (by simp [SA.bk])];exact h3,Nat.lt_of_lt_of_le h4 hn⟩
 |nil=>exact h2
 |z=>exact h2
 |ar=>exact h2.elim
theorem wN.lt {σ:AH O} {el es n:Nat} {a:SA} {cs:List AV} (h:wN σ el es a n cs):∀ b∈SA.bk a,b<σ.next:=fun b hb=>by
 have h2:=h.wh
 match a,hb,h2 with
 |.loc (.n c) o e,hb,h2=>
  obtain ⟨k,_,e1,_,_,_,h4⟩:=h2
  cases e1
  simp only [SA.bk,List.mem_singleton] at hb
  subst hb;exact h4
theorem wN.loc {σ:AH O} {el es n:Nat} {a:SA} {cs:List AV} (h:wN σ el es a n cs) (hn:n≠0):∃ k rest,a=.loc (.n k) 0 es ∧ σ.ai k=some (.cells true el (cs++rest)) ∧ k<σ.next:=by
 have h2:=h.wh
 cases a with
 |loc b o e=>obtain ⟨k,rest,rfl,rfl,rfl,h3,h4⟩:=h2;exact ⟨k,rest,rfl,h3,h4⟩
 |nil=>exact absurd h2 hn
 |z=>exact absurd h2 hn
 |ar=>exact h2.elim
theorem wN.new {σ:AH O} {el es n b:Nat} {cs rest:List AV} (hl:cs.length=n*es) (h:σ.ai b=some (.cells true el (cs++rest))) (hb:b<σ.next):wN σ el es (.loc (.n b) 0 es) n cs:=⟨hl,b,rest,rfl,rfl,rfl,h,hb⟩
theorem aef {σ:AH O} {nid el es n m:Nat} {a:SA} {cs new:List AV} (h:wN σ el es a n cs) (jL:nid∉SA.bk a) (bS:nid<σ.next) (hm:new.length=m*es):
  Ok (σ.bP nid el es a n m new) fun r=>∃ a',r.1=.sl a' (n+m) ∧ wN r.2 el es a' (n+m) (cs++new) ∧ r.2.next=σ.next ∧ (∀ b,b≠nid → b∉SA.bk a → r.2.ai b=σ.ai b) ∧ ∀ b∈SA.bk a',b=nid:=by
 have hw:=h.wh
 have hl:=h.len
 have hmul:(n+m)*es=n*es+m*es:=Nat.add_mul _ _ _
 cases a with
 |loc b o N8=>
  obtain ⟨k,rest,rfl,rfl,rfl,h3,h4⟩:=hw
  have hc:(Nat.beq el el && Nat.ble (0+n*N8) (cs++rest).length)=true:=by
   rw [L8,Bool.true_and];exact Nat.ble_eq_true_of_le (by simp;omega)
  simp only [AH.bP,h3,hc,cond_true]
  have ht:((cs++rest).drop 0).take (n*N8)=cs:=by rw [List.drop_zero,← hl,List.take_left]
  rw [ht]
  refine U.2 ⟨_,rfl,wN.new (rest:=[]) (by simp [hl,hm,hmul]) (by simp) bS,rfl,fun q hq LF=>?_,fun b oP=>by simpa [SA.bk] using oP⟩
  have:q≠k:=fun e=>LF (by simp [SA.bk,e])
  simp [hq,this]
 |ar=>exact hw.elim
 |nil=>
  have hS:aN σ el es .nil n cs:=⟨hl,hw⟩
  exact (nW hS jL bS hm).mono fun r ⟨a',g1,g2,g3,g4,g5⟩=>⟨a',g1,g2.p,g3,g4,g5⟩
 |z=>
  have hS:aN σ el es .z n cs:=⟨hl,hw⟩
  exact (nW hS jL bS hm).mono fun r ⟨a',g1,g2,g3,g4,g5⟩=>⟨a',g1,g2.p,g3,g4,g5⟩
theorem FZ.slP {d:Nat} {σ:AH O} {H:Nat → Option (oM O)} {L:List Nat} {el es n:Nat} {a:SA} {cs qm:List AV} (h:wN σ el es a n cs) (hH:∀ b∈SA.bk a,H b=σ.ai b) (hc:re (d+1) H L cs qm) (hl:qm.length=cs.length) (hd:∀ b∈SA.bk a,b∉L):∃ a',FZ (d+2) H (SA.bk a++L) (.sl a n) (.sl a' n) ∧ nh es a' n qm:=by
 have hw:=h.wh
 have hlen:=h.len
 cases a with
 |loc b o e=>
  obtain ⟨k,rest,rfl,rfl,rfl,h3,h4⟩:=hw
  refine ⟨.loc (.f qm) 0 e,fun aJ dP=>?_,nh.f (by rw [hl];exact hlen)⟩
  have hk:aJ.ai k=some (.cells true el (cs++rest)):=by rw [dP k (by simp [SA.bk]),hH k (by simp [SA.bk])];exact h3
  obtain ⟨aj,e1,n1,b1⟩:=hc (aJ.kill k) fun b hb=>by
   have:b≠k:=fun e=>hd k (by simp [SA.bk]) (e▸hb)
   rw [lS,if_neg this];exact dP b (by simp [hb])
  refine ⟨aj,?_,by simpa using n1,fun b=>?_⟩
  ·rw [QX,hk]
   simp only
   rw [Nat.ble_eq_true_of_le (by simp;omega),cond_true,List.drop_zero,← hlen,List.take_left,e1];rfl
  ·rw [b1,lS]
   by_cases g1:b=k<;>by_cases g2:b∈L<;>simp [SA.bk,g1,g2]
 |nil=>exact FZ.sl (σ:=σ) (el:=el) ⟨hlen,hw⟩ hH hc hl hd
 |z=>exact FZ.sl (σ:=σ) (el:=el) ⟨hlen,hw⟩ hH hc hl hd
 |ar=>exact hw.elim
inductive TV where
 |lf (v:AV)
 |sl (el es n:Nat) (cs:List TV)
mutual
inductive Im:TV → AV → Prop
 |lf {v:AV} (h:v.flat=true):Im (.lf v) v
 |sl {el es n:Nat} {cs:List TV} {a:SA} {vs:List AV} (h:nh es a n vs) (hc:ng cs vs):Im (.sl el es n cs) (.sl a n)
inductive ng:List TV → List AV → Prop
 |nil:ng [] []
 |cons {t:TV} {v:AV} {ts:List TV} {vs:List AV} (h:Im t v) (hc:ng ts vs):ng (t::ts) (v::vs)
end
mutual
inductive Ow (σ:AH O):TV → AV → List Nat → Prop
 |im {t:TV} {v:AV} (h:Im t v):Ow σ t v []
 |sl {el es n:Nat} {cs:List TV} {a:SA} {vs:List AV} {L:List Nat} (h:wN σ el es a n vs) (hc:nu σ cs vs L) (hd:∀ b∈SA.bk a,b∉L):Ow σ (.sl el es n cs) (.sl a n) (SA.bk a++L)
inductive nu (σ:AH O):List TV → List AV → List Nat → Prop
 |nil:nu σ [] [] []
 |cons {t:TV} {v:AV} {ts:List TV} {vs:List AV} {L1 L2:List Nat} (h:Ow σ t v L1) (hc:nu σ ts vs L2) (hd:∀ b∈L1,b∉L2):nu σ (t::ts) (v::vs) (L1++L2)
end
theorem nh.flat {es n:Nat} {a:SA} {vs:List AV} (h:nh es a n vs):(AV.sl a n).flat=true:=by
 have hb:=h.bk
 match a,hb with
 |.nil,_=>rfl
 |.z,_=>rfl
 |.loc (.f _) _ _,_=>rfl
 |.loc (.n b) _ _,hb=>simp [SA.bk] at hb
 |.ar _ _ _,_=>exact (h Unit ⟨fun _=>none,0⟩).wh.elim
theorem Im.flat {t:TV} {v:AV} (h:Im t v):v.flat=true:=by
 cases h with
 |lf h=>exact h
 |sl h hc=>exact h.flat
theorem ng.flat:∀ {ts:List TV} {vs:List AV},ng ts vs → vs.all AV.flat=true
 |_,_,.nil=>rfl
 |_,_,.cons h hc=>by simp [h.flat,hc.flat]
theorem ng.len:∀ {ts:List TV} {vs:List AV},ng ts vs → vs.length=ts.length
 |_,_,.nil=>rfl
 |_,_,.cons h hc=>by simp [hc.len]
theorem ng.get:∀ {ts:List TV} {vs:List AV},ng ts vs → ∀ {i:Nat} {t:TV},ts[i]? = some t → ∃ v,vs[i]? = some v ∧ Im t v
 |_,_,.nil,i,t,h=>by simp at h
 |_,_,.cons h hc,0,t,e=>by simp at e;subst e;exact ⟨_,rfl,h⟩
 |_,_,.cons h hc,i+1,t,e=>hc.get (i:=i) (by simpa using e)
theorem ng.app:∀ {ts us:List TV} {vs ws:List AV},ng ts vs → ng us ws → ng (ts++us) (vs++ws)
 |_,_,_,_,.nil,k=>k
 |_,_,_,_,.cons h hc,k=>.cons h (hc.app k)
theorem ng.drop:∀ {ts:List TV} {vs:List AV} (n:Nat),ng ts vs → ng (ts.drop n) (vs.drop n)
 |_,_,0,h=>by simpa using h
 |_,_,n+1,.nil=>.nil
 |_,_,n+1,.cons h hc=>by simpa using hc.drop n
theorem ng.take:∀ {ts:List TV} {vs:List AV} (n:Nat),ng ts vs → ng (ts.take n) (vs.take n)
 |_,_,0,h=>by simpa using ng.nil
 |_,_,n+1,.nil=>.nil
 |_,_,n+1,.cons h hc=>by simpa using ng.cons h (hc.take n)
theorem ng.lfs:∀ {vs:List AV},vs.all AV.flat=true → ng (vs.map TV.lf) vs
 |[],_=>.nil
 |v::vs,h=>by
  simp only [List.all_cons,Bool.and_eq_true] at h
  exact .cons (.lf h.1) (ng.lfs h.2)
theorem nu.im {σ:AH O}:∀ {ts:List TV} {vs:List AV},ng ts vs → nu σ ts vs []
 |_,_,.nil=>.nil
 |_,_,.cons h hc=>by simpa using nu.cons (.im h) (nu.im hc) (by simp)
theorem nu.len {σ:AH O}:∀ {ts:List TV} {vs:List AV} {L:List Nat},nu σ ts vs L → vs.length=ts.length
 |_,_,_,.nil=>rfl
 |_,_,_,.cons h hc hd=>by simp [hc.len]
mutual
theorem Ow.of {σ aj:AH O} (hn:σ.next ≤ aj.next):∀ {t:TV} {v:AV} {L:List Nat},Ow σ t v L → (∀ b∈L,aj.ai b=σ.ai b) → Ow aj t v L
 |_,_,_,.im h,_=>.im h
 |_,_,_,.sl h hc hd,hb=>.sl (h.of hn fun b hm=>hb b (List.mem_append_left _ hm)) (hc.of hn fun b hm=>hb b (List.mem_append_right _ hm)) hd
theorem nu.of {σ aj:AH O} (hn:σ.next ≤ aj.next):∀ {ts:List TV} {vs:List AV} {L:List Nat},nu σ ts vs L → (∀ b∈L,aj.ai b=σ.ai b) → nu aj ts vs L
 |_,_,_,.nil,_=>.nil
 |_,_,_,.cons h hc hd,hb=>.cons (h.of hn fun b hm=>hb b (List.mem_append_left _ hm)) (hc.of hn fun b hm=>hb b (List.mem_append_right _ hm)) hd
end
mutual
theorem Ow.lt {σ:AH O}:∀ {t:TV} {v:AV} {L:List Nat},Ow σ t v L → ∀ b∈L,b<σ.next
 |_,_,_,.im h,b,hb=>by simp at hb
 |_,_,_,.sl h hc hd,b,hb=>(List.mem_append.1 hb).elim (h.lt b) (hc.lt b)
theorem nu.lt {σ:AH O}:∀ {ts:List TV} {vs:List AV} {L:List Nat},nu σ ts vs L → ∀ b∈L,b<σ.next
 |_,_,_,.nil,b,hb=>by simp at hb
 |_,_,_,.cons h hc hd,b,hb=>(List.mem_append.1 hb).elim (h.lt b) (hc.lt b)
end
def TV.deep:TV → Nat → Prop
 |.lf _,_=>True
 |.sl _ _ _ _,0=>False
 |.sl _ _ _ cs,d+1=>∀ t∈cs,t.deep d
mutual
theorem Ow.fz {σ:AH O}:∀ {t:TV} {v:AV} {L:List Nat} {d:Nat},Ow σ t v L → t.deep d → ∃ v',FZ (d+1) σ.ai L v v' ∧ Im t v'
 |_,v,_,d,.im h,_=>⟨v,FZ.flat h.flat,h⟩
 |_,_,_,0,.sl h hc hd,hdp=>by unfold TV.deep at hdp;exact hdp.elim
 |_,_,_,d+1,.sl h hc hd,hdp=>by
  unfold TV.deep at hdp
  obtain ⟨Bq,g1,g2⟩:=hc.fz hdp
  obtain ⟨a',k1,k2⟩:=FZ.slP h (fun _ _=>rfl) g1 (by rw [g2.len,hc.len]) hd
  exact ⟨_,k1,.sl k2 g2⟩
theorem nu.fz {σ:AH O}:∀ {ts:List TV} {vs:List AV} {L:List Nat} {d:Nat},nu σ ts vs L → (∀ t∈ts,t.deep d) → ∃ Bq,re (d+1) σ.ai L vs Bq ∧ ng ts Bq
 |_,_,_,d,.nil,_=>⟨[],re.nil,.nil⟩
 |_,_,_,d,.cons h hc hd,hdp=>by
  obtain ⟨v',g1,g2⟩:=h.fz (hdp _ List.mem_cons_self)
  obtain ⟨Bq,k1,k2⟩:=hc.fz fun t ht=>hdp t (List.mem_cons_of_mem _ ht)
  exact ⟨v'::Bq,re.cons g1 k1 hd,.cons g2 k2⟩
end
theorem nu.app {σ:AH O}:∀ {ts us:List TV} {vs ws:List AV} {L K:List Nat},nu σ ts vs L → nu σ us ws K → (∀ b∈L,b∉K) → nu σ (ts++us) (vs++ws) (L++K)
 |_,_,_,_,_,_,.nil,k,_=>k
 |_,_,_,_,_,_,.cons h hc hd,k,hk=>by
  rw [List.append_assoc]
  exact .cons h (hc.app k fun b hb=>hk b (List.mem_append_right _ hb)) fun b hb hm=>(List.mem_append.1 hm).elim (hd b hb) (hk b (List.mem_append_left _ hb))
theorem nu.split {σ:AH O}:∀ {ts:List TV} {vs:List AV} {L:List Nat} {i:Nat} {t:TV},nu σ ts vs L → ts[i]? = some t →
  ∃ v L1 L2 L3,vs[i]? = some v ∧ Ow σ t v L2 ∧ L=L1++(L2++L3) ∧ (∀ b∈L2,b∉L1 ∧ b∉L3) ∧
   ∀ (aj:AH O) (t':TV) (v':AV) (L':List Nat),σ.next ≤ aj.next → (∀ b,b∈L1 ∨ b∈L3 → aj.ai b=σ.ai b) → Ow aj t' v' L' → (∀ b∈L',b∉L1 ∧ b∉L3) → nu aj (ts.set i t') (vs.set i v') (L1++(L'++L3))
 |_,_,_,i,t,.nil,e=>by simp at e
 |_,_,_,0,t,.cons (L1:=A) (L2:=B) h hc hd,e=>by
  simp at e
  subst e
  refine ⟨_,[],A,B,rfl,h,rfl,fun b hb=>⟨by simp,hd b hb⟩,fun aj t' v' L' hn hb ho hl=>?_⟩
  show nu aj _ _ (L'++B)
  exact .cons ho (hc.of hn fun b hm=>hb b (.inr hm)) fun b hm=>(hl b hm).2
 |_,_,_,i+1,t,.cons (L1:=A) h hc hd,e=>by
  obtain ⟨v,L1,L2,L3,g1,g2,rfl,g4,g5⟩:=hc.split (i:=i) (by simpa using e)
  refine ⟨v,A++L1,L2,L3,by simpa using g1,g2,by simp,fun b hb=>⟨fun hm=>?_,(g4 b hb).2⟩,fun aj t' v' L' hn hb ho hl=>?_⟩
  ·rcases List.mem_append.1 hm with hm |hm
   ·exact hd b hm (by simp [hb])
   ·exact (g4 b hb).1 hm
  ·rw [List.append_assoc]
   refine .cons (h.of hn fun b hm=>hb b (.inl (List.mem_append_left _ hm))) (g5 aj t' v' L' hn (fun b hm=>hb b (hm.imp (List.mem_append_right _) id)) ho fun b hm=>⟨fun h1=>(hl b hm).1 (List.mem_append_right _ h1),(hl b hm).2⟩) fun b hm hm2=>?_
   rcases List.mem_append.1 hm2 with h1 |h1
   ·exact hd b hm (by simp [h1])
   ·rcases List.mem_append.1 h1 with h1 |h1
    ·exact (hl b h1).1 (List.mem_append_left _ hm)
    ·exact hd b hm (by simp [h1])
theorem nu.get {σ:AH O} {ts:List TV} {vs:List AV} {L:List Nat} (h:nu σ ts vs L) {i:Nat} {t:TV} (e:ts[i]? = some t):∃ v L',vs[i]? = some v ∧ Ow σ t v L' ∧ ∀ b∈L',b∈L:=by
 obtain ⟨v,L1,L2,L3,g1,g2,rfl,_,_⟩:=h.split e
 exact ⟨v,L2,g1,g2,fun b hb=>by simp [hb]⟩
theorem Ow.leaf {σ:AH O} {x v:AV} {L:List Nat} (h:Ow σ (.lf x) v L):v=x ∧ L=[]:=by
 cases h with
 |im h=>cases h with |lf h=>exact ⟨rfl,rfl⟩
theorem Ow.rd {σ:AH O} {el es n:Nat} {cs:List TV} {v:AV} {L:List Nat} (h:Ow σ (.sl el es n cs) v L):∃ a vs L',v=.sl a n ∧ Rd σ es a n vs ∧ nu σ cs vs L' ∧ (∀ b∈L',b∈L) ∧ ∀ b∈SA.bk a,b∈L:=by
 cases h with
 |im h=>cases h with |sl h hc=>exact ⟨_,_,[],rfl,h O σ,.im hc,by simp,by rw [h.bk];simp⟩
 |sl h hc hd=>exact ⟨_,_,_,rfl,h.rd,hc,fun b hb=>List.mem_append_right _ hb,fun b hb=>List.mem_append_left _ hb⟩
theorem Im.rd {el es n:Nat} {cs:List TV} {v:AV} (h:Im (.sl el es n cs) v):∃ a vs,v=.sl a n ∧ nh es a n vs ∧ ng cs vs:=by
 cases h with |sl h hc=>exact ⟨_,_,rfl,h,hc⟩
theorem Im.leaf {x v:AV} (h:Im (.lf x) v):v=x:=by cases h;rfl
theorem ng.GN:∀ {xs vs:List AV},ng (xs.map TV.lf) vs → vs=xs
 |[],_,h=>by cases h;rfl
 |x::xs,_,h=>by
  cases h with
  |cons h hc=>rw [h.leaf,hc.GN]
theorem nu.GN {σ:AH O}:∀ {xs vs:List AV} {L:List Nat},nu σ (xs.map TV.lf) vs L → vs=xs ∧ L=[]
 |[],_,_,h=>by cases h;exact ⟨rfl,rfl⟩
 |x::xs,_,_,h=>by
  cases h with
  |cons h hc hd=>
   obtain ⟨rfl,rfl⟩:=h.leaf
   obtain ⟨rfl,rfl⟩:=hc.GN
   exact ⟨rfl,rfl⟩
theorem Q6 {α β:Type} {enc:α → List β} {k:Nat} (hk:∀ x,(enc x).length=k):∀ l:List α,(l.flatMap enc).length=l.length*k
 |[]=>by simp
 |x::l=>by rw [List.flatMap_cons,List.length_append,hk,Q6 hk l,List.length_cons,Nat.succ_mul];omega
theorem GM {α β:Type} {enc:α → List β} {k:Nat} (hk:∀ x,(enc x).length=k):∀ (l:List α) (i j:Nat),j<k → (l.flatMap enc)[i*k+j]? = (l[i]?).bind fun x=>(enc x)[j]?
 |[],i,j,h=>by simp
 |x::l,0,j,h=>by rw [List.flatMap_cons,Nat.zero_mul,Nat.zero_add,List.getElem?_append_left (by rw [hk];exact h)];rfl
 |x::l,i+1,j,h=>by
  rw [List.flatMap_cons,List.getElem?_append_right (by rw [hk,Nat.succ_mul];omega),hk,show (i+1)*k+j - k=i*k+j by rw [Nat.succ_mul];omega,GM hk l i j h]
  simp
theorem aN.set {σ aj:AH O} {el es n:Nat} {a:SA} {cs:List AV} {o:Nat} {v:AV} (h:aN σ el es a n cs) {b:Nat} (ha:a=.loc (.n b) 0 es) (hs:aj=σ.put b (.cells true el (cs.set o v))):aN aj el es a n (cs.set o v):=by
 subst ha;subst hs
 obtain ⟨k,e1,_,_,h3,h4⟩:=h.wh
 cases e1
 exact aN.new (by rw [List.length_set];exact h.len) (by simp [AH.put]) (by simpa using h4)
theorem Md {α:Type} {l:List α} {i:Nat} {x:α} (h:l[i]? = some x):l.set i x=l:=by
 apply List.ext_getElem?
 intro j
 rw [List.getElem?_set]
 by_cases c:i=j
 ·subst c
  rw [if_pos rfl,if_pos (List.getElem?_eq_some_iff.1 h).1,h]
 ·rw [if_neg c]
theorem Ix {k:IntKind} (l:List Int):(l.map (AV.i k)).all AV.flat=true:=by simp [AV.flat]
theorem Ow.leaves {σ:AH O} {el es n:Nat} {a:SA} {xs:List AV} (h:aN σ el es a n xs) (hx:xs.all AV.flat=true):Ow σ (.sl el es n (xs.map TV.lf)) (.sl a n) (SA.bk a):=by
 have:=Ow.sl h.p (nu.im (ng.lfs hx)) (by simp)
 simpa using this
theorem FZ.pre {d:Nat} {σ:AH O} {H:Nat → Option (oM O)} {L:List Nat} {el es n k:Nat} {cs qm:List AV} (hb:σ.ai k=some (.cells true el cs)) (hH:H k=σ.ai k) (hn:n*es ≤ cs.length) (hc:re (d+1) H L (cs.take (n*es)) qm) (hl:qm.length=n*es) (hd:k∉L):
  FZ (d+2) H (k::L) (.sl (.loc (.n k) 0 es) n) (.sl (.loc (.f qm) 0 es) n) ∧ nh es (.loc (.f qm) 0 es) n qm:=by
 refine ⟨fun aJ dP=>?_,nh.f hl⟩
 have hk:aJ.ai k=some (.cells true el cs):=by rw [dP k (by simp),hH];exact hb
 obtain ⟨aj,e1,n1,b1⟩:=hc (aJ.kill k) fun b hb=>by
  have:b≠k:=fun e=>hd (e▸hb)
  rw [lS,if_neg this];exact dP b (by simp [hb])
 refine ⟨aj,?_,by simpa using n1,fun b=>?_⟩
 ·rw [QX,hk]
  simp only
  rw [Nat.ble_eq_true_of_le (by omega),cond_true,List.drop_zero,e1];rfl
 ·rw [b1,lS]
  by_cases g1:b=k<;>by_cases g2:b∈L<;>simp [g1,g2]
end Go.Abs
namespace Go.Abs
open Go
variable {O:Type}
structure Row {α:Type} (row:α → List TV) (k:Nat) (a:SA) (l:List α):Prop where
 hk:∀ x,(row x).length=k
 it:∃ vs,nh k a l.length vs ∧ ng (l.flatMap row) vs
theorem Row.im {α:Type} {row:α → List TV} {k:Nat} {a:SA} {l:List α} (h:Row row k a l) (el:Nat):Im (.sl el k l.length (l.flatMap row)) (.sl a l.length):=by
 obtain ⟨vs,h1,h2⟩:=h.it;exact .sl h1 h2
theorem Row.bk {α:Type} {row:α → List TV} {k:Nat} {a:SA} {l:List α} (h:Row row k a l):SA.bk a=[]:=by
 obtain ⟨vs,h1,h2⟩:=h.it;exact h1.bk
theorem Row.of {α:Type} {row:α → List TV} {k el n:Nat} {l:List α} {v:AV} (hk:∀ x,(row x).length=k) (h:Im (.sl el k n (l.flatMap row)) v) (hn:n=l.length):∃ a,v=.sl a l.length ∧ Row row k a l:=by
 subst hn
 obtain ⟨a,vs,rfl,h1,h2⟩:=h.rd
 exact ⟨a,rfl,hk,vs,h1,h2⟩
theorem Row.nil {α:Type} {row:α → List TV} {k:Nat} (hk:∀ x,(row x).length=k):Row row k .nil []:=⟨hk,[],nh.nil k,.nil⟩
theorem Row.get {α:Type} {row:α → List TV} {k:Nat} {a:SA} {l:List α} (h:Row row k a l) {i:Nat} {x:α} (hx:l[i]? = some x):
  ∃ b o us,a=.loc b o k ∧ ng (row x) us ∧ ∀ (O:Type) (σ:AH O) (j:Nat),j<k → σ.ld b (o+i*k+j)=us[j]? := by
 obtain ⟨vs,h1,h2⟩:=h.it
 have hi:=(List.getElem?_eq_some_iff.1 hx).1
 obtain ⟨b,o,rfl,_⟩:=(h1 Unit ⟨fun _=>none,0⟩).ref hi
 have hlen:=h1.len
 have hle:i*k+k ≤ l.length*k:=by rw [← Nat.succ_mul];exact Nat.mul_le_mul_right _ hi
 refine ⟨b,o,(vs.drop (i*k)).take k,rfl,?_,fun O σ j hj=>?_⟩
 ·have:=(h2.drop (i*k)).take k
  have e:((l.flatMap row).drop (i*k)).take k=row x:=by
   apply List.ext_getElem?
   intro j
   rw [List.getElem?_take]
   split
   ·rename_i hj
    rw [List.getElem?_drop,GM h.hk _ _ _ hj,hx];rfl
   ·rename_i hj
    rw [List.getElem?_eq_none]
    rw [h.hk];omega
  rw [e] at this;exact this
 ·obtain ⟨b',o',e,h3⟩:=(h1 O σ).ref hi
  cases e
  rw [h3 j hj,List.getElem?_take,if_pos hj,List.getElem?_drop]
theorem Row.all {α:Type} {row:α → List TV} {k:Nat} {a:SA} {l:List α} (h:Row row k a l):∃ vs,vs.length=l.length*k ∧ ng (l.flatMap row) vs ∧ ∀ (O:Type) (σ:AH O),σ.bC a l.length k=some vs:=by
 obtain ⟨vs,h1,h2⟩:=h.it
 exact ⟨vs,h1.len,h2,fun O σ=>(h1 O σ).bC⟩
theorem P4 {α:Type} {row:α → List TV} {k:Nat} (hk:∀ x,(row x).length=k):∀ (l:List α) (i:Nat),(l.drop i).flatMap row=(l.flatMap row).drop (i*k)
 |l,0=>by simp
 |[],i+1=>by simp
 |x::l,i+1=>by
  rw [List.drop_succ_cons,P4 hk l i,List.flatMap_cons,List.drop_append,List.drop_eq_nil_of_le (as:=row x) (by rw [hk,Nat.succ_mul];omega),hk,Nat.succ_mul,Nat.add_sub_cancel];rfl
theorem P5 {α:Type} {row:α → List TV} {k:Nat} (hk:∀ x,(row x).length=k):∀ (l:List α) (i:Nat),(l.take i).flatMap row=(l.flatMap row).take (i*k)
 |l,0=>by simp
 |[],i+1=>by simp
 |x::l,i+1=>by
  rw [List.take_succ_cons,List.flatMap_cons,List.flatMap_cons,P5 hk l i,List.take_append,hk,List.take_of_length_le (l:=row x) (by rw [hk,Nat.succ_mul];omega),Nat.succ_mul,Nat.add_sub_cancel]
theorem Row.part {α:Type} {row:α → List TV} {k:Nat} {a:SA} {l:List α} (h:Row row k a l) {lo n:Nat} (hn:lo+n ≤ l.length):∃ a',a.DD lo k=some a' ∧ Row row k a' ((l.drop lo).take n):=by
 obtain ⟨vs,h1,h2⟩:=h.it
 obtain ⟨a',g1,g2⟩:=h1.DD hn
 refine ⟨a',g1,h.hk,(vs.drop (lo*k)).take (n*k),?_,?_⟩
 ·have:((l.drop lo).take n).length=n:=by simp;omega
  rw [this];exact g2
 ·rw [P5 h.hk,P4 h.hk]
  exact (h2.drop _).take _
def TE (k:IntKind) (n:Int):List TV:=[.lf (.i k n)]
theorem BR (k:IntKind) (n:Int):(TE k n).length=1:=rfl
theorem Du (k:IntKind):∀ l:List Int,l.flatMap (TE k)=(l.map (AV.i k)).map TV.lf
 |[]=>rfl
 |x::l=>by rw [List.flatMap_cons,Du k l];rfl
abbrev bF (k:IntKind) (a:SA) (l:List Int):Prop:=Row (TE k) 1 a l
theorem bF.mk {k:IntKind} {a:SA} {l:List Int} (h:nh 1 a l.length (l.map (AV.i k))):bF k a l:=⟨BR k,_,h,by rw [Du];exact ng.lfs (Ix l)⟩
theorem bF.imm {k:IntKind} {a:SA} {l:List Int} (h:bF k a l):nh 1 a l.length (l.map (AV.i k)):=by
 obtain ⟨vs,h1,h2⟩:=h.it
 rw [Du] at h2
 rw [h2.GN] at h1;exact h1
theorem bF.at {k:IntKind} {a:SA} {l:List Int} (h:bF k a l) {i:Nat} {x:Int} (hx:l[i]? = some x):∃ b o,a=.loc b o 1 ∧ ∀ (O:Type) (σ:AH O),σ.ld b (o+i)=some (.i k x):=by
 obtain ⟨b,o,us,e,h1,h2⟩:=h.get hx
 refine ⟨b,o,e,fun O σ=>?_⟩
 have:=h2 O σ 0 (by decide)
 rw [Nat.mul_one,Nat.add_zero] at this
 rw [this]
 cases h1 with
 |cons h1 hc=>rw [h1.leaf];rfl
structure ya {α:Type} (σ:AH O) (el k:Nat) (row:α → List TV) (a:SA) (l:List α):Prop where
 hk:∀ x,(row x).length=k
 it:∃ vs,aN σ el k a l.length vs ∧ ng (l.flatMap row) vs
section bld
variable {α:Type} {σ:AH O} {el k:Nat} {row:α → List TV} {a:SA} {l:List α}
theorem ya.nil (σ:AH O) (el:Nat) (hk:∀ x,(row x).length=k):ya σ el k row .nil []:=⟨hk,[],aN.nil _ _ _,.nil⟩
theorem ya.z (σ:AH O) (el:Nat) (hk:∀ x,(row x).length=k):ya σ el k row .z []:=⟨hk,[],aN.z _ _ _,.nil⟩
theorem ya.of {aj:AH O} (h:ya σ el k row a l) (hn:σ.next ≤ aj.next) (hb:∀ b∈SA.bk a,aj.ai b=σ.ai b):ya aj el k row a l:=by
 obtain ⟨vs,h1,h2⟩:=h.it;exact ⟨h.hk,vs,h1.of hn hb,h2⟩
theorem ya.lt (h:ya σ el k row a l):∀ b∈SA.bk a,b<σ.next:=by obtain ⟨vs,h1,h2⟩:=h.it;exact h1.lt
theorem ya.ext {aj:AH O} (h:ya σ el k row a l) (hE:Ext σ aj):ya aj el k row a l:=h.of hE.next fun b hb=>hE.ai b (h.lt b hb)
theorem ya.app (h:ya σ el k row a l) {nid:Nat} {new:List AV} {m:List α} (jL:nid∉SA.bk a) (bS:nid<σ.next) (hm:ng (m.flatMap row) new):
  Ok (σ.bP nid el k a l.length m.length new) fun r=>∃ a',r.1=.sl a' (l.length+m.length) ∧ ya r.2 el k row a' (l++m) ∧ r.2.next=σ.next ∧ (∀ b,b≠nid → b∉SA.bk a → r.2.ai b=σ.ai b) ∧ ∀ b∈SA.bk a',b=nid:=by
 obtain ⟨vs,h1,h2⟩:=h.it
 refine (nW h1 jL bS (by rw [hm.len,Q6 h.hk])).mono ?_
 rintro ⟨q,aj⟩ ⟨a',g1,g2,g3,g4,g5⟩
 refine ⟨a',g1,⟨h.hk,vs++new,?_,?_⟩,g3,g4,g5⟩
 ·rw [List.length_append];exact g2
 ·rw [List.flatMap_append];exact h2.app hm
theorem ya.alB (h:ya σ el k row a l) {nid:Nat} {new:List AV} {x:α} (jL:nid∉SA.bk a) (bS:nid<σ.next) (hm:ng (row x) new):
  Ok (σ.bP nid el k a l.length 1 new) fun r=>∃ a',r.1=.sl a' (l.length+1) ∧ ya r.2 el k row a' (l++[x]) ∧ r.2.next=σ.next ∧ (∀ b,b≠nid → b∉SA.bk a → r.2.ai b=σ.ai b) ∧ ∀ b∈SA.bk a',b=nid:=
 h.app (m:=[x]) jL bS (by simpa using hm)
theorem ya.fz {d:Nat} {H:Nat → Option (oM O)} (h:ya σ el k row a l) (hH:∀ b∈SA.bk a,H b=σ.ai b):∃ a',FZ (d+2) H (SA.bk a) (.sl a l.length) (.sl a' l.length) ∧ Row row k a' l:=by
 obtain ⟨vs,h1,h2⟩:=h.it
 obtain ⟨a',g1,g2⟩:=FZ.sl (d:=d) (H:=H) (L:=[]) h1 hH (re.flat h2.flat) rfl (by simp)
 rw [List.append_nil] at g1
 exact ⟨a',g1,h.hk,vs,g2,h2⟩
theorem ya.rd (h:ya σ el k row a l):∃ vs,Rd σ k a l.length vs ∧ ng (l.flatMap row) vs:=by
 obtain ⟨vs,h1,h2⟩:=h.it;exact ⟨vs,h1.rd,h2⟩
theorem ya.get (h:ya σ el k row a l) {i:Nat} {x:α} (hx:l[i]? = some x):∃ b us,a=.loc (.n b) 0 k ∧ b<σ.next ∧ ng (row x) us ∧ (∀ j,j<k → σ.ld (.n b) (i*k+j)=us[j]?):=by
 obtain ⟨vs,h1,h2⟩:=h.it
 have hi:=(List.getElem?_eq_some_iff.1 hx).1
 obtain ⟨b,rfl,hb,bS⟩:=h1.loc (by omega)
 have hlen:=h1.len
 refine ⟨b,(vs.drop (i*k)).take k,rfl,bS,?_,fun j hj=>?_⟩
 ·have:=(h2.drop (i*k)).take k
  have e:((l.flatMap row).drop (i*k)).take k=row x:=by
   apply List.ext_getElem?
   intro j
   rw [List.getElem?_take]
   split
   ·rename_i hj
    rw [List.getElem?_drop,GM h.hk _ _ _ hj,hx];rfl
   ·rename_i hj
    rw [List.getElem?_eq_none]
    rw [h.hk];omega
  rw [e] at this;exact this
 ·rw [adI,hb,Xv,List.getElem?_take,if_pos hj,List.getElem?_drop]
end bld
theorem ya.new {α:Type} {σ:AH O} {el k b:Nat} {row:α → List TV} (hk:∀ x,(row x).length=k) (h:σ.ai b=some (.cells true el [])) (hb:b<σ.next):ya σ el k row (.loc (.n b) 0 k) []:=⟨hk,[],aN.new (by simp) h hb,.nil⟩
theorem Row.isNil {α:Type} {row:α → List TV} {k:Nat} {a:SA} {l:List α} (h:Row row k a l) (hn:SA.isNil a=true):a=.nil ∧ l=[]:=by
 obtain ⟨vs,h1,_⟩:=h.it
 have:=(h1 Unit ⟨fun _=>none,0⟩).wh
 cases a with
 |nil=>exact ⟨rfl,List.eq_nil_of_length_eq_zero this.1⟩
 |z=>cases hn
 |loc b o e=>cases hn
 |ar=>cases hn
end Go.Abs
namespace Go.Abs
open Go
variable {O:Type}
structure wG (σ aj:AH O) (ts:List TV) (vs:List AV):Prop where
 e:Ext σ aj
 it:∃ L,nu aj ts vs L ∧ ∀ b∈L,σ.next ≤ b
theorem wG.im {σ aj:AH O} {ts:List TV} {vs:List AV} (h:ng ts vs) (e:Ext σ aj):wG σ aj ts vs:=⟨e,[],nu.im h,by simp⟩
theorem wG.nil {σ aj:AH O} (e:Ext σ aj):wG σ aj [] []:=⟨e,[],.nil,by simp⟩
theorem wG.ext {gJ σ aj oS:AH O} {ts:List TV} {vs:List AV} (h:wG σ aj ts vs) (e0:Ext gJ σ) (e:Ext aj oS):wG gJ oS ts vs:=by
 obtain ⟨h1,L,h2,h3⟩:=h
 exact ⟨(e0.trans h1).trans e,L,h2.of e.next fun b hb=>e.ai b (h2.lt b hb),fun b hb=>Nat.le_trans e0.next (h3 b hb)⟩
theorem wG.Kk {gJ σ aj oS:AH O} {ts:List TV} {vs:List AV} (h:wG σ aj ts vs) (e0:gJ.next ≤ σ.next) (e:Ext gJ oS) (hn:aj.next ≤ oS.next) (hb:∀ b,σ.next ≤ b → b<aj.next → oS.ai b=aj.ai b):wG gJ oS ts vs:=by
 obtain ⟨h1,L,h2,h3⟩:=h
 exact ⟨e,L,h2.of hn fun b hm=>hb b (h3 b hm) (h2.lt b hm),fun b hm=>Nat.le_trans e0 (h3 b hm)⟩
theorem wG.app {σ aJ aP:AH O} {ts us:List TV} {vs ws:List AV} (h:wG σ aJ ts vs) (k:wG aJ aP us ws):wG σ aP (ts++us) (vs++ws):=by
 obtain ⟨h1,L,h2,h3⟩:=h
 obtain ⟨k1,K,k2,k3⟩:=k
 refine ⟨h1.trans k1,L++K,(h2.of k1.next fun b hb=>k1.ai b (h2.lt b hb)).app k2 (fun b hb hm=>by have:=h2.lt b hb;have:=k3 b hm;omega),fun b hb=>?_⟩
 rcases List.mem_append.1 hb with hb |hb
 ·exact h3 b hb
 ·exact Nat.le_trans h1.next (k3 b hb)
theorem wG.cons {σ aJ aP:AH O} {t:TV} {us:List TV} {v:AV} {ws:List AV} (h:wG σ aJ [t] [v]) (k:wG aJ aP us ws):wG σ aP (t::us) (v::ws):=h.app k
theorem wG.lf {σ aj:AH O} {x:AV} {us:List TV} {ws:List AV} (hx:x.flat=true) (k:wG σ aj us ws):wG σ aj (.lf x::us) (x::ws):=
 wG.cons (wG.im (σ:=σ) (aj:=σ) (.cons (.lf hx) .nil) (Ext.refl _)) k
theorem wG.still {σ aj oS:AH O} {ts:List TV} {vs:List AV} (h:wG σ aj ts vs) (hn:aj.next ≤ oS.next) (hb:∀ b,σ.next ≤ b → b<aj.next → oS.ai b=aj.ai b):∃ L,nu oS ts vs L ∧ ∀ b∈L,σ.next ≤ b:=by
 obtain ⟨h1,L,h2,h3⟩:=h
 exact ⟨L,h2.of hn fun b hm=>hb b (h3 b hm) (h2.lt b hm),h3⟩
theorem wG.sl {σ aj:AH O} {m el es n:Nat} {a:SA} {cs:List TV} {vs:List AV} (e:Ext σ aj) (o:wN aj el es a n vs) (k:∃ L,nu aj cs vs L ∧ ∀ b∈L,m ≤ b) (ha:∀ b∈SA.bk a,σ.next ≤ b ∧ b<m) (hm:σ.next ≤ m):wG σ aj [.sl el es n cs] [.sl a n]:=by
 obtain ⟨L,k2,k3⟩:=k
 refine ⟨e,(SA.bk a++L)++[],.cons (.sl o k2 fun b hb hl=>by have:=ha b hb;have:=k3 b hl;omega) .nil (by simp),fun b hb=>?_⟩
 simp only [List.append_nil] at hb
 rcases List.mem_append.1 hb with hb |hb
 ·exact (ha b hb).1
 ·exact Nat.le_trans hm (k3 b hb)
theorem wG.ints {σ aj:AH O} {el n:Nat} {a:SA} {xs:List AV} (o:aN aj el 1 a n xs) (hx:xs.all AV.flat=true) (e:Ext σ aj) (ha:∀ b∈SA.bk a,σ.next ≤ b):wG σ aj [.sl el 1 n (xs.map TV.lf)] [.sl a n]:=
 ⟨e,SA.bk a++[],.cons (Ow.leaves o hx) .nil (by simp),fun b hb=>ha b (by simpa using hb)⟩
theorem abj {s:Sm O} {xs:List AV} {σ:AH O} {ts:List TV} {rest:List AV} (hd:∀ t∈ts,t.deep 5) (hr:rest.all AV.flat=true) (h:Ok (s xs σ) fun r=>∃ vs,r.1=.aS (.agg vs::rest) ∧ wG σ r.2 ts vs):Ok (yh s xs σ) fun r=>(∃ vs,r.1=.aS (.agg vs::rest) ∧ ng ts vs) ∧ Ext σ r.2:=by
 refine yp (Q:=fun v=>∃ vs,v=.aS (.agg vs::rest) ∧ ng ts vs) (h.mono ?_)
 rintro ⟨v,aj⟩ ⟨vs,rfl,h1,L,h2,h3⟩
 obtain ⟨Bq,g1,g2⟩:=h2.fz (d:=5) hd
 have:=re.cons (FZ.agg g1) (re.flat (H:=aj.ai) hr) (by simp)
 rw [List.append_nil] at this
 exact ⟨.aS (.agg Bq::rest),L,FZ.aS this,h3,h1,Bq,rfl,g2⟩
theorem aiy {s:Sm O} {xs:List AV} {σ:AH O} {t:TV} (hd:t.deep 7) (h:Ok (s xs σ) fun r=>wG σ r.2 [t] [r.1]):Ok (yh s xs σ) fun r=>Im t r.1 ∧ Ext σ r.2:=by
 refine yp (Q:=fun v=>Im t v) (h.mono ?_)
 rintro ⟨v,aj⟩ ⟨h1,L,h2,h3⟩
 cases h2 with
 |cons h2 hc hd2=>
  cases hc
  obtain ⟨v',g1,g2⟩:=h2.fz (d:=7) hd
  exact ⟨v',_,g1,fun b hb=>h3 b (by simp [hb]),h1,g2⟩
theorem nu.drop {σ:AH O}:∀ {ts:List TV} {vs:List AV} {L:List Nat} (n:Nat),nu σ ts vs L → ∃ L',nu σ (ts.drop n) (vs.drop n) L' ∧ ∀ c∈L',c∈L
 |_,_,L,0,h=>⟨L,by simpa using h,fun _ h=>h⟩
 |_,_,_,n+1,.nil=>⟨[],.nil,by simp⟩
 |_,_,_,n+1,.cons h hc hd=>by
  obtain ⟨L',g1,g2⟩:=hc.drop n
  exact ⟨L',by simpa using g1,fun c hm=>List.mem_append_right _ (g2 c hm)⟩
theorem nu.take {σ:AH O}:∀ {ts:List TV} {vs:List AV} {L:List Nat} (n:Nat),nu σ ts vs L → ∃ L',nu σ (ts.take n) (vs.take n) L' ∧ ∀ c∈L',c∈L
 |_,_,_,0,h=>⟨[],by simpa using nu.nil,by simp⟩
 |_,_,_,n+1,.nil=>⟨[],by simpa using nu.nil,by simp⟩
 |_,_,_,n+1,.cons (L1:=A) h hc hd=>by
  obtain ⟨L',g1,g2⟩:=hc.take n
  refine ⟨A++L',by simpa using nu.cons h g1 (fun b hb hm=>hd b hb (g2 b hm)),fun c hm=>?_⟩
  rcases List.mem_append.1 hm with hm |hm
  ·exact List.mem_append_left _ hm
  ·exact List.mem_append_right _ (g2 c hm)
theorem ya.out {α:Type} {σ aj:AH O} {el k:Nat} {row:α → List TV} {a:SA} {l:List α} (h:ya aj el k row a l) (e:Ext σ aj) (ha:∀ b∈SA.bk a,σ.next ≤ b):wG σ aj [.sl el k l.length (l.flatMap row)] [.sl a l.length]:=by
 obtain ⟨vs,h1,h2⟩:=h.it
 exact ⟨e,(SA.bk a++[])++[],.cons (.sl h1.p (nu.im h2) (by simp)) .nil (by simp),fun b hb=>ha b (by simpa using hb)⟩
structure oW {α:Type} (base:Nat) (σ:AH O) (el k:Nat) (row:α → List TV) (a:SA) (l:List α):Prop where
 hk:∀ x,(row x).length=k
 it:∃ vs L,wN σ el k a l.length vs ∧ nu σ (l.flatMap row) vs L ∧ (∀ b∈SA.bk a,b∉L) ∧ ∀ b∈SA.bk a++L,base ≤ b
section aqp
variable {α:Type} {base:Nat} {σ:AH O} {el k:Nat} {row:α → List TV} {a:SA} {l:List α}
theorem oW.nil (base:Nat) (σ:AH O) (el:Nat) (hk:∀ x,(row x).length=k):oW base σ el k row .nil []:=⟨hk,[],[],(aN.nil _ _ _).p,.nil,by simp [SA.bk],by simp [SA.bk]⟩
theorem oW.z (base:Nat) (σ:AH O) (el:Nat) (hk:∀ x,(row x).length=k):oW base σ el k row .z []:=⟨hk,[],[],(aN.z _ _ _).p,.nil,by simp [SA.bk],by simp [SA.bk]⟩
theorem oW.new {b:Nat} (hk:∀ x,(row x).length=k) (h:σ.ai b=some (.cells true el [])) (hb:b<σ.next) (h0:base ≤ b):oW base σ el k row (.loc (.n b) 0 k) []:=⟨hk,[],[],(aN.new (by simp) h hb).p,.nil,by simp,by simp [SA.bk];exact h0⟩
theorem oW.Kk {aj:AH O} (h:oW base σ el k row a l) (hn:σ.next ≤ aj.next) (hb:∀ b,base ≤ b → b<σ.next → aj.ai b=σ.ai b):oW base aj el k row a l:=by
 obtain ⟨hk,vs,L,h1,h2,h3,h4⟩:=h
 exact ⟨hk,vs,L,h1.of hn fun b hm=>hb b (h4 b (List.mem_append_left _ hm)) (h1.lt b hm),h2.of hn fun b hm=>hb b (h4 b (List.mem_append_right _ hm)) (h2.lt b hm),h3,h4⟩
theorem oW.ext {aj:AH O} (h:oW base σ el k row a l) (e:Ext σ aj):oW base aj el k row a l:=h.Kk e.next fun b _ hb=>e.ai b hb
theorem oW.bk (h:oW base σ el k row a l):∀ b∈SA.bk a,base ≤ b ∧ b<σ.next:=by
 obtain ⟨hk,vs,L,h1,h2,h3,h4⟩:=h
 exact fun b hb=>⟨h4 b (by simp [hb]),h1.lt b hb⟩
theorem oW.app {aP cE:AH O} {m:List α} {new:List AV} {nid:Nat} (h:oW base σ el k row a l) (hb:base ≤ σ.next) (n:wG σ aP (m.flatMap row) new) (e:Ext aP cE) (h1:aP.next ≤ nid) (h2:nid<cE.next):
  Ok (cE.bP nid el k a l.length m.length new) fun r=>∃ a',r.1=.sl a' (l.length+m.length) ∧ oW base r.2 el k row a' (l++m) ∧ r.2.next=cE.next ∧ (∀ b,b≠nid → b∉SA.bk a → r.2.ai b=cE.ai b) ∧ ∀ b∈SA.bk a',b=nid ∨ b∈SA.bk a:=by
 obtain ⟨hk,vs,L,p1,p2,p3,p4⟩:=h
 obtain ⟨e1,K,n1,n2⟩:=n
 have E:=e1.trans e
 have q1:wN cE el k a l.length vs:=p1.of E.next fun b hm=>E.ai b (p1.lt b hm)
 have q2:nu cE (l.flatMap row) vs L:=p2.of E.next fun b hm=>E.ai b (p2.lt b hm)
 have q3:nu cE (m.flatMap row) new K:=n1.of e.next fun b hm=>e.ai b (n1.lt b hm)
 have len:=e1.next
 refine (aef q1 (fun hm=>by have:=p1.lt _ hm;omega) h2 (by rw [n1.len,Q6 hk])).mono ?_
 rintro ⟨q,ky⟩ ⟨a',g1,g2,g3,g4,g5⟩
 simp only at g1 g2 g3 g4
 have all:=q2.app q3 fun b hb hm=>by have:=p2.lt b hb;have:=n2 b hm;omega
 refine ⟨a',g1,⟨hk,vs++new,L++K,?_,?_,fun b hb hm=>?_,fun b hb=>?_⟩,g3,g4,fun b hb=>.inl (g5 b hb)⟩
 ·rw [List.length_append];exact g2
 ·rw [List.flatMap_append]
  refine all.of (by show cE.next ≤ ky.next;omega) fun b hb=>?_
  rcases List.mem_append.1 hb with hb |hb
  ·exact g4 b (by have:=p2.lt b hb;omega) fun hm=>p3 b hm hb
  ·exact g4 b (by have:=n1.lt b hb;omega) fun hm=>by have:=p1.lt b hm;have:=n2 b hb;omega
 ·have:=g5 b hb
  rcases List.mem_append.1 hm with hm |hm
  ·have:=p2.lt b hm;omega
  ·have:=n1.lt b hm;omega
 ·rcases List.mem_append.1 hb with hb |hb
  ·have:=g5 b hb;omega
  ·rcases List.mem_append.1 hb with hb |hb
   ·exact p4 b (by simp [hb])
   ·have:=n2 b hb;omega
theorem oW.alB {aP cE:AH O} {x:α} {new:List AV} {nid:Nat} (h:oW base σ el k row a l) (hb:base ≤ σ.next) (n:wG σ aP (row x) new) (e:Ext aP cE) (h1:aP.next ≤ nid) (h2:nid<cE.next):
  Ok (cE.bP nid el k a l.length 1 new) fun r=>∃ a',r.1=.sl a' (l.length+1) ∧ oW base r.2 el k row a' (l++[x]) ∧ r.2.next=cE.next ∧ (∀ b,b≠nid → b∉SA.bk a → r.2.ai b=cE.ai b) ∧ ∀ b∈SA.bk a',b=nid ∨ b∈SA.bk a:=
 h.app (m:=[x]) hb (by simpa using n) e h1 h2
theorem oW.all (h:oW base σ el k row a l):∃ vs K,σ.bC a l.length k=some vs ∧ nu σ (l.flatMap row) vs K ∧ ∀ b∈K,base ≤ b ∧ b<σ.next:=by
 obtain ⟨hk,vs,L,p1,p2,p3,p4⟩:=h
 exact ⟨vs,L,p1.rd.bC,p2,fun b hb=>⟨p4 b (by simp [hb]),p2.lt b hb⟩⟩
theorem oW.out {gJ:AH O} (h:oW base σ el k row a l) (e:Ext gJ σ) (hb:gJ.next ≤ base):wG gJ σ [.sl el k l.length (l.flatMap row)] [.sl a l.length]:=by
 obtain ⟨hk,vs,L,h1,h2,h3,h4⟩:=h
 exact ⟨e,(SA.bk a++L)++[],.cons (.sl h1 h2 h3) .nil (by simp),fun b hm=>Nat.le_trans hb (h4 b (by simpa using hm))⟩
theorem oW.get (h:oW base σ el k row a l) {i:Nat} {x:α} (hx:l[i]? = some x):∃ b us L,a=.loc (.n b) 0 k ∧ base ≤ b ∧ b<σ.next ∧ nu σ (row x) us L ∧ (∀ c∈L,base ≤ c ∧ c<σ.next ∧ c≠b) ∧ ∀ j,j<k → σ.ld (.n b) (i*k+j)=us[j]? := by
 obtain ⟨hk,vs,L,h1,h2,h3,h4⟩:=h
 have hi:=(List.getElem?_eq_some_iff.1 hx).1
 obtain ⟨b,rest,rfl,hb,bS⟩:=h1.loc (by omega)
 have hle:i*k+k ≤ l.length*k:=by rw [← Nat.succ_mul];exact Nat.mul_le_mul_right _ hi
 have hvl:=h1.len
 obtain ⟨L0,g0,g3⟩:=h2.drop (i*k)
 obtain ⟨L',g1,g4⟩:=g0.take k
 have g2:=fun c hc=>g3 c (g4 c hc)
 have e:((l.flatMap row).drop (i*k)).take k=row x:=by
  apply List.ext_getElem?
  intro j
  rw [List.getElem?_take]
  split
  ·rename_i hj
   rw [List.getElem?_drop,GM hk _ _ _ hj,hx];rfl
  ·rename_i hj
   rw [List.getElem?_eq_none]
   rw [hk];omega
 rw [e] at g1
 refine ⟨b,_,L',rfl,h4 b (by simp [SA.bk]),bS,g1,fun c hc=>⟨h4 c (by simp [g2 c hc]),h2.lt c (g2 c hc),fun e=>h3 b (by simp [SA.bk]) (e▸g2 c hc)⟩,fun j hj=>?_⟩
 rw [adI,hb,Xv,List.getElem?_take,if_pos hj,List.getElem?_drop,List.getElem?_append_left (by omega)]
end aqp
end Go.Abs
namespace Go.Abs
open Go
variable {O:Type}
structure HV where
 p:Int
 r:Int
 site:Int
 pR:Int
 bW:Bool
 deriving DecidableEq
structure NV where
 h:HV
 P:List Int
 R:List Int
 deriving DecidableEq
structure FV where
 nodes:List NV
 roots:List Int
 bn:List Int
 deriving DecidableEq
def HV.cs (h:HV):List AV:=[.i .i64 h.p,.i .i64 h.r,.i .i64 h.site,.i .i64 h.pR,.b h.bW]
def elK:IntKind → Nat |.i64=>3 |.u64=>22 |.u8=>5 |_=>0
def ints (k:IntKind) (l:List Int):TV:=.sl (elK k) 1 l.length (l.flatMap (TE k))
theorem Ds {k:IntKind} {l:List Int} {v:AV} (h:Im (ints k l) v):∃ a,v=.sl a l.length ∧ bF k a l:=Row.of (BR k) h rfl
theorem yq {k:IntKind} {l:List Int} {a:SA} (h:bF k a l):Im (ints k l) (.sl a l.length):=h.im _
def NV.row (x:NV):List TV:=x.h.cs.map TV.lf++[ints .i64 x.P,ints .u64 x.R]
theorem NV.len (x:NV):x.row.length=7:=rfl
def NV.cells (x:NV) (a b:SA):List AV:=[.i .i64 x.h.p,.i .i64 x.h.r,.i .i64 x.h.site,.i .i64 x.h.pR,.b x.h.bW,.sl a x.P.length,.sl b x.R.length]
theorem NV.un {x:NV} {us:List AV} (h:ng x.row us):∃ a b,us=x.cells a b ∧ bF .i64 a x.P ∧ bF .u64 b x.R:=by
 unfold NV.row HV.cs at h
 cases h with
 |cons h0 h=>cases h with
 |cons h1 h=>cases h with
 |cons h2 h=>cases h with
 |cons h3 h=>cases h with
 |cons h4 h=>cases h with
 |cons h5 h=>cases h with
 |cons h6 h=>cases h with
 |nil=>
  obtain ⟨a,rfl,ia⟩:=Ds h5
  obtain ⟨b,rfl,ib⟩:=Ds h6
  rw [h0.leaf,h1.leaf,h2.leaf,h3.leaf,h4.leaf]
  exact ⟨a,b,rfl,ia,ib⟩
theorem NV.mk_ {x:NV} {a b:SA} (ha:bF .i64 a x.P) (hb:bF .u64 b x.R):ng x.row (x.cells a b):=
 .cons (.lf rfl) (.cons (.lf rfl) (.cons (.lf rfl) (.cons (.lf rfl) (.cons (.lf rfl) (.cons (yq ha) (.cons (yq hb) .nil))))))
abbrev JJ (a:SA) (l:List NV):Prop:=Row NV.row 7 a l
structure FV.At (F:FV) (v:AV):Prop where
 it:∃ a b c,v=.agg [.sl a F.nodes.length,.sl b F.roots.length,.sl c F.bn.length] ∧ JJ a F.nodes ∧ bF .i64 b F.roots ∧ bF .i64 c F.bn
theorem Row.node {a:SA} {l:List NV} (h:JJ a l) {i:Nat} {x:NV} (hx:l[i]? = some x):∃ b o c d,a=.loc b o 7 ∧ bF .i64 c x.P ∧ bF .u64 d x.R ∧ ∀ (O:Type) (σ:AH O),
  σ.ld b (o+i*7)=some (.i .i64 x.h.p) ∧ σ.ld b (o+i*7+1)=some (.i .i64 x.h.r) ∧ σ.ld b (o+i*7+2)=some (.i .i64 x.h.site) ∧ σ.ld b (o+i*7+3)=some (.i .i64 x.h.pR) ∧ σ.ld b (o+i*7+4)=some (.b x.h.bW) ∧ σ.ld b (o+i*7+5)=some (.sl c x.P.length) ∧ σ.ld b (o+i*7+6)=some (.sl d x.R.length):=by
 obtain ⟨b,o,us,e,h1,h2⟩:=h.get hx
 obtain ⟨c,d,rfl,hc,hd⟩:=NV.un h1
 refine ⟨b,o,c,d,e,hc,hd,fun O σ=>⟨?_,?_,?_,?_,?_,?_,?_⟩⟩
 ·exact h2 O σ 0 (by decide)
 ·exact h2 O σ 1 (by decide)
 ·exact h2 O σ 2 (by decide)
 ·exact h2 O σ 3 (by decide)
 ·exact h2 O σ 4 (by decide)
 ·exact h2 O σ 5 (by decide)
 ·exact h2 O σ 6 (by decide)
structure NV.Gk (x:NV):Prop where
 p:x.P.length ≤ 100000
 r:x.R.length ≤ 100000
structure FV.Gk (F:FV):Prop where
 n:F.nodes.length ≤ 100000
 x:∀ x∈F.nodes,x.Gk
 r:F.roots.length ≤ 100000
 w:F.bn.length ≤ 100000
theorem XB {S T:Type} {f:S → Option (S ⊕ T)} {l m:List Int} (hl:l.length=m.length) (I:Nat → S → Prop) (Q:T → Prop) (hs:∀ k s,k<l.length → I k s → Ok (f s) fun r=>if l[k]? = m[k]? then (match r with |.inl s'=>I (k+1) s' | .inr _=>False) else (match r with |.inl _=>False |.inr t=>l≠m → Q t))
  (he:∀ s,I l.length s → Ok (f s) fun r=>match r with |.inl _=>False |.inr t=>l=m → Q t) {s:S} (h0:I 0 s):Ok (aQ f s) Q:=by
 refine Ok.count l.length (fun k s=>I k s ∧ ∀ j,j<k → l[j]? = m[j]?) ?_ ?_ ⟨h0,fun j hj=>by omega⟩
 ·rintro k s hk ⟨h1,h2⟩
  refine (hs k s hk h1).mono fun r hr=>?_
  by_cases c:l[k]? = m[k]?
  ·rw [if_pos c] at hr
   cases r with
   |inl s'=>exact ⟨hr,fun j hj=>by
     by_cases e:j=k
     ·subst e;exact c
     ·exact h2 j (by omega)⟩
   |inr t=>exact hr.elim
  ·rw [if_neg c] at hr
   cases r with
   |inl s'=>exact hr.elim
   |inr t=>exact hr fun e=>c (by rw [e])
 ·rintro s ⟨h1,h2⟩
  refine (he s h1).mono fun r hr=>?_
  cases r with
  |inl s'=>exact hr.elim
  |inr t=>
   refine hr (List.ext_getElem? fun j=>?_)
   by_cases c:j<l.length
   ·exact h2 j c
   ·rw [List.getElem?_eq_none (by omega),List.getElem?_eq_none (by omega)]
end Go.Abs
set_option linter.unusedSimpArgs false
namespace Go.Abs
open Go
variable {O:Type}
theorem rF (k:IntKind) (l:List Int) (d:Nat):(ints k l).deep (d+1):=by
 unfold ints TV.deep
 intro t ht
 obtain ⟨x,_,hx⟩:=List.mem_flatMap.1 ht
 simp [TE] at hx
 subst hx
 unfold TV.deep;trivial
theorem Dt (v:AV) (d:Nat):(TV.lf v).deep d:=by unfold TV.deep;trivial
theorem NV.deep (x:NV) (d:Nat):∀ t∈x.row,t.deep (d+1):=by
 intro t ht
 simp only [NV.row,HV.cs,List.map_cons,List.map_nil,List.cons_append,List.nil_append,List.mem_cons,List.not_mem_nil,or_false] at ht
 rcases ht with rfl |rfl |rfl |rfl |rfl |rfl |rfl
 all_goals first |exact Dt _ _ |exact rF _ _ _
theorem Zl {α:Type} {row:α → List TV} {el k n d:Nat} {l:List α} (h:∀ x,∀ t∈row x,t.deep d):(TV.sl el k n (l.flatMap row)).deep (d+1):=by
 unfold TV.deep
 intro t ht
 obtain ⟨x,_,hx⟩:=List.mem_flatMap.1 ht
 exact h x t hx
def FV.YU (el:Nat) (F:FV):List TV:=[.sl el 7 F.nodes.length (F.nodes.flatMap NV.row),ints .i64 F.roots,ints .i64 F.bn]
theorem FV.adS {el:Nat} {F:FV} {vs:List AV} (h:ng (F.YU el) vs):F.At (.agg vs):=by
 unfold FV.YU at h
 cases h with
 |cons h0 h=>cases h with
 |cons h1 h=>cases h with
 |cons h2 h=>cases h with
 |nil=>
  obtain ⟨a,rfl,ia⟩:=Row.of NV.len h0 rfl
  obtain ⟨b,rfl,ib⟩:=Ds h1
  obtain ⟨c,rfl,ic⟩:=Ds h2
  exact ⟨a,b,c,rfl,ia,ib,ic⟩
theorem FV.alC {el:Nat} (G:FV) {d:Nat}:∀ t∈G.YU el,t.deep (d+2):=by
 intro t ht
 simp only [FV.YU,List.mem_cons,List.not_mem_nil,or_false] at ht
 rcases ht with rfl |rfl |rfl
 ·exact Zl fun x=>NV.deep x d
 ·exact rF _ _ _
 ·exact rF _ _ _
end Go.Abs
