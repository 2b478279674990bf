/- Laid together by program (what the claim does not reach is left out): RegA. -/
import Derived.Test.YtoafhcjocdjkjaaGreatDoorZC01
import Derived.Orders
set_option linter.all false
set_option maxRecDepth 100000
open Go.Proofs.Tryz
noncomputable section
section
namespace Ev
open Go
def Ends(P:Program)(f:Nat)(av:List V)(bs:List Blk)(res:V)(out:List Blk):Prop:=
 ∀(w:World) (F0:Nat->Prop) (ρ0:Rho) (ca:Array Value),Core ρ0 F0 (ZBA 0 bs) w->(∀id l,ρ0 id=some l->id<bs.length)->ca.size=av.length->
  (∀(i:Nat) v,av[i]?=some v-> ∃c,ca[i]?=some c/\RelA ρ0 F0 w v c)->
  Calls P f ca w λen w'=> ∃c ρ1 F1,en= .returned c/\Core ρ1 F1 (ZBA 0 out) w'/\(∀id l,ρ0 id=some l->ρ1 id=some l)/\(∀id l,ρ1 id=some l->id<out.length)/\
   RelT ρ1 F1 w' res c/\Chg ρ0.M w w'/\(∀b,ρ1.M b->ρ0.M b\/w.heap.size<=b)/\(∀b,F1 b->F0 b\/w.heap.size<=b)
def ZKf(P:Program)(f:Nat)(e:Entry):Prop:=
 ∀(R:Type) (av:List V) (bs:List Blk) (K:V->List Blk->Option R) (r:R),e.sem R av bs K=some r-> ∃res out,K res out=some r/\Ends P f av bs res out
structure EnvOK(P:Program)(E:Env):Prop where
 ent: ∀f e,E f=some e->ZKf P f e
 fn: ∀f e,E f=some e-> ∃fn,P.funcs[f]?=some fn/\fn.body.isNone=false/\fn.name≠ "runtime.NumGoroutine"
structure Told(ρ:Rho)(F:Nat->Prop)(ids frz:List Nat)(ρ0:Rho)(F0:Nat->Prop):Prop where
 ids: ∀j id,ids[j]?=some id->ρ0 j=ρ id
 stab: ∀b,F b->F0 b
 frz: ∀id∈frz,∀loc b,ρ id=some loc->loc.block=some b->F0 b
theorem ZKg{R:Type}{st:ZAI} : ∀ {cap:List V} {frz:List Nat} {K:List V->List Nat->Option R} {r:R},capC st frz cap K=some r->
  ∃cap' frz',K cap' frz'=some r/\(∀id∈frz,id∈frz')/\cap'.length=cap.length/\ ∀ρ F w ids ρ0 F0,Core ρ F st w->Told ρ F ids frz' ρ0 F0-> ∀(i:Nat) v c,cap[i]?=some v->RelB ρ F w v c-> ∃v',cap'[i]?=some v'/\RelB ρ0 F0 w v' c
 | [],frz,K,r,h=>⟨[],frz,h,λ_ h=>h,rfl,λρ F w ids ρ0 F0 _ _ i v c h=>by simp at h⟩
 | x::cap,frz,K,r,h=>by
  by_cases hx: ∃id off,x= .lptr id off
  ·obtain⟨id,off,rfl⟩:=hx
   simp only[capC]at h
   split at h<;>try (cases h;done)
   rename_i cs hl
   obtain⟨hle,h⟩:=ZF0 h
   cases hp:allB V.plain (cs.drop off)<;>simp only[hp,al_cond_true,al_cond_false]at h
   ·cases h
   obtain⟨cap',frz',hk,h1,h2,h3⟩:=ZKg h
   refine⟨_,_,hk,λi hi=>h1 i (by simp[hi]),by simp[h2],λρ F w ids ρ0 F0 H T i v c hv r=> ?_⟩
   cases i with
   | succ i=>simpa using h3 ρ F w ids ρ0 F0 H T i v c (by simpa using hv) r
   | zero=>
    simp at hv;subst hv
    obtain⟨b,n,hρ,e⟩:=r
    refine⟨_,rfl,b,off,e,T.frz id (h1 id (by simp)) _ b hρ rfl,hp,λj u hu=> ?_⟩
    have hc:=(ZNW H hρ hl).drop (n:=off)
    rw[List.getElem?_map]at hu
    cases hj:(cs.drop off)[j]? with
    | none=>simp[hj]at hu
    | some y=>
     simp[hj]at hu;subst hu
     obtain⟨c',h5,r5⟩:=hc j y hj
     have hy:=ZCB hp y (al_mem_get hj)
     have r':RelB ρ F w y c':=by rcases ZDa hy with ⟨k,n,rfl⟩ | ⟨b,rfl⟩ | ⟨s,rfl⟩<;>exact r5
     rw[(RelB.plain hy).mp r',Nat.zero_add]at h5
     exact h5
  ·have h':cond x.plain (capC st frz cap λys f=>K (x::ys) f) none=some r:=by
    cases x<;>first | exact h | exact absurd ⟨_,_,rfl⟩ hx
   cases hp:x.plain<;>simp only[hp,al_cond_true,al_cond_false]at h'
   ·cases h'
   obtain⟨cap',frz',hk,h1,h2,h3⟩:=ZKg h'
   refine⟨_,_,hk,h1,by simp[h2],λρ F w ids ρ0 F0 H T i v c hv r=> ?_⟩
   cases i with
   | succ i=>simpa using h3 ρ F w ids ρ0 F0 H T i v c (by simpa using hv) r
   | zero=>simp at hv;subst hv;exact⟨_,rfl,(RelB.plain hp).mpr ((RelB.plain hp).mp r)⟩
structure Grow(ids frz ids' frz':List Nat):Prop where
 pre: ∃l,ids'=ids++l
 sub: ∀id∈frz,id∈frz'
theorem Grow.refl(ids frz:List Nat):Grow ids frz ids frz:=⟨⟨[],by simp⟩,λ_ h=>h⟩
theorem Grow.trans{a b c d e f:List Nat}(h:Grow a b c d)(k:Grow c d e f):Grow a b e f:=by
 obtain⟨⟨l,rfl⟩,h2⟩:=h
 obtain⟨⟨m,rfl⟩,k2⟩:=k
 exact⟨⟨l++m,by simp⟩,λid hid=>k2 id (h2 id hid)⟩
theorem Told.mono{ρ:Rho}{F:Nat->Prop}{ids frz ids' frz':List Nat}{ρ0:Rho}{F0:Nat->Prop}(g:Grow ids frz ids' frz')(T:Told ρ F ids' frz' ρ0 F0):Told ρ F ids frz ρ0 F0:=by
 obtain⟨⟨l,rfl⟩,h2⟩:=g
 refine⟨λj id hj=>T.ids j id ?_,T.stab,λid hid=>T.frz id (h2 id hid)⟩
 rw[List.getElem?_append_left (al_get_iff.mp hj).1];exact hj
def ZDu(st:ZAI)(ids:List Nat):Prop:= ∀id∈ids,∃b,look st id=some b/\ ∀cs,b= .box cs->allB V.idfree cs=true
theorem ZNz{R:Type}{st:ZAI}{ids frz:List Nat}{lf:Lf}{v:V}{K:V->List Nat->List Nat->Option R}{r:R}(h:argC st ids frz lf v K=some r):
  ∃v' ids' frz',K v' ids' frz'=some r/\Grow ids frz ids' frz'/\(ZDu st ids->ZDu st ids')/\
   ∀ρ F w ρ0 F0 c,Core ρ F st w->Told ρ F ids' frz' ρ0 F0->RelC ρ F w v c->RelC ρ0 F0 w v' c:=by
 cases lf with
 | c=>
  simp only[argC]at h
  cases v<;>simp only at h<;>try (cases h;done)
  all_goals exact⟨_,_,_,h,Grow.refl _ _,id,λρ F w ρ0 F0 c _ _ r=>r⟩
 | r t=>
  simp only[argC]at h
  cases v<;>simp only at h<;>try (cases h;done)
  case undef=>exact⟨_,_,_,h,Grow.refl _ _,id,λρ F w ρ0 F0 c _ _ r=>r⟩
  case nils=>exact⟨_,_,_,h,Grow.refl _ _,id,λρ F w ρ0 F0 c _ _ (r:c=_)=>⟨none,0,r,Nat.le_refl _,.inl rfl⟩⟩
  case lst t' l=>
   split at h<;>try (cases h;done)
   rename_i l' hc
   obtain⟨rfl,rfl⟩:=ZCE hc
   exact⟨_,_,_,h,Grow.refl _ _,id,λρ F w ρ0 F0 c _ T ⟨a,cap,e,h1,h2⟩=>⟨a,cap,e,h1,h2.imp id λ⟨b,s,e,hF,hat⟩=>⟨b,s,e,T.stab b hF,hat⟩⟩⟩
  case own i=>
   split at h<;>try (cases h;done)
   rename_i t' l hl
   split at h<;>try (cases h;done)
   rename_i l' hc
   obtain⟨rfl,rfl⟩:=ZCE hc
   refine⟨_,_,_,h,⟨⟨[],by simp⟩,λid hid=>by simp[hid]⟩,id,λρ F w ρ0 F0 c H T ⟨t0,a,len,cap,hρ,e⟩=> ?_⟩
   obtain⟨rfl,h1,h2,h3⟩:=ZCi H hρ hl
   refine⟨a,cap,by rw[e,<-h1],by simp;omega,?_⟩
   by_cases hn:l=[]
   ·exact .inl hn
   rcases h3 with h3 | ⟨b,s,rfl,hat⟩
   ·exact .inl h3
   ·have:0<l.length:=List.length_pos_iff.mpr hn
    exact .inr ⟨b,s,rfl,T.frz i (by simp) _ b hρ (by simp[Loc.block];omega),hat⟩
  case ownv i lo hi=>
   split at h<;>try (cases h;done)
   rename_i t' l hl
   split at h<;>try (cases h;done)
   rename_i l' hc
   obtain⟨rfl,rfl⟩:=ZCE hc
   refine⟨_,_,_,h,⟨⟨[],by simp⟩,λid hid=>by simp[hid]⟩,id,λρ F w ρ0 F0 c H T ⟨t0,a,len,cap,hρ,g1,g2,g3,e⟩=> ?_⟩
   obtain⟨rfl,h1,h2,h3⟩:=ZCi H hρ hl
   obtain⟨a',cap',e',k1,k2⟩:=ZIT (l:=l) (cap:=cap) g1 (by omega) (by omega) h3
   refine⟨a',cap',by rw[e];exact e',k1,?_⟩
   rcases k2 with k2 | ⟨b,s,rfl,hat⟩
   ·exact .inl k2
   ·by_cases hn:(l.take hi).drop lo=[]
    ·exact .inl hn
    ·right
     refine⟨b,s,rfl,?_,hat⟩
     have hpos:0<((l.take hi).drop lo).length:=List.length_pos_iff.mpr hn
     simp at hpos
     rcases h3 with rfl | ⟨b0,s0,rfl,_⟩
     ·simp at hpos
     ·simp only[Value.slice.injEq]at e'
      rw[al_if_neg]at e'
      have:=e'.1
      simp only[Option.map_some,ZBE,Option.some.injEq,Addr.mk.injEq]at this
      rw[<-this.1]
      exact T.frz i (by simp) _ b0 hρ (by simp[Loc.block];omega)
 | m t=>
  simp only[argC]at h
  cases v<;>simp only at h<;>try (cases h;done)
  rename_i i
  split at h<;>try (cases h;done)
  rename_i t' l hl
  split at h<;>try (cases h;done)
  refine⟨_,_,_,h,⟨⟨[i],rfl⟩,λ_ h=>h⟩,λhh id hid=> ?_,λρ F w ρ0 F0 c H T ⟨t0,a,len,cap,hρ,e⟩=>⟨t0,a,len,cap,by rw[T.ids ids.length i (by simp)];exact hρ,e⟩⟩
  rcases List.mem_append.mp hid with hid | hid
  ·exact hh id hid
  ·simp at hid;subst hid;exact⟨_,hl,λcs e=>by cases e⟩
 | p=>
  simp only[argC]at h
  split at h<;>try (cases h;done)
  rename_i i
  split at h<;>try (cases h;done)
  rename_i cs hl
  cases hp:allB V.idfree cs<;>simp only[hp,al_cond_true,al_cond_false]at h
  ·cases h
  refine⟨_,_,_,h,⟨⟨[i],rfl⟩,λ_ h=>h⟩,λhh id hid=> ?_,λρ F w ρ0 F0 c H T ⟨b,n,hρ,e⟩=>⟨b,n,by rw[T.ids ids.length i (by simp)];exact hρ,e⟩⟩
  rcases List.mem_append.mp hid with hid | hid
  ·exact hh id hid
  ·simp at hid;subst hid;exact⟨_,hl,λcs' e=>by cases e;exact hp⟩
 | f=>
  simp only[argC]at h
  cases v<;>simp only at h<;>try (cases h;done)
  rename_i g cap
  obtain⟨cap',frz',hk,h1,h2,h3⟩:=ZKg h
  refine⟨_,_,_,hk,⟨⟨[],by simp⟩,h1⟩,id,λρ F w ρ0 F0 c H T ⟨ca,e,hs,hr⟩=>⟨ca,e,by rw[hs,h2],λi v' hv'=> ?_⟩⟩
  have hi:i<cap.length:=by have:=(al_get_iff.mp hv').1;omega
  obtain⟨c,hc,r⟩:=hr i _ (al_get_get hi)
  obtain⟨v2,e2,r2⟩:=h3 ρ F w ids ρ0 F0 H T i _ c (al_get_get hi) r
  rw[hv']at e2;cases e2
  exact⟨c,hc,r2⟩
 | s=>
  simp only[argC]at h
  cases v<;>simp only at h<;>try (cases h;done)
  exact⟨_,_,_,h,Grow.refl _ _,id,λρ F w ρ0 F0 c _ T ⟨b,s,e,hF,hp,hat⟩=>⟨b,s,e,T.stab b hF,hp,hat⟩⟩
theorem ZN0{R:Type}{st:ZAI} : ∀ {ls:List Lf} {vs:List V} {ids frz:List Nat} {K:List V->List Nat->List Nat->Option R} {r:R},ZCX st ls vs ids frz K=some r->
  ∃vs' ids' frz',K vs' ids' frz'=some r/\Grow ids frz ids' frz'/\(ZDu st ids->ZDu st ids')/\vs'.length=vs.length/\
   ∀ρ F w ρ0 F0,Core ρ F st w->Told ρ F ids' frz' ρ0 F0-> ∀(i:Nat) v' c,vs'[i]?=some v'->(∀v,vs[i]?=some v->RelC ρ F w v c)->RelC ρ0 F0 w v' c
 | [],[],ids,frz,K,r,h=>⟨[],ids,frz,h,Grow.refl _ _,id,rfl,λρ F w ρ0 F0 _ _ i v' c h=>by simp at h⟩
 | l::ls,v::vs,ids,frz,K,r,h=>by
  simp only[ZCX]at h
  obtain⟨v1,ids1,frz1,h,g1,k1,s1⟩:=ZNz h
  obtain⟨vs2,ids2,frz2,h,g2,k2,l2,s2⟩:=ZN0 h
  refine⟨_,_,_,h,g1.trans g2,λhh=>k2 (k1 hh),by simp[l2],λρ F w ρ0 F0 H T i v' c hv' hr=> ?_⟩
  cases i with
  | zero=>simp at hv';subst hv';exact s1 ρ F w ρ0 F0 c H (T.mono g2) (hr v rfl)
  | succ i=>exact s2 ρ F w ρ0 F0 H T i v' c (by simpa using hv') (λu hu=>hr u (by simpa using hu))
 | [],_::_,_,_,_,_,h=>by simp[ZCX]at h
 | _::_,[],_,_,_,_,h=>by simp[ZCX]at h
theorem ZTg{R:Type}{st:ZAI}{ids frz:List Nat}{sh:Sh}{v:V}{K:V->List Nat->List Nat->Option R}{r:R}(h:argA st ids frz sh v K=some r):
  ∃v' ids' frz',K v' ids' frz'=some r/\Grow ids frz ids' frz'/\(ZDu st ids->ZDu st ids')/\
   ∀ρ F w ρ0 F0 c,Core ρ F st w->Told ρ F ids' frz' ρ0 F0->RelT ρ F w v c->RelA ρ0 F0 w v' c:=by
 cases sh with
 | one l=>
  simp only[argA]at h
  obtain⟨v',ids',frz',hk,g,k,s⟩:=ZNz h
  refine⟨v',ids',frz',hk,g,k,λρ F w ρ0 F0 c H T r=> ?_⟩
  have hc:(∃vs,v= .tup vs)\/(∃cs,v= .agg cs)\/RelC ρ F w v c:=by
   cases v<;>first | exact .inl ⟨_,rfl⟩ | exact .inr (.inl ⟨_,rfl⟩) | exact .inr (.inr r)
  rcases hc with ⟨vs,rfl⟩ | ⟨cs,rfl⟩ | hc
  ·cases l<;>simp[argC]at h
  ·cases l<;>simp[argC]at h
  ·have:=s ρ F w ρ0 F0 c H T hc
   cases v'<;>first | exact this | exact this.elim
 | agg ls=>
  cases v<;>simp only[argA]at h<;>try (cases h;done)
  rename_i cs
  obtain⟨cs',ids',frz',hk,g,k,l,s⟩:=ZN0 h
  refine⟨_,ids',frz',hk,g,k,λρ F w ρ0 F0 c H T ⟨ca,e,hs,hr⟩=>⟨ca,e,by rw[hs,l],λi v' hv'=> ?_⟩⟩
  have hi:i<cs.length:=by have:=(al_get_iff.mp hv').1;omega
  obtain⟨c,hc,r⟩:=hr i _ (al_get_get hi)
  exact⟨c,hc,s ρ F w ρ0 F0 H T i v' c hv' λv hv=>by rw[al_get_get hi]at hv;cases hv;exact r⟩
theorem ZN1{R:Type}{st:ZAI} : ∀ {ss:List Sh} {vs:List V} {ids frz:List Nat} {K:List V->List Nat->List Nat->Option R} {r:R},ZCY st ss vs ids frz K=some r->
  ∃vs' ids' frz',K vs' ids' frz'=some r/\Grow ids frz ids' frz'/\(ZDu st ids->ZDu st ids')/\vs'.length=vs.length/\
   ∀ρ F w ρ0 F0,Core ρ F st w->Told ρ F ids' frz' ρ0 F0-> ∀(i:Nat) v' c,vs'[i]?=some v'->(∀v,vs[i]?=some v->RelT ρ F w v c)->RelA ρ0 F0 w v' c
 | [],[],ids,frz,K,r,h=>⟨[],ids,frz,h,Grow.refl _ _,id,rfl,λρ F w ρ0 F0 _ _ i v' c h=>by simp at h⟩
 | l::ls,v::vs,ids,frz,K,r,h=>by
  simp only[ZCY]at h
  obtain⟨v1,ids1,frz1,h,g1,k1,s1⟩:=ZTg h
  obtain⟨vs2,ids2,frz2,h,g2,k2,l2,s2⟩:=ZN1 h
  refine⟨_,_,_,h,g1.trans g2,λhh=>k2 (k1 hh),by simp[l2],λρ F w ρ0 F0 H T i v' c hv' hr=> ?_⟩
  cases i with
  | zero=>simp at hv';subst hv';exact s1 ρ F w ρ0 F0 c H (T.mono g2) (hr v rfl)
  | succ i=>exact s2 ρ F w ρ0 F0 H T i v' c (by simpa using hv') (λu hu=>hr u (by simpa using hu))
 | [],_::_,_,_,_,_,h=>by simp[ZCY]at h
 | _::_,[],_,_,_,_,h=>by simp[ZCY]at h
end Ev
end
section
namespace Ev
open Go
theorem ZIa{R:Type} : ∀ {st:ZAI} {id:Nat} {K:ZAI->Option R} {r:R},delK st id K=some r-> ∃st',K st'=some r/\look st' id=none/\(∀i,i≠id->look st' i=look st i)
 | [],id,K,r,h=>⟨[],h,rfl,λ_ _=>rfl⟩
 | (i,b)::st,id,K,r,h=>by
  simp only[delK]at h
  cases hb:Nat.beq i id<;>simp only[hb,al_cond_true,al_cond_false]at h
  ·obtain⟨st',hk,h0,h1⟩:=ZIa h
   exact⟨_,hk,by simp only[look,hb,al_cond_false,h0],λj hj=>by simp only[look,h1 j hj]⟩
  ·have e:=ZAb hb
   subst e
   obtain⟨st',hk,h0,h1⟩:=ZIa h
   exact⟨_,hk,h0,λj hj=>by rw[h1 j hj];simp[look,ZHA (Ne.symm hj)]⟩
def Rho.del(ρ:Rho)(id:Nat):Rho:=λi=>if i=id then none else ρ i
def frzF(ρ:Rho)(F:Nat->Prop)(id:Nat):Nat->Prop:=λb=>F b\/ ∃loc,ρ id=some loc/\loc.block=some b
theorem ZN2{ρ:Rho}{F:Nat->Prop}{w:World}{st:ZAI}{id:Nat}{t:Ty}{l:List t.den}(H:Core ρ F st w)(hl:look st id=some (.rows t l)):
  WkC ρ F w (ρ.del id) (frzF ρ F id) w (frzC id t l):=by
 have E:Ext (λi=>i=id) ρ F w (ρ.del id) (frzF ρ F id) w:=⟨λi l hx h=>by simp only[Rho.del,al_if_neg hx];exact h,λb h=> .inl h,λ_ _=>rfl⟩
 intro v c r
 have go: ∀v,frzC id t l v=ZCA id v->RelC ρ F w v c->RelC (ρ.del id) (frzF ρ F id) w (frzC id t l v) c:=λv e r=>by rw[e];exact ZKJ E v c r
 cases v<;>try exact go _ rfl r
 case own i=>
  simp only[frzC]
  cases hb:Nat.beq i id
  ·exact RelC.ext E (show¬i=id from λe=>by subst e;simp at hb) r
  ·have e:=ZAb hb
   subst e
   obtain⟨t0,a,len,cap,hρ,e⟩:=r
   obtain⟨rfl,h1,h2,h3⟩:=ZCi H hρ hl
   refine⟨a,cap,by rw[e,<-h1],by omega,?_⟩
   by_cases hn:l=[]
   ·exact .inl hn
   rcases h3 with h3 | ⟨b,s,rfl,hat⟩
   ·exact .inl h3
   ·have:0<l.length:=List.length_pos_iff.mpr hn
    exact .inr ⟨b,s,rfl,.inr ⟨_,hρ,by simp[Loc.block];omega⟩,hat⟩
 case ownv i lo hi=>
  simp only[frzC]
  cases hb:Nat.beq i id
  ·exact RelC.ext E (show¬i=id from λe=>by subst e;simp at hb) r
  ·have e:=ZAb hb
   subst e
   obtain⟨t0,a,len,cap,hρ,g1,g2,g3,e⟩:=r
   obtain⟨rfl,h1,h2,h3⟩:=ZCi H hρ hl
   obtain⟨a',cap',e',k1,k2⟩:=ZIT (l:=l) (cap:=cap) g1 (by omega) (by omega) h3
   refine⟨a',cap',by rw[e];exact e',k1,?_⟩
   rcases k2 with k2 | ⟨b,s,rfl,hat⟩
   ·exact .inl k2
   ·by_cases hn:(l.take hi).drop lo=[]
    ·exact .inl hn
    ·right
     refine⟨b,s,rfl,?_,hat⟩
     have hpos:0<((l.take hi).drop lo).length:=List.length_pos_iff.mpr hn
     simp at hpos
     rcases h3 with rfl | ⟨b0,s0,rfl,_⟩
     ·simp at hpos
     ·simp only[Value.slice.injEq]at e'
      rw[al_if_neg]at e'
      have:=e'.1
      simp only[Option.map_some,ZBE,Option.some.injEq,Addr.mk.injEq]at this
      rw[<-this.1]
      exact .inr ⟨_,hρ,by simp[Loc.block];omega⟩
theorem ZTh{id:Nat}{t:Ty}{l:List t.den}{v:V}{cs:List V}(h:frzC id t l v= .agg cs):False:=by
 cases v<;>simp only[frzC]at h<;>try exact ZNI h
 all_goals (revert h;cases Nat.beq _ id<;>exact λh=>nomatch h)
theorem ZTi{id:Nat}{t:Ty}{l:List t.den}{v:V}{cs:List V}(h:frzC id t l v= .tup cs):False:=by
 cases v<;>simp only[frzC]at h<;>try exact ZNJ h
 all_goals (revert h;cases Nat.beq _ id<;>exact λh=>nomatch h)
theorem ZTj{ρ:Rho}{F:Nat->Prop}{w:World}{st:ZAI}{id:Nat}{t:Ty}{l:List t.den}(H:Core ρ F st w)(hl:look st id=some (.rows t l)){v:V}{c:Value}(r:RelT ρ F w v c):
  RelT (ρ.del id) (frzF ρ F id) w (frzT id t l v) c:=by
 refine(ZN2 H hl).toT (gA:=frzA id t l) (λ_=>rfl) ?_ (λ_=>rfl) ?_ (λ_ _=>ZTh) (λ_ _=>ZTi) r
 ·intro v hv;cases v<;>first | rfl | exact absurd rfl (hv _)
 ·intro v hv;cases v<;>first | rfl | exact absurd rfl (hv _)
def ZIb(id:Nat)(t:Ty)(l:List t.den):Blk->Blk
 | .box cs=> .box (cs.map (frzC id t l))
 | b=>b
theorem ZF7(id:Nat)(t:Ty)(l:List t.den): ∀(σ:ZAI) (j:Nat),look (σ.map (frzB id t l)) j=(look σ j).map (ZIb id t l)
 | [],j=>rfl
 | (i,b)::σ,j=>by
  rw[List.map_cons]
  cases b<;>simp only[frzB,look]<;>cases Nat.beq i j<;>simp[ZF7 id t l σ j,ZIb]
structure Frozen(ρ:Rho)(F:Nat->Prop)(s:St)(w:World)(frz:List Nat)(ρ':Rho)(F':Nat->Prop)(s':St):Prop where
 core:Core ρ' F' s'.st w
 fr: ∀t x,RelT ρ F w (get s.fr t) x->RelT ρ' F' w (get s'.fr t) x
 len:s'.fr.length=s.fr.length
 ids: ∀id l,ρ' id=some l->ρ id=some l
 keep: ∀id,id∉frz->ρ' id=ρ id
 stab: ∀b,F b->F' b
 stab': ∀b,F' b->F b\/ρ.M b
 blk: ∀id∈frz,∀loc b,ρ id=some loc->loc.block=some b->F' b
 gone: ∀id∈frz,ρ' id=none
 dom:Dom ρ s.st->Dom ρ' s'.st
theorem ZTk{id:Nat}{t:Ty}{l:List t.den}{v:V}(h:v.idfree=true):frzC id t l v=v:=by
 cases v<;>first | rfl | cases h
theorem ZKh{R:Type} : ∀ {frz:List Nat} {s:St} {K:St->Option R} {r:R},ZCt frz s K=some r->
  ∃s',K s'=some r/\(∀id,look s'.st id=none↔look s.st id=none\/id∈frz)/\
   (∀id cs',id∉frz->look s'.st id=some (.box cs')-> ∃cs,look s.st id=some (.box cs)/\(allB V.idfree cs=true->allB V.idfree cs'=true))/\ ∀ρ F w,Core ρ F s.st w->(∀b,ρ.M b->b<w.heap.size)-> ∃ρ' F',Frozen ρ F s w frz ρ' F' s'/\(frz=[]->ρ'=ρ/\F'=F/\s'=s)
 | [],s,K,r,h=>⟨s,h,λ_=>⟨λh=> .inl h,λh=>by simpa using h⟩,λ_ cs _ h=>⟨cs,h,λh=>h⟩,λρ F w H _=>⟨ρ,F,⟨H,λ_ _ h=>h,rfl,λ_ _ h=>h,λ_ _=>rfl,λ_ h=>h,λ_ h=> .inl h,λid hid=>by simp at hid,λid hid=>by simp at hid,λh=>h⟩,λ_=>⟨rfl,rfl,rfl⟩⟩⟩
 | id::frz,s,K,r,h=>by
  simp only[ZCt]at h
  split at h<;>try (cases h;done)
  ·rename_i t l hl
   obtain⟨st1,h,h0,h1⟩:=ZIa h
   obtain⟨s',hk,i1,i2,ih⟩:=ZKh h
   refine⟨s',hk,λi=> ?_,λi cs' hni hi=> ?_,λρ F w H hM=> ?_⟩
   ·rw[i1 i,ZF7]
    by_cases e:i=id
    ·subst e;simp[h0]
    ·rw[h1 i e]
     cases hx:look s.st i<;>simp[e]
   ·simp only[List.mem_cons,not_or]at hni
    obtain⟨cs1,g1,g2⟩:=i2 i cs' hni.2 hi
    rw[ZF7]at g1
    cases hx:look st1 i with
    | none=>simp[hx]at g1
    | some b1=>
     simp[hx]at g1
     cases b1 with
     | rows t' l'=>simp[ZIb]at g1
     | box cs=>
      rw[h1 i hni.1]at hx
      simp[ZIb]at g1
      refine⟨cs,hx,λhcs=>g2 ?_⟩
      rw[<-g1]
      refine ZKI λv hv=> ?_
      obtain⟨u,hu,rfl⟩:=List.mem_map.mp hv
      rw[ZTk (ZCB hcs u hu)]
      exact ZCB hcs u hu
   have hM1: ∀b,(ρ.del id).M b->ρ.M b:=by
    rintro b ⟨i,l,hi,hb⟩
    unfold Rho.del at hi
    split at hi
    ·cases hi
    ·exact⟨i,l,hi,hb⟩
   have old: ∀i loc,ρ.del id i=some loc->ρ i=some loc/\i≠id:=by
    intro i loc h
    unfold Rho.del at h
    split at h
    ·cases h
    ·exact⟨h,by assumption⟩
   have H1:Core (ρ.del id) (frzF ρ F id) (st1.map (frzB id t l)) w:=by
    refine ZFv (λi=>i=id) H (λi loc b _ h1 h2=>rfl) (λi loc _ h=>(old i loc h).1) ?_ ?_ ?_ ?_ (H.glob.keep (λb h=> .inl h) λ_ _=>rfl)
    ·intro i b' hi g
     rw[ZF7,h1 i hi]at g
     cases hx:look s.st i with
     | none=>simp[hx]at g
     | some b1=>
      simp[hx]at g
      subst g
      refine⟨b1,rfl,?_⟩
      cases b1 with
      | rows t l=>rfl
      | box cs=>
       refine⟨by simp,λj v v' g1 g2 c r=> ?_⟩
       rw[List.getElem?_map,g1]at g2
       simp at g2;subst g2
       exact ZN2 H hl v c r
    ·intro i loc blk hi g;subst hi;simp[Rho.del]at g
    ·intro i j li lj b hi g;subst hi;simp[Rho.del]at g
    ·rintro b (hb | ⟨loc,hρ,hb⟩)
     ·exact⟨(H.stable b hb).1,λh=>(H.stable b hb).2 (hM1 b h)⟩
     ·refine⟨hM b ⟨id,loc,hρ,hb⟩,?_⟩
      rintro ⟨i,l',hi,hbi⟩
      obtain⟨g1,g2⟩:=old i l' hi
      exact g2 (H.inj i id l' loc b g1 hρ hbi hb)
   obtain⟨ρ',F',Z,_⟩:=ih (ρ.del id) (frzF ρ F id) w H1 (λb h=>hM b (hM1 b h))
   refine⟨ρ',F',⟨Z.core,λt' x r=>Z.fr t' x ?_,by rw[Z.len];simp,λi loc h=>(old i loc (Z.ids i loc h)).1,?_,λb h=>Z.stab b (.inl h),?_,?_,?_,?_⟩,λe=>by cases e⟩
   ·simp only
    rw[ZIU _ rfl]
    exact ZTj H hl r
   ·intro i hi
    simp only[List.mem_cons,not_or]at hi
    rw[Z.keep i hi.2]
    simp[Rho.del,hi.1]
   ·intro b hb
    rcases Z.stab' b hb with (hb | ⟨loc,hρ,hb⟩) | hb
    ·exact .inl hb
    ·exact .inr ⟨id,loc,hρ,hb⟩
    ·exact .inr (hM1 b hb)
   ·intro i hi loc b hρ hb
    by_cases e:i=id
    ·subst e;exact Z.stab b (.inr ⟨loc,hρ,hb⟩)
    ·have hi':i∈frz:=by simpa[e]using hi
     exact Z.blk i hi' loc b (by simp[Rho.del,e];exact hρ) hb
   ·intro i hi
    by_cases e:i=id
    ·subst e
     cases hx:ρ' i with
     | none=>rfl
     | some l=>have:=Z.ids i l hx;simp[Rho.del]at this
    ·have hi':i∈frz:=by simpa[e]using hi
     exact Z.gone i hi'
   ·intro hd
    refine Z.dom λi loc h=> ?_
    obtain⟨g1,g2⟩:=old i loc h
    simp only
    rw[ZF7,h1 i g2]
    have:=hd i loc g1
    cases hx:look s.st i with
    | none=>exact absurd hx this
    | some b1=>simp
end Ev
end
section
namespace Ev
open Go
theorem ZN3{R:Type}{st:ZAI} : ∀ {ids:List Nat} {K:List Blk->Option R} {r:R},ZFn st ids K=some r->
  ∃bs,K bs=some r/\bs.length=ids.length/\ ∀(j id:Nat),ids[j]?=some id-> ∃b,bs[j]?=some b/\look st id=some b
 | [],K,r,h=>⟨[],h,rfl,λj id h=>by simp at h⟩
 | id::ids,K,r,h=>by
  simp only[ZFn]at h
  split at h<;>try (cases h;done)
  rename_i b hb
  obtain⟨bs,hk,h1,h2⟩:=ZN3 h
  refine⟨_,hk,by simp[h1],λj i hj=> ?_⟩
  cases j with
  | zero=>simp at hj;subst hj;exact⟨b,rfl,hb⟩
  | succ j=>simpa using h2 j i (by simpa using hj)
theorem ZN4: ∀(bs:List Blk) (n i:Nat),look (ZBA n bs) i=if n<=i then bs[i-n]? else none
 | [],n,i=>by simp[ZBA,look]
 | b::bs,n,i=>by
  simp only[ZBA,look]
  by_cases h:n=i
  ·subst h;simp
  ·rw[ZHA h,al_cond_false,ZN4 bs (n+1) i]
   by_cases h2:n+1<=i
   ·rw[al_if_pos h2,al_if_pos,show i-n=(i-(n+1))+1 by omega,List.getElem?_cons_succ]
   ·rw[al_if_neg h2,al_if_neg]
theorem ZHC(bs:List Blk)(i:Nat):look (ZBA 0 bs) i=bs[i]?:=by rw[ZN4];simp
theorem ZKi{n:Nat} : ∀ {l:List Nat},memN n l=false->n∉l
 | [],_=>by simp
 | m::l,h=>by
  simp only[memN]at h
  cases hb:Nat.beq m n<;>simp only[hb,al_cond_true,al_cond_false]at h
  ·intro hm
   rcases List.mem_cons.mp hm with rfl | hm
   ·simp at hb
   ·exact ZKi h hm
  ·cases h
theorem ZN5{frz:List Nat} : ∀ {ids:List Nat},ZEy frz ids=true->ids.Nodup/\ ∀id∈ids,id∉frz
 | [],_=>⟨List.nodup_nil,by simp⟩
 | n::ids,h=>by
  simp only[ZEy]at h
  cases h1:memN n ids<;>simp only[h1,al_cond_true,al_cond_false]at h
  ·cases h2:memN n frz<;>simp only[h2,al_cond_true,al_cond_false]at h
   ·obtain⟨h3,h4⟩:=ZN5 h
    refine⟨List.nodup_cons.mpr ⟨ZKi h1,h3⟩,λid hid=> ?_⟩
    rcases List.mem_cons.mp hid with rfl | hid
    ·exact ZKi h2
    ·exact h4 id hid
   ·cases h
  ·cases h
theorem ZN6{R:Type}{sh:Bool}{dst:Nat} : ∀ {bs:List Blk} {j:Nat} {st:ZAI} {K:ZAI->Option R} {r:R},impB sh dst [] j bs st K=some r->
  ∃st',K st'=some r/\(∀b∈bs,b.okB sh=true)/\(∀i,i<bs.length->look st (dst+10000*(j+i))=none/\look st' (dst+10000*(j+i))=bs[i]?)/\
   ∀id,(∀i,i<bs.length->id≠dst+10000*(j+i))->look st' id=look st id
 | [],j,st,K,r,h=>⟨st,by simpa[impB]using h,by simp,λi h=>by simp at h,λid _=>rfl⟩
 | b::bs,j,st,K,r,h=>by
  simp only[impB]at h
  cases hc:b.okB sh<;>simp only[hc,al_cond_true,al_cond_false]at h
  ·cases h
  obtain⟨hl,h⟩:=ZF3 h
  obtain⟨st',hk,h1,h2,h3⟩:=ZN6 h
  have hne: ∀i,dst+10000*(j+(i+1))≠dst+10000*j:=λi=>by omega
  refine⟨st',hk,?_,?_,?_⟩
  ·intro b' hb'
   rcases List.mem_cons.mp hb' with rfl | hb'
   ·exact hc
   ·exact h1 b' hb'
  ·intro i hi
   cases i with
   | zero=>
    refine⟨hl,?_⟩
    rw[Nat.add_zero,h3 _ (λi _=>by omega),ZG7];rfl
   | succ i=>
    have:=h2 i (by simpa using hi)
    rw[show j+1+i=j+(i+1)by omega]at this
    rw[ZES (hne i)]at this
    simpa using this
  ·intro id hid
   rw[h3 id (λi hi=>by have:=hid (i+1) (by simpa using hi);rwa[show j+1+i=j+(i+1)by omega])]
   exact ZES (by have:=hid 0 (by simp);simpa using this)
theorem ZN7{R:Type}{sh:Bool}{dst:Nat} : ∀ {ids:List Nat} {bs:List Blk} {st:ZAI} {K:ZAI->Option R} {r:R},ids.Nodup->impB sh dst ids 0 bs st K=some r->
  ∃st',K st'=some r/\ids.length<=bs.length/\(∀b∈bs,b.okB sh=true)/\(∀(j id:Nat),ids[j]?=some id->look st' id=bs[j]?/\look st id≠none)/\
   (∀i,ids.length+i<bs.length->look st (dst+10000*i)=none/\look st' (dst+10000*i)=bs[ids.length+i]?)/\
   ∀id,id∉ids->(∀i,ids.length+i<bs.length->id≠dst+10000*i)->look st' id=look st id
 | [],bs,st,K,r,_,h=>by
  obtain⟨st',hk,h1,h2,h3⟩:=ZN6 h
  refine⟨st',hk,by simp,h1,λj id h=>by simp at h,λi hi=> ?_,λid _ hid=>h3 id λi hi=> ?_⟩
  ·have:=h2 i (by simpa using hi);simpa using this
  ·have:=hid i (by simpa using hi);simpa using this
 | id::ids,[],st,K,r,_,h=>by simp[impB]at h
 | id::ids,b::bs,st,K,r,hn,h=>by
  simp only[impB]at h
  cases hc:b.okB sh<;>simp only[hc,al_cond_true,al_cond_false]at h
  ·cases h
  obtain⟨st1,h,g1,⟨b0,g2⟩,g3⟩:=ZF5 h
  obtain⟨hni,hn'⟩:=List.nodup_cons.mp hn
  obtain⟨st',hk,k1,k2,k3,k4,k5⟩:=ZN7 hn' h
  have hid: ∀i,ids.length+i<bs.length->id≠dst+10000*i:=λi hi e=>by
   have:=(k4 i hi).1
   rw[<-e,g1]at this;cases this
  refine⟨st',hk,by simpa using k1,?_,?_,?_,?_⟩
  ·intro b' hb'
   rcases List.mem_cons.mp hb' with rfl | hb'
   ·exact hc
   ·exact k2 b' hb'
  ·intro j i hj
   cases j with
   | zero=>
    simp at hj;subst hj
    rw[k5 id hni hid,g1,g2];simp
   | succ j=>
    have hj':ids[j]?=some i:=by simpa using hj
    obtain⟨e1,e2⟩:=k3 j i hj'
    have hne:i≠id:=λe=>hni (e▸al_mem_get hj')
    rw[g3 i hne]at e2
    exact⟨by simpa using e1,e2⟩
  ·intro i hi
   have hi':ids.length+i<bs.length:=by simp at hi;omega
   obtain⟨e1,e2⟩:=k4 i hi'
   rw[g3 _ (Ne.symm (hid i hi'))]at e1
   refine⟨e1,?_⟩
   rw[e2,show(id::ids).length+i=(ids.length+i)+1 by simp;omega,List.getElem?_cons_succ]
  ·intro i hi hi2
   simp only[List.mem_cons,not_or]at hi
   rw[k5 i hi.2 (λk hk=>hi2 k (by simp;omega)),g3 i hi.1]
theorem ZDE{dst:Nat} : ∀ {ids:List Nat} {j id:Nat},ids[j]?=some id->ZAf dst ids j=id
 | [],j,id,h=>by simp at h
 | x::ids,0,id,h=>by simpa[ZAf]using h
 | x::ids,j+1,id,h=>by simp only[ZAf];exact ZDE (by simpa using h)
theorem ZDb{dst:Nat} : ∀ {ids:List Nat} {j:Nat},ZAf dst ids (ids.length+j)=dst+10000*j
 | [],j=>by simp[ZAf]
 | x::ids,j=>by
  rw[show(x::ids).length+j=(ids.length+j)+1 by simp;omega]
  simp only[ZAf];exact ZDb
structure Back(sh:Bool)(dst:Nat)(ids:List Nat)(ρ1:Rho)(F1:Nat->Prop)(w1:World)(ρ:Rho)(F:Nat->Prop):Prop where
 ids: ∀j l,ρ1 j=some l->ρ (ZAf dst ids j)=some l
 stab:sh=true-> ∀b,F1 b->F b
theorem ZN8{R:Type}{sh:Bool}{dst:Nat}{ids:List Nat}{v:V}{K:V->Option R}{r:R}(h:renC sh dst ids v K=some r):
  ∃v',K v'=some r/\ ∀ρ1 F1 w ρ F c,Back sh dst ids ρ1 F1 w ρ F->RelC ρ1 F1 w v c->RelC ρ F w v' c:=by
 unfold renC at h
 split at h
 ·exact⟨_,h,λρ1 F1 w ρ F c _ r=>r⟩
 ·exact⟨_,h,λρ1 F1 w ρ F c _ r=>r⟩
 ·exact⟨_,h,λρ1 F1 w ρ F c _ r=>r⟩
 ·exact⟨_,h,λρ1 F1 w ρ F c B ⟨t,a,len,cap,hρ,e⟩=>⟨t,a,len,cap,B.ids _ _ hρ,e⟩⟩
 ·exact⟨_,h,λρ1 F1 w ρ F c B ⟨b,n,hρ,e⟩=>⟨b,n,B.ids _ _ hρ,e⟩⟩
 ·cases sh<;>simp only[al_cond_true,al_cond_false]at h
  ·cases h
  ·exact⟨_,h,λρ1 F1 w ρ F c B ⟨a,cap,e,h1,h2⟩=>⟨a,cap,e,h1,h2.imp id λ⟨b,s,e,hF,hat⟩=>⟨b,s,e,B.stab rfl b hF,hat⟩⟩⟩
 ·cases h
theorem ZN9{R:Type}{sh:Bool}{dst:Nat}{ids:List Nat} : ∀ {vs:List V} {K:List V->Option R} {r:R},ZH8 sh dst ids vs K=some r->
  ∃vs',K vs'=some r/\vs'.length=vs.length/\ ∀ρ1 F1 w ρ F,Back sh dst ids ρ1 F1 w ρ F-> ∀(i:Nat) v' c,vs'[i]?=some v'->(∀v,vs[i]?=some v->RelC ρ1 F1 w v c)->RelC ρ F w v' c
 | [],K,r,h=>⟨[],h,rfl,λρ1 F1 w ρ F _ i v' c h=>by simp at h⟩
 | v::vs,K,r,h=>by
  simp only[ZH8]at h
  obtain⟨v1,h,s1⟩:=ZN8 h
  obtain⟨vs2,h,l2,s2⟩:=ZN9 h
  refine⟨_,h,by simp[l2],λρ1 F1 w ρ F B i v' c hv' hr=> ?_⟩
  cases i with
  | zero=>simp at hv';subst hv';exact s1 ρ1 F1 w ρ F c B (hr v rfl)
  | succ i=>exact s2 ρ1 F1 w ρ F B i v' c (by simpa using hv') (λu hu=>hr u (by simpa using hu))
theorem ZTl{ρ:Rho}{F:Nat->Prop}{w:World}{v:V}{c:Value}(h:RelC ρ F w v c):RelA ρ F w v c:=by
 cases v<;>first | exact h | exact h.elim
theorem ZO{R:Type}{sh:Bool}{dst:Nat}{ids:List Nat}{v:V}{K:V->Option R}{r:R}(h:renA sh dst ids v K=some r):
  ∃v',K v'=some r/\ ∀ρ1 F1 w ρ F c,Back sh dst ids ρ1 F1 w ρ F->RelA ρ1 F1 w v c->RelA ρ F w v' c:=by
 by_cases hv: ∃cs,v= .agg cs
 ·obtain⟨cs,rfl⟩:=hv
  simp only[renA]at h
  obtain⟨cs',hk,l,s⟩:=ZN9 h
  refine⟨_,hk,λρ1 F1 w ρ F c B ⟨ca,e,hs,hr⟩=>⟨ca,e,by rw[hs,l],λi v' hv'=> ?_⟩⟩
  have hi:i<cs.length:=by have:=(al_get_iff.mp hv').1;omega
  obtain⟨c,hc,r⟩:=hr i _ (al_get_get hi)
  exact⟨c,hc,s ρ1 F1 w ρ F B i v' c hv' λv hv=>by rw[al_get_get hi]at hv;cases hv;exact r⟩
 ·have h':renC sh dst ids v K=some r:=by cases v<;>first | exact h | exact absurd ⟨_,rfl⟩ hv
  obtain⟨v',hk,s⟩:=ZN8 h'
  refine⟨v',hk,λρ1 F1 w ρ F c B r=>ZTl (s ρ1 F1 w ρ F c B ?_)⟩
  cases v<;>first | exact r | exact absurd ⟨_,rfl⟩ hv
theorem ZOA{R:Type}{sh:Bool}{dst:Nat}{ids:List Nat} : ∀ {vs:List V} {K:List V->Option R} {r:R},ZH9 sh dst ids vs K=some r->
  ∃vs',K vs'=some r/\vs'.length=vs.length/\ ∀ρ1 F1 w ρ F,Back sh dst ids ρ1 F1 w ρ F-> ∀(i:Nat) v' c,vs'[i]?=some v'->(∀v,vs[i]?=some v->RelA ρ1 F1 w v c)->RelA ρ F w v' c
 | [],K,r,h=>⟨[],h,rfl,λρ1 F1 w ρ F _ i v' c h=>by simp at h⟩
 | v::vs,K,r,h=>by
  simp only[ZH9]at h
  obtain⟨v1,h,s1⟩:=ZO h
  obtain⟨vs2,h,l2,s2⟩:=ZOA h
  refine⟨_,h,by simp[l2],λρ1 F1 w ρ F B i v' c hv' hr=> ?_⟩
  cases i with
  | zero=>simp at hv';subst hv';exact s1 ρ1 F1 w ρ F c B (hr v rfl)
  | succ i=>exact s2 ρ1 F1 w ρ F B i v' c (by simpa using hv') (λu hu=>hr u (by simpa using hu))
theorem ZTm{R:Type}{sh:Bool}{dst:Nat}{ids:List Nat}{v:V}{K:V->Option R}{r:R}(h:renT sh dst ids v K=some r):
  ∃v',K v'=some r/\ ∀ρ1 F1 w ρ F c,Back sh dst ids ρ1 F1 w ρ F->RelT ρ1 F1 w v c->RelT ρ F w v' c:=by
 by_cases hv: ∃cs,v= .tup cs
 ·obtain⟨cs,rfl⟩:=hv
  simp only[renT]at h
  obtain⟨cs',hk,l,s⟩:=ZOA h
  refine⟨_,hk,λρ1 F1 w ρ F c B ⟨ca,e,hs,hr⟩=>⟨ca,e,by rw[hs,l],λi v' hv'=> ?_⟩⟩
  have hi:i<cs.length:=by have:=(al_get_iff.mp hv').1;omega
  obtain⟨c,hc,r⟩:=hr i _ (al_get_get hi)
  exact⟨c,hc,s ρ1 F1 w ρ F B i v' c hv' λv hv=>by rw[al_get_get hi]at hv;cases hv;exact r⟩
 ·have h':renA sh dst ids v K=some r:=by cases v<;>first | exact h | exact absurd ⟨_,rfl⟩ hv
  obtain⟨v',hk,s⟩:=ZO h'
  refine⟨v',hk,λρ1 F1 w ρ F c B r=>ZNV (s ρ1 F1 w ρ F c B ?_)⟩
  cases v<;>first | exact r | exact absurd ⟨_,rfl⟩ hv
end Ev
end
section
namespace Ev
open Go
theorem ZIc{x:Nat} : ∀ {l:List Nat},x∈l->x∈ZBe l
 | [],h=>by simp at h
 | n::l,h=>by
  simp only[ZBe]
  cases hm:memN n l<;>simp only[al_cond_true,al_cond_false]
  ·rcases List.mem_cons.mp h with rfl | h
   ·simp
   ·simp[ZIc h]
  ·rcases List.mem_cons.mp h with rfl | h
   ·have:x∈l:=by
     by_cases hx:x∈l
     ·exact hx
     ·exfalso
      have: ∀ {l:List Nat},x∉l->memN x l=false:=by
       intro l
       induction l with
       | nil=>intro _;rfl
       | cons m l ih=>
        intro h
        simp only[List.mem_cons,not_or]at h
        simp only[memN,ZHA (Ne.symm h.1),al_cond_false]
        exact ih h.2
      rw[this hx]at hm;cases hm
    exact ZIc this
   ·exact ZIc h
theorem ZKj{x:Nat} : ∀ {l:List Nat},x∈ZBe l->x∈l
 | [],h=>by simp[ZBe]at h
 | n::l,h=>by
  simp only[ZBe]at h
  cases hm:memN n l<;>simp only[hm,al_cond_true,al_cond_false]at h
  ·rcases List.mem_cons.mp h with rfl | h
   ·simp
   ·simp[ZKj h]
  ·simp[ZKj h]
def ZDF(ρf ρ1:Rho)(dst n:Nat)(ids:List Nat):Rho:=λid=>
 open Classical in if h: ∃k,k<n/\ZAf dst ids k=id then ρ1 h.choose else ρf id
theorem ZOB{ρf ρ1:Rho}{dst n:Nat}{ids:List Nat}(hinj: ∀j k,j<n->k<n->ZAf dst ids j=ZAf dst ids k->j=k){k:Nat}(hk:k<n):ZDF ρf ρ1 dst n ids (ZAf dst ids k)=ρ1 k:=by
 unfold ZDF
 have h: ∃j,j<n/\ZAf dst ids j=ZAf dst ids k:=⟨k,hk,rfl⟩
 rw[dif_pos h]
 congr 1
 exact hinj _ _ h.choose_spec.1 hk h.choose_spec.2
theorem ZDc{ρf ρ1:Rho}{dst n:Nat}{ids:List Nat}{id:Nat}(h: ¬ ∃k,k<n/\ZAf dst ids k=id):ZDF ρf ρ1 dst n ids id=ρf id:=by
 unfold ZDF;rw[dif_neg h]
theorem ZTn{sh:Bool}{dst:Nat}{ids:List Nat}{ρf:Rho}{Ff:Nat->Prop}{σ σ':ZAI}{w w':World}{ρ0 ρ1:Rho}{F0 F1:Nat->Prop}{out:List Blk}
  (H:Core ρf Ff σ w) (hM: ∀b,ρf.M b->b<w.heap.size) (hlen:ids.length<=out.length) (hok: ∀b∈out,b.okB sh=true)
  (hinj: ∀j k,j<out.length->k<out.length->ZAf dst ids j=ZAf dst ids k->j=k)
  (h0: ∀j,ρ0 j=(ids[j]?).bind ρf) (hσ: ∀k,k<out.length->look σ' (ZAf dst ids k)=out[k]?) (hσo: ∀id,(¬ ∃k,k<out.length/\ZAf dst ids k=id)->look σ' id=look σ id)
  (hnew: ∀k,ids.length<=k->k<out.length->ρf (ZAf dst ids k)=none)
  (hF0: ∀b,F0 b->sh=true->Ff b)
  (C1:Core ρ1 F1 (ZBA 0 out) w') (h01: ∀id l,ρ0 id=some l->ρ1 id=some l) (hd1: ∀id l,ρ1 id=some l->id<out.length)
  (hchg:Chg ρ0.M w w') (hmb: ∀b,ρ1.M b->ρ0.M b\/w.heap.size<=b) (hstb: ∀b,F1 b->F0 b\/w.heap.size<=b):
  Core (ZDF ρf ρ1 dst out.length ids) (λb=>Ff b\/(sh=true/\F1 b)) σ' w'/\
   Ext (λ_=>False) ρf Ff w (ZDF ρf ρ1 dst out.length ids) (λb=>Ff b\/(sh=true/\F1 b)) w'/\
   Back sh dst ids ρ1 F1 w' (ZDF ρf ρ1 dst out.length ids) (λb=>Ff b\/(sh=true/\F1 b))/\
   (∀b,(ZDF ρf ρ1 dst out.length ids).M b->ρf.M b\/w.heap.size<=b)/\(∀b,ρ0.M b->ρf.M b):=by
 have m0: ∀b,ρ0.M b-> ∃j id loc,ids[j]?=some id/\ρ0 j=some loc/\ρf id=some loc/\loc.block=some b:=by
  rintro b ⟨j,loc,hj,hb⟩
  have hj':=hj
  rw[h0]at hj
  cases hi:ids[j]? with
  | none=>simp[hi]at hj
  | some id=>simp[hi]at hj;exact⟨j,id,loc,hi,hj',hj,hb⟩
 have hM0: ∀b,ρ0.M b->ρf.M b:=λb h=>let ⟨j,id,loc,_,_,h2,h3⟩:=m0 b h;⟨id,loc,h2,h3⟩
 have hin: ∀k,k<out.length->ZDF ρf ρ1 dst out.length ids (ZAf dst ids k)=ρ1 k:=λk hk=>ZOB hinj hk
 have memF: ∀b,Ff b->w'.heap[b]?=w.heap[b]?:=λb hb=>hchg.block b (H.stable b hb).1 λe=>(H.stable b hb).2 (hM0 b e)
 have E:Ext (λ_=>False) ρf Ff w (ZDF ρf ρ1 dst out.length ids) (λb=>Ff b\/(sh=true/\F1 b)) w':=by
  refine⟨λid l _ h=> ?_,λb h=> .inl h,memF⟩
  by_cases hx: ∃k,k<out.length/\ZAf dst ids k=id
  ·obtain⟨k,hk,rfl⟩:=hx
   rw[hin k hk]
   by_cases hkm:k<ids.length
   ·refine h01 k l ?_
    rw[h0,al_get_get hkm]
    rw[ZDE (al_get_get hkm)]at h
    exact h
   ·rw[hnew k (by omega) hk]at h;cases h
  ·rw[ZDc hx];exact h
 have hmb': ∀k loc b,ρ1 k=some loc->loc.block=some b->(k<ids.length/\ ∃id,ids[k]?=some id/\ρf id=some loc)\/w.heap.size<=b:=by
  intro k loc b hk hb
  rcases hmb b ⟨k,loc,hk,hb⟩with h | h
  ·left
   obtain⟨j,id,loc',h1,h2,h3,h4⟩:=m0 b h
   have:=C1.inj k j loc loc' b hk (h01 j loc' h2) hb h4
   subst this
   have hl:=(al_get_iff.mp h1).1
   rw[h01 k loc' h2]at hk;cases hk
   exact⟨hl,id,h1,h3⟩
  ·exact .inr h
 have hMB: ∀b,(ZDF ρf ρ1 dst out.length ids).M b->ρf.M b\/w.heap.size<=b:=by
  rintro b ⟨id,loc,hid,hb⟩
  by_cases hx: ∃k,k<out.length/\ZAf dst ids k=id
  ·obtain⟨k,hk,rfl⟩:=hx
   rw[hin k hk]at hid
   exact(hmb' k loc b hid hb).imp (λ⟨_,id,_,h⟩=>⟨id,loc,h,hb⟩) λh=>h
  ·rw[ZDc hx]at hid;exact .inl ⟨id,loc,hid,hb⟩
 refine⟨ZFv (λid=> ∃k,k<out.length/\ZAf dst ids k=id) H ?_ ?_ ?_ ?_ ?_ ?_ (H.glob.keep (λb h=> .inl h) memF),E,⟨λj l hj=>by rw[hin j (hd1 j l hj)];exact hj,λhs b hb=> .inr ⟨hs,hb⟩⟩,hMB,hM0⟩
 ·intro id loc b hx h1 h2
  rw[ZDc hx]at h1
  refine hchg.block b (hM b ⟨id,loc,h1,h2⟩) λe=> ?_
  obtain⟨j,id',loc',g1,_,g3,g4⟩:=m0 b e
  have:=H.inj id id' loc loc' b h1 g3 h2 g4
  subst this
  have hl:=(al_get_iff.mp g1).1
  exact hx ⟨j,by omega,ZDE g1⟩
 ·intro id loc hx h1;rwa[ZDc hx]at h1
 ·intro id blk hx h1
  rw[hσo id hx]at h1
  refine⟨blk,h1,?_⟩
  cases blk with
  | rows t l=>rfl
  | box cs=>
   refine⟨rfl,λi v v' h1 h2 c r=> ?_⟩
   rw[h1]at h2;cases h2
   exact RelC.ext0 E r
 ·rintro id loc blk ⟨k,hk,rfl⟩ h1 h2
  rw[hin k hk]at h1
  rw[hσ k hk]at h2
  have:=C1.heap k loc blk h1 (by rw[ZHC];exact h2)
  have hb:=hok blk (al_mem_get h2)
  refine this.weaken (λ_ _=>rfl) ?_
  cases blk with
  | rows t l=>rfl
  | box cs=>
   refine⟨rfl,λi v v' g1 g2 c r=> ?_⟩
   rw[g1]at g2;cases g2
   have hv:=ZCB hb v (al_mem_get g1)
   cases v<;>simp only[okV,V.idfree]at hv<;>try (cases hv;done)
   all_goals first
    | exact r
    | (
     obtain⟨a,cap,e,g3,g4⟩:=r
     exact⟨a,cap,e,g3,g4.imp id λ⟨b,s,e,hF,hat⟩=>⟨b,s,e,.inr ⟨hv,hF⟩,hat⟩⟩)
 ·rintro i j li lj b ⟨k,hk,rfl⟩ h1 h2 h3 h4
  rw[hin k hk]at h1
  by_cases hx: ∃k,k<out.length/\ZAf dst ids k=j
  ·obtain⟨k',hk',rfl⟩:=hx
   rw[hin k' hk']at h2
   rw[C1.inj k k' li lj b h1 h2 h3 h4]
  ·exfalso
   rw[ZDc hx]at h2
   have hlt:=hM b ⟨j,lj,h2,h4⟩
   rcases hmb' k li b h1 h3 with ⟨hkl,id,g1,g2⟩ | h
   ·have:=H.inj j id lj li b h2 g2 h4 h3
    subst this
    exact hx ⟨k,hk,ZDE g1⟩
   ·omega
 ·rintro b (hb | ⟨hs,hb⟩)
  ·have:=H.stable b hb
   exact⟨Nat.lt_of_lt_of_le this.1 hchg.size,λh=>(hMB b h).elim this.2 λh=>by omega⟩
  ·have:=C1.stable b hb
   refine⟨this.1,?_⟩
   rintro ⟨id,loc,hid,hbl⟩
   by_cases hx: ∃k,k<out.length/\ZAf dst ids k=id
   ·obtain⟨k,hk,rfl⟩:=hx
    rw[hin k hk]at hid
    exact this.2 ⟨k,loc,hid,hbl⟩
   ·rw[ZDc hx]at hid
    have hlt:=hM b ⟨id,loc,hid,hbl⟩
    rcases hstb b hb with h | h
    ·exact(H.stable b (hF0 b h hs)).2 ⟨id,loc,hid,hbl⟩
    ·omega
end Ev
end
section
namespace Ev
open Go
theorem ZTo{P:Program}{f:Nat}{fn:Func}(h1:P.funcs[f]?=some fn)(h2:fn.body.isNone=false)(h3:fn.name≠ "runtime.NumGoroutine")(args:Array Value)(w:World):
  (callFunc f args).run P w= .ok (.enter f args) w:=by
 obtain⟨code,hc⟩: ∃c,fn.body=some c:=by
  cases hb:fn.body with
  | none=>rw[hb]at h2;cases h2
  | some c=>exact⟨c,rfl⟩
 simp[callFunc,Sem.run_bind,h1,hc,h3]
theorem ZTp{P:Program}{o:Oper}{fo:Operand}{args:Array Operand}{ts:Array Nat}{f:Nat}{fn:Func}{ca:Array Value}(ho:o.op= .call ⟨.value fo,args,ts⟩)
  (h1:P.funcs[f]?=some fn) (h2:fn.body.isNone=false) (h3:fn.name≠ "runtime.NumGoroutine") (a:Act) (w:World) (hf:a.eval fo= .func (.func f) #[] ca):
  (execOp a.eval o).run P w= .ok (.enter f (args.map a.eval++ca)) w:=by
 simp[execOp,ho,resolve,hf,Deferred.ofValue,Sem.run_bind,invoke,ZTo h1 h2 h3]
theorem ZTq{P:Program}{o:Oper}{a:Act}{w:World}{N:Act->World->Prop}{Q:Exit->Act->World->Prop}{f:Nat}{args:Array Value}(he:(execOp a.eval o).run P w= .ok (.enter f args) w)
  {R:Ending->World->Prop} (hc:Calls P f args w R) (h: ∀en w',R en w'-> ∃c,en= .returned c/\N (a.put o.dst c) w'):o.wp P a w N Q:=by
 unfold Oper.wp
 rw[he]
 refine Calls.mono hc λen w' hr=> ?_
 obtain⟨c,rfl,hn⟩:=h en w' hr
 exact hn
theorem ZOC{α:Type}{l:List α}(h:l.Nodup){i j:Nat}{hi:i<l.length}{hj:j<l.length}(e:l[i]=l[j]):i=j:=by
 rcases Nat.lt_trichotomy i j with hlt | heq | hgt
 ·exact absurd e (List.pairwise_iff_getElem.mp h i j hi hj hlt)
 ·exact heq
 ·exact absurd e.symm (List.pairwise_iff_getElem.mp h j i hj hi hgt)
theorem ZOD{R:Type} : ∀ {frz:List Nat} {s:St} {K:St->Option R} {r:R},ZCt frz s K=some r-> ∀id∈frz,look s.st id≠none
 | [],s,K,r,h,id,hid=>by cases hid
 | i::frz,s,K,r,h,id,hid=>by
  simp only[ZCt]at h
  split at h<;>try (cases h;done)
  rename_i t l hl
  by_cases e:id=i
  ·subst e;rw[hl];simp
  ·obtain⟨st1,h,h0,h1⟩:=ZIa h
   rcases List.mem_cons.mp hid with hid | hid
   ·exact absurd hid e
   ·have:=ZOD h id hid
    rw[ZF7]at this
    intro hn
    rw[h1 id e,hn]at this
    exact this rfl
theorem ZTr{l:List Nat}(h:nilB l=true):l=[]:=by cases l<;>first | rfl | cases h
set_option maxHeartbeats 1000000 in
theorem ZTs{R:Type}{P:Program}{E:Env}(hE:EnvOK P E){ann:Nat->Bool}{o:Oper}{s:St}{fo:Operand}{args:Array Operand}{ts:Array Nat}{f dst:Nat}{cap:List V}{K:V->St->Option R}{r:R}
  (ho:o.op= .call ⟨.value fo,args,ts⟩) (hd:idOf o=dst) (hfo:opd s.fr fo= .fn f cap) (h:ZCu E f dst (args.toList.map (opd s.fr)++cap) s K=some r):
  ∃v s',K v s'=some r/\OpOK P (calm E ann o=true) o s v s':=by
 unfold ZCu at h
 split at h
 ·cases h
 rename_i e he
 obtain⟨fn,hf1,hf2,hf3⟩:=hE.fn f e he
 obtain⟨av,ids,frz,h,hg,hids,hal,hav⟩:=ZN1 h
 cases hc:(ZEy frz ids && (e.muts || nilB ids))<;>simp only[hc,al_cond_true,al_cond_false]at h
 ·cases h
 rw[ZAJ]at hc
 obtain⟨hnd,hdisj⟩:=ZN5 hc.1
 have zin:=ZOD h
 obtain⟨sf,h,z1,z2,hz⟩:=ZKh h
 obtain⟨bs,h,hbl,hbs⟩:=ZN3 h
 obtain⟨res,out,h,hends⟩:=hE.ent f e he R av bs _ r h
 obtain⟨st',h,i1,i2,i3,i4,i5⟩:=ZN7 hnd h
 obtain⟨v,h,hren⟩:=ZTm h
 have hcl: ∀id∈ids,id∉(cond e.shares (ZBe frz) []):=by
  intro id hid hm
  cases hs:e.shares<;>rw[hs]at hm
  ·simp at hm
  ·exact hdisj id hid (ZKj hm)
 have hinj: ∀j k,j<out.length->k<out.length->ZAf dst ids j=ZAf dst ids k->j=k:=by
  have aux: ∀j k,j<out.length->k<out.length->j<=k->ZAf dst ids j=ZAf dst ids k->j=k:=by
   intro j k hj hk hle heq
   by_cases h1:j<ids.length
   ·by_cases h2:k<ids.length
    ·rw[ZDE (al_get_get h1),ZDE (al_get_get h2)]at heq
     exact ZOC hnd heq
    ·exfalso
     obtain⟨i,rfl⟩: ∃i,k=ids.length+i:=⟨k-ids.length,by omega⟩
     rw[ZDE (al_get_get h1),ZDb]at heq
     have g1:=(i3 j _ (al_get_get h1)).2
     rw[heq]at g1
     exact g1 (i4 i hk).1
   ·obtain⟨i,rfl⟩: ∃i,j=ids.length+i:=⟨j-ids.length,by omega⟩
    obtain⟨i',rfl⟩: ∃i,k=ids.length+i:=⟨k-ids.length,by omega⟩
    rw[ZDb,ZDb]at heq
    omega
  intro j k hj hk heq
  rcases Nat.le_total j k with hle | hle
  ·exact aux j k hj hk hle heq
  ·exact(aux k j hk hj hle heq.symm).symm
 have hσ: ∀k,k<out.length->look st' (ZAf dst ids k)=out[k]?:=by
  intro k hk
  by_cases h1:k<ids.length
  ·rw[ZDE (al_get_get h1)];exact(i3 k _ (al_get_get h1)).1
  ·obtain⟨i,rfl⟩: ∃i,k=ids.length+i:=⟨k-ids.length,by omega⟩
   rw[ZDb];exact(i4 i hk).2
 have hσo: ∀id,(¬ ∃k,k<out.length/\ZAf dst ids k=id)->look st' id=look sf.st id:=by
  intro id hx
  refine i5 id (λhid=> ?_) (λi hi e=>hx ⟨ids.length+i,hi,by rw[ZDb,e]⟩)
  obtain⟨j,hj⟩:=List.getElem?_of_mem hid
  exact hx ⟨j,by have:=(al_get_iff.mp hj).1;omega,ZDE hj⟩
 refine⟨v,_,h,λρ F a w H hM hfr hr N Q hN=> ?_⟩
 have rargs: ∀x∈args.toList,RelT ρ F w (opd s.fr x) (a.eval x):=λx hx=>ZCa x λt e=>hr t (by simp only[ZBU,ho,Op.operands,Call.operands,Array.mem_append];right;rw[<-e];simpa using hx)
 have rf:RelT ρ F w (.fn f cap) (a.eval fo):=by rw[<-hfo];exact ZCa fo λt e=>hr t (by simp only[ZBU,ho,Op.operands,Call.operands,Array.mem_append];left;simp[e])
 obtain⟨ca,hca,hcs,hcr⟩:=rf
 have hrun:=ZTp ho hf1 hf2 hf3 a w hca
 obtain⟨ρf,Ff,Z,Z0⟩:=hz ρ F w H hM
 let ρ0:Rho:=λj=>(ids[j]?).bind ρf
 let F0:Nat->Prop:=λb=>Ff b\/ ∃id∈frz,∃loc,ρ id=some loc/\loc.block=some b
 have hF0: ∀b,F0 b->e.shares=true->Ff b:=by
  rintro b (hb | ⟨id,hid,loc,hl,hb⟩) hs
  ·exact hb
  ·exact Z.blk id (by rw[hs];exact ZIc hid) loc b hl hb
 have hρids: ∀j id,ids[j]?=some id->ρ0 j=ρ id:=λj id hj=>by
  simp only[ρ0,hj,al_bind_some]
  exact Z.keep id (hcl id (al_mem_get hj))
 have hMf: ∀b,ρf.M b->ρ.M b:=λb ⟨id,l,h1,h2⟩=>⟨id,l,Z.ids id l h1,h2⟩
 have hM0: ∀b,ρ0.M b-> ∃(j id:Nat) (loc:Loc),ids[j]?=some id/\ρf id=some loc/\ρ id=some loc/\loc.block=some b:=by
  rintro b ⟨j,loc,hj,hb⟩
  simp only[ρ0]at hj
  cases hi:ids[j]? with
  | none=>simp[hi]at hj
  | some id=>simp[hi]at hj;exact⟨j,id,loc,hi,hj,Z.ids id loc hj,hb⟩
 have T:Told ρ F ids frz ρ0 F0:=⟨hρids,λb hb=> .inl (Z.stab b hb),λid hid loc b h1 h2=> .inr ⟨id,hid,loc,h1,h2⟩⟩
 have C0:Core ρ0 F0 (ZBA 0 bs) w:=by
  refine⟨λj loc blk h1 h2=> ?_,λi j li lj b h1 h2 h3 h4=> ?_,λb hb=> ?_,Z.core.glob.keep (λb h=> .inl h) λ_ _=>rfl⟩
  ·rw[ZHC]at h2
   simp only[ρ0]at h1
   cases hi:ids[j]? with
   | none=>simp[hi]at h1
   | some id=>
    simp[hi]at h1
    obtain⟨b,g1,g2⟩:=hbs j id hi
    rw[h2]at g1;cases g1
    refine(Z.core.heap id loc blk h1 g2).weaken (λ_ _=>rfl) ?_
    cases blk with
    | rows t l=>rfl
    | box cs=>
     refine⟨rfl,λi v v' k1 k2 c r=> ?_⟩
     rw[k1]at k2;cases k2
     obtain⟨cs0,q1,q2⟩:=z2 id cs (hcl id (al_mem_get hi)) g2
     obtain⟨b0,q3,q4⟩:=hids (by simp[ZDu]) id (al_mem_get hi)
     rw[q1]at q3;cases q3
     have hv:=ZCB (q2 (q4 cs0 rfl)) v (al_mem_get k1)
     cases v<;>simp only[V.idfree]at hv<;>try (cases hv;done)
     all_goals first
      | exact r
      | (
       obtain⟨a,cap,e,g3,g4⟩:=r
       exact⟨a,cap,e,g3,g4.imp (λh=>h) λ⟨b,s,e,hF,hat⟩=>⟨b,s,e,.inl hF,hat⟩⟩)
  ·simp only[ρ0]at h1 h2
   cases hi:ids[i]? with
   | none=>simp[hi]at h1
   | some id=>
    cases hj:ids[j]? with
    | none=>simp[hj]at h2
    | some id'=>
     simp[hi]at h1
     simp[hj]at h2
     have:=Z.core.inj id id' li lj b h1 h2 h3 h4
     subst this
     have hli:=(al_get_iff.mp hi)
     have hlj:=(al_get_iff.mp hj)
     obtain⟨p1,p2⟩:=hli
     obtain⟨p3,p4⟩:=hlj
     exact ZOC hnd (p2.trans p4.symm)
  ·rcases hb with hb | ⟨id,hid,loc,hl,hb⟩
   ·refine⟨(Z.core.stable b hb).1,λhm=>(Z.core.stable b hb).2 ?_⟩
    obtain⟨j,id,loc,_,h2,_,h4⟩:=hM0 b hm
    exact⟨id,loc,h2,h4⟩
   ·refine⟨hM b ⟨id,loc,hl,hb⟩,λhm=> ?_⟩
    obtain⟨j,id',loc',h1,_,h3,h4⟩:=hM0 b hm
    have:=H.inj id id' loc loc' b hl h3 hb h4
    subst this
    exact hdisj id (al_mem_get h1) hid
 have hcalls:=hends w F0 ρ0 (args.map a.eval++ca) C0 (λj l h1=>by
   simp only[ρ0]at h1
   cases hi:ids[j]? with
   | none=>simp[hi]at h1
   | some id=>have:=(al_get_iff.mp hi).1;omega) (by simp[hal,hcs]) (λi v' hv'=>by
   have hi:i<args.size+cap.length:=by
    have:=(al_get_iff.mp hv').1
    rw[hal]at this;simpa using this
   by_cases h1:i<args.size
   ·refine⟨a.eval args[i],by rw[Array.getElem?_append_left (by simpa using h1)];simp[h1],hav ρ F w ρ0 F0 H T i v' _ hv' λu hu=> ?_⟩
    rw[List.getElem?_append_left (by simpa using h1),List.getElem?_map,Array.getElem?_toList,Array.getElem?_eq_getElem h1]at hu
    simp at hu;subst hu
    exact rargs _ (by simp)
   ·have hk:i-args.size<cap.length:=by omega
    obtain⟨c,k1,k2⟩:=hcr (i-args.size) _ (al_get_get hk)
    refine⟨c,by rw[Array.getElem?_append_right (by simpa using Nat.le_of_not_lt h1)];simpa using k1,hav ρ F w ρ0 F0 H T i v' _ hv' λu hu=> ?_⟩
    rw[List.getElem?_append_right (by simpa using Nat.le_of_not_lt h1)]at hu
    simp only[List.length_map,Array.length_toList]at hu
    rw[al_get_get hk]at hu
    cases hu
    exact ZKP (ZKQ k2))
 refine ZTq hrun hcalls λen w' hret=> ?_
 obtain⟨c,ρ1,F1,rfl,C1,h01,hd1,hval,hchg,hmb,hstb⟩:=hret
 refine⟨c,rfl,?_⟩
 have hnew0: ∀i,ids.length+i<out.length->ρf (dst+10000*i)=none:=by
  intro i hi
  have g:=(i4 i hi).1
  rcases (z1 _).mp g with g1 | g1
  ·cases hx:ρf (dst+10000*i)with
   | none=>rfl
   | some l=>
    have:=Z.ids _ l hx
    rw[hfr _ g1 (by rw[hd];exact⟨i,rfl⟩)]at this
    cases this
  ·exact Z.gone _ g1
 obtain⟨B1,B2,B3,B4,B5⟩:=ZTn (sh:=e.shares) (dst:=dst) (ids:=ids) (σ:=sf.st) (σ':=st') Z.core (λb hb=>hM b (hMf b hb)) i1 i2 hinj (λj=>rfl) hσ hσo (λk h1 h2=>by
  obtain⟨i,rfl⟩: ∃i,k=ids.length+i:=⟨k-ids.length,by omega⟩
  rw[ZDb];exact hnew0 i h2) hF0 C1 h01 hd1 hchg hmb hstb
 refine hN c w' _ _ ⟨B1,⟨hchg.mono λb hb=>hMf b (B5 b hb),λb hb=>(B4 b hb).imp (hMf b) λh=>h,?_⟩,hren ρ1 F1 w' _ _ c B3 hval,λt x hx=>RelT.ext0 B2 (Z.fr t x hx),Z.len,?_,?_,?_,?_,⟨λid=>id∈(cond e.shares (ZBe frz) []),⟨λid l hx hl=>B2.ids id l (λh=>h) (by rw[Z.keep id hx];exact hl),λb hb=>B2.stab b (Z.stab b hb),λb hb=>B2.mem b (Z.stab b hb)⟩,λid hid=>zin id hid⟩,?_,?_⟩
 ·rintro b (hb | ⟨_,hb⟩)
  ·rcases Z.stab' b hb with h | h
   ·exact .inl h
   ·exact .inr (.inl h)
  ·rcases hstb b hb with (h | ⟨id,hid,loc,h1,h2⟩) | h
   ·rcases Z.stab' b h with h | h
    ·exact .inl h
    ·exact .inr (.inl h)
   ·exact .inr (.inl ⟨id,loc,h1,h2⟩)
   ·exact .inr (.inr h)
 ·intro hdom id l hl
  by_cases hx: ∃k,k<out.length/\ZAf dst ids k=id
  ·obtain⟨k,hk,rfl⟩:=hx
   simp only
   rw[hσ k hk,al_get_get hk];simp
  ·rw[ZDc hx]at hl
   simp only
   rw[hσo id hx]
   exact Z.dom hdom id l hl
 ·intro id hi hlk
  simp only at hlk
  by_cases hx: ∃k,k<out.length/\ZAf dst ids k=id
  ·obtain⟨k,hk,rfl⟩:=hx
   have hkm:k<ids.length:=by
    by_cases hkm:k<ids.length
    ·exact hkm
    ·obtain⟨i,rfl⟩: ∃i,k=ids.length+i:=⟨k-ids.length,by omega⟩
     rw[ZDb]at hi
     have:=ZET o
     omega
   have hj:=al_get_get hkm
   rw[ZDE hj]
   exact λhx=>(i3 k _ hj).2 ((z1 _).mpr (.inl hx))
  ·rw[hσo id hx]at hlk
   exact λhx=>hlk ((z1 id).mpr (.inl hx))
 ·intro id l hi hl hlk
  simp only at hlk
  by_cases hx: ∃k,k<out.length/\ZAf dst ids k=id
  ·obtain⟨k,hk,rfl⟩:=hx
   have hkm:k<ids.length:=by
    by_cases hkm:k<ids.length
    ·exact hkm
    ·obtain⟨i,rfl⟩: ∃i,k=ids.length+i:=⟨k-ids.length,by omega⟩
     rw[ZDb]at hi
     have:=ZET o
     omega
   have hj:=al_get_get hkm
   have e1:=ZDE (dst:=dst) hj
   rw[e1]at hl
   rw[ZOB hinj hk]
   refine h01 k l ?_
   rw[hρids k _ hj];exact hl
  ·rw[ZDc hx]
   rw[hσo id hx]at hlk
   have hnf:id∉(cond e.shares (ZBe frz) []):=λhm=>hlk ((z1 id).mpr (.inr hm))
   rw[Z.keep id hnf];exact hl
 ·intro hcalm
  rw[hd]
  have hcc:e.shares=false/\e.muts=false:=by
   simp only[calm,ho]at hcalm
   cases fo<;>simp only at hcalm<;>try (cases hcalm;done)
   rename_i g
   simp only[opd,V.fn.injEq]at hfo
   rw[hfo.1,he]at hcalm
   simp at hcalm
   exact⟨hcalm.2,hcalm.1⟩
  have hids0:ids=[]:=by
   have:=hc.2
   rw[hcc.2]at this
   exact ZTr (by simpa using this)
  obtain⟨y1,y2,y3⟩:=Z0 (by rw[hcc.1];rfl)
  subst y1;subst y2;subst y3
  have hnone: ∀id k,k<out.length->ZAf dst ids k=id-> ∃i,id=dst+10000*i/\look sf.st id=none:=by
   intro id k hk e
   subst hids0
   have:=ZDb (dst:=dst) (ids:=[]) (j:=k)
   simp only[al_len_nil,Nat.zero_add]at this
   refine⟨k,by rw[<-e,this],?_⟩
   rw[<-e,this]
   exact(i4 k (by simpa using hk)).1
  refine⟨rfl,λid l hl=>B2.ids id l (λh=>h) hl,λid l hl=> ?_,λid b hl=> ?_,λid b hl=> ?_,λb hb=>hchg.block b hb λhm=> ?_,λb hb=> .inl hb⟩
  ·by_cases hx: ∃k,k<out.length/\ZAf dst ids k=id
   ·obtain⟨k,hk,e⟩:=hx
    obtain⟨i,e1,e2⟩:=hnone id k hk e
    right
    refine⟨⟨i,e1⟩,?_⟩
    simp only
    rw[<-e,hσ k hk,al_get_get hk];simp
   ·rw[ZDc hx]at hl;exact .inl hl
  ·simp only
   rw[hσo id (λ⟨k,hk,e⟩=>by obtain⟨i,_,e2⟩:=hnone id k hk e;rw[e2]at hl;cases hl)];exact hl
  ·simp only at hl
   by_cases hx: ∃k,k<out.length/\ZAf dst ids k=id
   ·obtain⟨k,hk,e⟩:=hx
    obtain⟨i,e1,e2⟩:=hnone id k hk e
    exact .inr ⟨i,e1⟩
   ·rw[hσo id hx]at hl;exact .inl hl
  ·obtain⟨j,id,loc,h1,_⟩:=hM0 b hm
   rw[hids0]at h1;simp at h1
 ·intro id l hl
  by_cases hx: ∃k,k<out.length/\ZAf dst ids k=id
  ·obtain⟨k,hk,rfl⟩:=hx
   left
   simp only
   rw[hσ k hk,al_get_get hk];simp
  ·rw[ZDc hx]at hl
   simp only
   rw[hσo id hx]
   cases hy:look sf.st id with
   | some b=>exact .inl (by simp)
   | none=>
    rcases (z1 id).mp hy with h1 | h1
    ·exact .inr ⟨h1,Z.ids id l hl⟩
    ·rw[Z.gone id h1]at hl;cases hl
 ·intro id l b hlk hl hb
  refine hchg.block b (hM b ⟨id,l,hl,hb⟩) λhm=> ?_
  obtain⟨j,id',loc,h1,_,h3,h4⟩:=hM0 b hm
  have:=H.inj id id' l loc b hl h3 hb h4
  subst this
  exact(i3 j _ h1).2 ((z1 _).mpr (.inl hlk))
end Ev
end
section
namespace Ev
open Go
theorem ZId{R:Type}{P:Program}{E:Env}{T:Tab}(hT:ZBW P T)(hE:EnvOK P E){ann:Nat->Bool}{o:Oper}{s:St}{K:V->St->Option R}{r:R}
  (h:evOp E T ann (idOf o) o.op s K=some r): ∃v s',K v s'=some r/\OpOK P (calm E ann o=true) o s v s':=by
 by_cases hn:ZIZ o.op
 ·exact ZTf hT rfl hn h
 ·cases hop:o.op<;>rw[hop]at hn<;>simp only[ZIZ]at hn<;>try (exact absurd trivial hn)
  rename_i c
  obtain⟨callee,args,ts⟩:=c
  cases callee<;>simp only[ZIZ]at hn<;>try (exact absurd trivial hn)
  rename_i fo
  rw[hop]at h
  simp only[evOp]at h
  split at h<;>try (cases h;done)
  rename_i g cap hfo
  rw[ZFz]at h
  exact ZTs hE hop rfl hfo h
theorem ZF8{R:Type} : ∀ {fr:List V} {d:Nat} {v:V} {K:List V->Option R} {r:R},setK fr d v K=some r->
  ∃fr',K fr'=some r/\d<fr.length/\fr'.length=fr.length/\get fr' d=v/\(∀t,t≠d->get fr' t=get fr t)/\(get fr d=v->fr'=fr)
 | [],d,v,K,r,h=>by simp[setK]at h
 | x::xs,0,v,K,r,h=>⟨_,h,by simp,by simp,rfl,λt ht=>by cases t<;>first | exact absurd rfl ht | rfl,λe=>by simp only[get]at e;rw[e]⟩
 | x::xs,d+1,v,K,r,h=>by
  simp only[setK]at h
  obtain⟨fr',hk,h1,h2,h3,h4,h5⟩:=ZF8 h
  refine⟨_,hk,by simpa using h1,by simp[h2],h3,λt ht=> ?_,λe=>by rw[h5 e]⟩
  cases t with
  | zero=>rfl
  | succ t=>exact h4 t (by omega)
theorem ZTt{fr:List V}{t:Nat}(h:get fr t≠ .undef):t<fr.length:=by
 induction fr generalizing t with
 | nil=>exact absurd rfl h
 | cons x xs ih=>
  cases t with
  | zero=>simp
  | succ t=>simpa using ih (t:=t) h
structure PutR(s:St)(dst:Option Nat)(v:V)(s':St):Prop where
 st:s'.st=s.st
 len:s'.fr.length=s.fr.length
 at_: ∀d,dst=some d->d<s.fr.length/\get s'.fr d=v
 oth: ∀t,dst≠some t->get s'.fr t=get s.fr t
theorem ZDd{R:Type}{s:St}{dst:Option Nat}{v:V}{K:St->Option R}{r:R}(h:putK s dst v K=some r): ∃s',K s'=some r/\PutR s dst v s':=by
 unfold putK at h
 split at h
 ·obtain⟨fr',hk,h1,h2,h3,h4,_⟩:=ZF8 h
  exact⟨_,hk,rfl,h2,λd hd=>by cases hd;exact⟨h1,h3⟩,λt ht=>h4 t λe=>ht (by rw[e])⟩
 ·exact⟨s,h,rfl,rfl,λd hd=>(by cases hd),λ_ _=>rfl⟩
def ZDG(ops:List Oper)(s:St)(o:Oper):Prop:=match o.guard with
 | none=>True
 | some (j,want)=> ∃g,ZEL ops j=some g/\get s.fr g= .bool want
def ZDH(ops:List Oper)(s:St)(o:Oper):Prop:=match o.guard with
 | none=>False
 | some (j,want)=> ∃g,ZEL ops j=some g/\(get s.fr g= .bool (!want)\/get s.fr g= .tup [])
def ZF9(P:Program)(E:Env)(ann:Nat->Bool)(ops:List Oper)(o:Oper)(s:St)(v:V)(s':St):Prop:=
 (ZDG ops s o/\ ∃s1,OpOK P (calm E ann o=true) o s v s1/\PutR s1 o.dst v s')\/(ZDH ops s o/\v= .tup []/\PutR s o.dst v s')
theorem ZHD{R:Type}{P:Program}{E:Env}{T:Tab}(hT:ZBW P T)(hE:EnvOK P E){ann:Nat->Bool}{ops:List Oper} : ∀ {os:List Oper} {s:St} {K:St->Option R} {r:R},ZBD E T ann ops os s K=some r->
  ∃(S:Nat->St) (v:Nat->V),S 0=s/\K (S os.length)=some r/\ ∀(i:Nat) o,os[i]?=some o->ZF9 P E ann ops o (S i) (v i) (S (i+1))
 | [],s,K,r,h=>⟨λ_=>s,λ_=> .undef,rfl,h,λi o h=>by simp at h⟩
 | o::os,s,K,r,h=>by
  have step: ∃v s',ZF9 P E ann ops o s v s'/\ZBD E T ann ops os s' K=some r:=by
   unfold ZBD at h
   split at h
   ·rename_i hg
    obtain⟨v,s1,h,ok⟩:=ZId hT hE h
    obtain⟨s',h,hp⟩:=ZDd h
    exact⟨v,s',.inl ⟨by unfold ZDG;rw[hg];trivial,s1,ok,hp⟩,h⟩
   ·rename_i j want hg
    split at h<;>try (cases h;done)
    rename_i g hgd
    split at h<;>try (cases h;done)
    ·rename_i b hb
     by_cases hbw:b=want
     ·have hc:cond want b (!b)=true:=by subst hbw;cases b<;>rfl
      rw[hc,al_cond_true]at h
      obtain⟨fr',h,_,_,_,_,h5⟩:=ZF8 h
      have e:=h5 (by rw[hb,hbw])
      subst e
      obtain⟨v,s1,h,ok⟩:=ZId (s:=⟨s.fr,s.st⟩) hT hE h
      obtain⟨s',h,hp⟩:=ZDd h
      exact⟨v,s',.inl ⟨by unfold ZDG;rw[hg];exact⟨g,hgd,by rw[hb,hbw]⟩,s1,ok,hp⟩,h⟩
     ·have hc:cond want b (!b)=false:=by cases want<;>cases b<;>first | rfl | exact absurd rfl hbw
      have hbn:b= !want:=by cases want<;>cases b<;>first | rfl | exact absurd rfl hbw
      rw[hc,al_cond_false]at h
      obtain⟨fr',h,_,_,_,_,h5⟩:=ZF8 h
      have e:=h5 (by rw[hb,hbn])
      subst e
      obtain⟨s',h,hp⟩:=ZDd h
      exact⟨.tup [],s',.inr ⟨by unfold ZDH;rw[hg];exact⟨g,hgd,.inl (by rw[hb,hbn])⟩,rfl,hp⟩,h⟩
    ·rename_i hb
     obtain⟨s',h,hp⟩:=ZDd h
     exact⟨.tup [],s',.inr ⟨by unfold ZDH;rw[hg];exact⟨g,hgd,.inr hb⟩,rfl,hp⟩,h⟩
  obtain⟨v0,s1,st0,h⟩:=step
  obtain⟨S,v,hS,hk,hst⟩:=ZHD hT hE h
  refine⟨λi=>match i with | 0=>s | i+1=>S i,λi=>match i with | 0=>v0 | i+1=>v i,rfl,hk,λi o' hi=> ?_⟩
  cases i with
  | zero=>simp at hi;subst hi;simp only[hS];exact st0
  | succ i=>exact hst i o' (by simpa using hi)
structure Ctx where
 W0:World
 F0:Nat->Prop
 ρ0:Rho
structure Base(C:Ctx)(ρ:Rho)(F:Nat->Prop)(st:ZAI)(w:World):Prop where
 chg:Chg C.ρ0.M C.W0 w
 mb: ∀b,ρ.M b->b<C.W0.heap.size->C.ρ0.M b
 stb: ∀b,F b->b<C.W0.heap.size->C.F0 b\/C.ρ0.M b
 par: ∀j l,j<100->C.ρ0 j=some l->look st j≠none->ρ j=some l
structure SR(C:Ctx)(s:St)(a:Act)(w:World):Prop where
 defers:a.defers=[]
 len:s.fr.length<=a.tmps.size
 ex: ∃ρ F,Core ρ F s.st w/\Dom ρ s.st/\Base C ρ F s.st w/\ ∀t,RelT ρ F w (get s.fr t) (a.tmps.getD t undef)
theorem ZF{ρ:Rho}{F:Nat->Prop}{σ:ZAI}{w:World}(H:Core ρ F σ w)(D:Dom ρ σ): ∀b,ρ.M b->b<w.heap.size:=by
 rintro b ⟨id,loc,h,hb⟩
 cases hl:look σ id with
 | none=>exact absurd hl (D id loc h)
 | some blk=>exact(H.heap id loc blk h hl).lt hb
theorem Base.step{C:Ctx}{ρ ρ':Rho}{F F':Nat->Prop}{st st':ZAI}{w w':World}(B:Base C ρ F st w)(S:Stp ρ F w ρ' F' w')(hM: ∀b,ρ.M b->b<w.heap.size)
  (hp: ∀j l,j<100->ρ j=some l->look st' j≠none->ρ' j=some l) (hn: ∀j,j<100->look st' j≠none->look st j≠none):Base C ρ' F' st' w':=by
 refine⟨B.chg.trans S.chg (λ_ h=>h) (λx hx h=>B.mb x h hx),λb hb hlt=> ?_,λb hb hlt=> ?_,λj l hj hl hk=> ?_⟩
 ·rcases S.mb b hb with h | h
  ·exact B.mb b h hlt
  ·have:=B.chg.size;omega
 ·rcases S.stb b hb with h | h | h
  ·exact B.stb b h hlt
  ·exact .inr (B.mb b h hlt)
  ·have:=B.chg.size;omega
 ·exact hp j l hj (B.par j l hj hl (hn j hj hk)) hk
theorem ZEU{a:Act}{dst:Option Nat}{c:Value} :(∀d,dst=some d->d<a.tmps.size->(a.put dst c).tmps.getD d undef=c)/\(∀t,dst≠some t->(a.put dst c).tmps.getD t undef=a.tmps.getD t undef)/\(a.put dst c).tmps.size=a.tmps.size/\(a.put dst c).defers=a.defers:=by
 cases dst with
 | none=>exact⟨λd h=>(by cases h),λ_ _=>rfl,rfl,rfl⟩
 | some d=>
  refine⟨λd' h hl=> ?_,λt ht=> ?_,by simp[Act.put],rfl⟩
  ·cases h;simp[Act.put,hl]
  ·have:d≠t:=λe=>ht (by rw[e])
   simp[Act.put,Array.getElem?_setIfInBounds_ne this]
theorem ZIe{ops:Array Oper}{s:St}{a:Act}{o:Oper}{ρ:Rho}{F:Nat->Prop}{w:World}(hlen:s.fr.length<=a.tmps.size)
  (hr: ∀j want g,o.guard=some (j,want)->ZEL ops.toList j=some g->RelT ρ F w (get s.fr g) (a.tmps.getD g undef)):
  (ZDG ops.toList s o->Region.wanted o (yielded ops a.tmps)=true)/\(ZDH ops.toList s o->Region.wanted o (yielded ops a.tmps)=false):=by
 have dst: ∀j g,ZEL ops.toList j=some g->(ops[j]?).bind (·.dst)=some g:=by
  intro j g h
  unfold ZEL at h
  rw[Array.getElem?_toList]at h
  cases hj:ops[j]? with
  | none=>simp[hj]at h
  | some x=>simp[hj]at h;simp[h]
 have cell: ∀g,get s.fr g≠ .undef->a.tmps[g]?=some (a.tmps.getD g undef):=by
  intro g h
  have:=ZTt h
  simp[show g<a.tmps.size by omega]
 constructor
 ·intro h
  unfold ZDG at h
  split at h
  ·rename_i hg;simp[Region.wanted,hg]
  ·rename_i j want hg
   obtain⟨g,h1,h2⟩:=h
   have r:=hr j want g hg h1
   rw[h2]at r
   have e:a.tmps.getD g undef= .bool want:=r
   simp[Region.wanted,hg,yielded,dst j g h1,cell g (by rw[h2];simp),e]
 ·intro h
  unfold ZDH at h
  split at h
  ·exact h.elim
  ·rename_i j want hg
   obtain⟨g,h1,h2⟩:=h
   have r:=hr j want g hg h1
   rcases h2 with h2 | h2
   ·rw[h2]at r
    have e:a.tmps.getD g undef= .bool (!want):=r
    simp[Region.wanted,hg,yielded,dst j g h1,cell g (by rw[h2];simp),e]
   ·rw[h2]at r
    obtain⟨ca,e,_⟩:=r
    simp[Region.wanted,hg,yielded,dst j g h1,cell g (by rw[h2];simp),e]
theorem ZKk{ρ:Rho}{F:Nat->Prop}{w:World} :RelT ρ F w (.tup []) undef:=⟨#[],rfl,rfl,λi v h=>by simp at h⟩
theorem ZKl{P:Program}{E:Env}{ann:Nat->Bool}{ops:Array Oper}{C:Ctx}{Q:Exit->Act->World->Prop}{N:Act->World->Prop}{o:Oper}{s s':St}{v:V}(st:ZF9 P E ann ops.toList o s v s')
  (hN: ∀a w,SR C s' a w->N a w) {a:Act} {w:World} (h:SR C s a w):
  if Region.wanted o (yielded ops a.tmps)then o.wp P a w N Q\/(o.asks P a w/\LetsOut Q)else N (a.put o.dst undef) w:=by
 obtain⟨ρ,F,H,D,B,hf⟩:=h.ex
 have hM:=ZF H D
 obtain⟨hw1,hw2⟩:=ZIe (ops:=ops) (s:=s) (a:=a) (o:=o) (ρ:=ρ) (F:=F) (w:=w) h.len (λ_ _ g _ _=>hf g)
 rcases st with ⟨hw,s1,ok,hp⟩ | ⟨hw,hv,hp⟩
 ·rw[al_if_pos (hw1 hw)]
  left
  refine ok ρ F a w H hM (λid hid _=> ?_) (λt _=>hf t) _ _ λc w' ρ' F' po=>hN _ _ ?_
  ·cases hx:ρ id with
   | none=>rfl
   | some l=>exact absurd hid (D id l hx)
  ·obtain⟨p1,p2,p3,p4⟩:=ZEU (a:=a) (dst:=o.dst) (c:=c)
   refine⟨p4.trans h.defers,?_,ρ',F',?_,?_,?_,λt=> ?_⟩
   ·rw[hp.len,po.len,p3];exact h.len
   ·rw[hp.st];exact po.core
   ·rw[hp.st];exact po.dom D
   ·rw[hp.st]
    exact B.step po.stp hM po.par po.low
   ·by_cases ht:o.dst=some t
    ·obtain⟨g1,g2⟩:=hp.at_ t ht
     rw[g2,p1 t ht (by rw[po.len]at g1;have:=h.len;omega)];exact po.val
    ·rw[hp.oth t ht,p2 t ht];exact po.fr t _ (hf t)
 ·rw[al_if_neg (by rw[hw2 hw];simp)]
  refine hN _ _ ?_
  obtain⟨p1,p2,p3,p4⟩:=ZEU (a:=a) (dst:=o.dst) (c:=undef)
  refine⟨p4.trans h.defers,by rw[hp.len,p3];exact h.len,ρ,F,by rw[hp.st];exact H,by rw[hp.st];exact D,by rw[hp.st];exact B,λt=> ?_⟩
  by_cases ht:o.dst=some t
  ·obtain⟨g1,g2⟩:=hp.at_ t ht
   rw[g2,p1 t ht (by have:=h.len;omega),hv];exact ZKk
  ·rw[hp.oth t ht,p2 t ht];exact hf t
theorem ZTu{C:Ctx}{s s':St}{a:Act}{w:World}{d:Option Nat}{v:V}{c:Value}(h:SR C s a w)(hp:PutR s d v s')(hv: ∀ρ F,RelT ρ F w v c):SR C s' (a.put d c) w:=by
 obtain⟨ρ,F,H,D,B,hf⟩:=h.ex
 obtain⟨p1,p2,p3,p4⟩:=ZEU (a:=a) (dst:=d) (c:=c)
 refine⟨p4.trans h.defers,by rw[hp.len,p3];exact h.len,ρ,F,by rw[hp.st];exact H,by rw[hp.st];exact D,by rw[hp.st];exact B,λt=> ?_⟩
 by_cases ht:d=some t
 ·obtain⟨g1,g2⟩:=hp.at_ t ht
  rw[g2,p1 t ht (by have:=h.len;omega)];exact hv ρ F
 ·rw[hp.oth t ht,p2 t ht];exact hf t
theorem ZOE{R:Type}{a b:Option R}{r:R}(h:both a b=some r):a=some r/\b=some r:=by
 unfold both at h
 split at h
 ·rename_i e;exact⟨h,e▸h⟩
 ·cases h
theorem ZIf{R:Type}{l:Bool}{a b:Option R}{r:R}(h:ZBm l a b=some r):b=some r/\(l=true->a=some r):=by
 unfold ZBm at h
 cases l with
 | true=>rw[al_cond_true]at h;exact⟨(ZOE h).2,λ_=>(ZOE h).1⟩
 | false=>rw[al_cond_false]at h;exact⟨h,λe=>by cases e⟩
theorem ZTv{o:Oper}(h:ZGs o=true): ∃op t x u,o.op= .binOp op t x (.const (.slice none 0 0)) u:=by
 unfold ZGs at h
 split at h
 ·rename_i op t x u hop;exact⟨op,t,x,u,hop⟩
 ·cases h
theorem ZTw{ρ:Rho}{F:Nat->Prop}{st:ZAI}{w:World}(H:Core ρ F st w){v:V}{c:Value}(r:RelT ρ F w v c):
  (v= .nils->c= .slice none 0 0)/\(∀t l,v= .lst t l-> ∃a n k,c= .slice a n k/\(a=none->l=[]))/\
  (∀id t l,v= .own id->look st id=some (.rows t l)-> ∃a n k,c= .slice a n k/\(a=none->l=[])):=by
 refine⟨λe=>by subst e;exact r,λt l e=> ?_,λid t l e hl=> ?_⟩
 ·subst e
  obtain⟨a,cap,e,_,h⟩:=r
  refine⟨a,_,cap,e,λha=> ?_⟩
  rcases h with h | ⟨b,s,hb,_⟩
  ·exact h
  ·rw[ha]at hb;cases hb
 ·subst e
  obtain⟨t0,a,len,cap,hρ,e⟩:=r
  refine⟨a,len,cap,e,λha=> ?_⟩
  obtain⟨_,_,_,h⟩:=ZCi H hρ hl
  rcases h with h | ⟨b,s,hb,_⟩
  ·exact h
  ·rw[ha]at hb;cases hb
theorem ZTx{P:Program}{t e:Nat}(ht:P.underlying t=some (.slice e))(a:Option Addr)(n k:Nat)(w:World):(Op.equal t (.slice a n k) (.slice none 0 0)).run P w= .ok a.isNone w:=by
 show(Op.equalIn (9999+1) t (.slice a n k) (.slice none 0 0)).run P w=_
 unfold Op.equalIn
 cases a<;>simp[run_underlying ht]
theorem ZOF{P:Program}{t e:Nat}(ht:P.underlying t=some (.slice e))(x y:Operand)(a:Option Addr)(n k:Nat)(w:World):
  (do eqGuard .eql t x y (.slice a n k) (.slice none 0 0);binOp .eql t (.slice a n k) (.slice none 0 0):Sem Value).run P w= .ok (.bool a.isNone) w/\
  (do eqGuard .neq t x y (.slice a n k) (.slice none 0 0);binOp .neq t (.slice a n k) (.slice none 0 0):Sem Value).run P w= .ok (.bool (!a.isNone)) w:=by
 constructor<;>simp[eqGuard,binOp,ZTx ht]
theorem ZTy{R:Type}{P:Program}{T:Tab}(hT:ZBW P T){ops:Array Oper}{o:Oper}{s:St}{K:St->Option R}{r:R}(hi:ZGs o=true)(h:nilK T o s K=some r){C:Ctx}{Q:Exit->Act->World->Prop}{N:Act->World->Prop}
  (hN: ∀s' a w,K s'=some r->SR C s' a w->N a w) {a:Act} {w:World} (hs:SR C s a w):
  if Region.wanted o (yielded ops a.tmps)then o.wp P a w N Q\/(o.asks P a w/\LetsOut Q)else N (a.put o.dst undef) w:=by
 obtain⟨op,t,x,u,hop⟩:=ZTv hi
 unfold nilK at h
 cases hg:o.guard with
 | some g=>simp[hg]at h
 | none=>
  cases hd:o.dst with
  | none=>simp[hg,hd]at h
  | some d=>
   simp only[hg,hd,hop]at h
   rw[al_if_pos (by simp[Region.wanted,hg])]
   left
   obtain⟨ρ,F,H,D,B,hf⟩:=hs.ex
   have hx:=ZCa (ρ:=ρ) (F:=F) (w:=w) (fr:=s.fr) (a:=a) x λt _=>hf t
   obtain⟨n1,n2,n3⟩:=ZTw H hx
   have fin: ∀(b:Bool),(execOp a.eval o).run P w= .ok (.value (.bool b)) w->putK s (some d) (.bool b) K=some r->o.wp P a w N Q:=by
    intro b hr hk
    unfold Oper.wp
    rw[hr]
    obtain⟨s',hk,hp⟩:=ZDd hk
    show N (a.put o.dst (.bool b)) w
    rw[hd]
    exact hN s' _ w hk (ZTu hs hp λρ F=>rfl)
   split at h
   ·rename_i ti hti
    obtain⟨dsc,hu,hk,_⟩:=(hT _ _ ‹_›).1.kind
    have hsl: ∃e,P.underlying t=some (.slice e):=by
     cases dsc<;>simp only[ZIN]at hk<;>first | exact⟨_,hu⟩ | exact hk.elim
    obtain⟨e,hu⟩:=hsl
    have run: ∀a0 n k,a.eval x= .slice a0 n k->(execOp a.eval o).run P w= .ok (.value (.bool a0.isNone)) w:=by
     intro a0 n k he
     have h1:(do eqGuard .eql t x (.const (.slice none 0 0)) (a.eval x) (a.eval (.const (.slice none 0 0)));binOp .eql t (a.eval x) (a.eval (.const (.slice none 0 0))):Sem Value).run P w= .ok (.bool a0.isNone) w:=by
      rw[he];exact(ZOF hu x (.const (.slice none 0 0)) a0 n k w).1
     simp only[execOp,hop,Sem.run_bind,h1,Result.andThen_ok,Sem.run_pure]
    split at h<;>try (cases h;done)
    ·rename_i hv
     exact fin true (run none 0 0 (n1 hv)) h
    ·rename_i t' l hv
     obtain⟨a0,n,k,he,hnil⟩:=n2 _ _ hv
     obtain⟨e1,e2⟩:=ZIf h
     cases a0 with
     | none=>exact fin true (run _ _ _ he) (e2 (by rw[hnil rfl];rfl))
     | some x=>exact fin false (run _ _ _ he) e1
    ·rename_i id hv
     split at h<;>try (cases h;done)
     rename_i t' l hl
     obtain⟨a0,n,k,he,hnil⟩:=n3 _ _ _ hv hl
     obtain⟨e1,e2⟩:=ZIf h
     cases a0 with
     | none=>exact fin true (run _ _ _ he) (e2 (by rw[hnil rfl];rfl))
     | some x=>exact fin false (run _ _ _ he) e1
   ·rename_i ti hti
    obtain⟨dsc,hu,hk,_⟩:=(hT _ _ ‹_›).1.kind
    have hsl: ∃e,P.underlying t=some (.slice e):=by
     cases dsc<;>simp only[ZIN]at hk<;>first | exact⟨_,hu⟩ | exact hk.elim
    obtain⟨e,hu⟩:=hsl
    have run: ∀a0 n k,a.eval x= .slice a0 n k->(execOp a.eval o).run P w= .ok (.value (.bool (!a0.isNone))) w:=by
     intro a0 n k he
     have h1:(do eqGuard .neq t x (.const (.slice none 0 0)) (a.eval x) (a.eval (.const (.slice none 0 0)));binOp .neq t (a.eval x) (a.eval (.const (.slice none 0 0))):Sem Value).run P w= .ok (.bool (!a0.isNone)) w:=by
      rw[he];exact(ZOF hu x (.const (.slice none 0 0)) a0 n k w).2
     simp only[execOp,hop,Sem.run_bind,h1,Result.andThen_ok,Sem.run_pure]
    split at h<;>try (cases h;done)
    ·rename_i hv
     exact fin false (run none 0 0 (n1 hv)) h
    ·rename_i t' l hv
     obtain⟨a0,n,k,he,hnil⟩:=n2 _ _ hv
     obtain⟨e1,e2⟩:=ZIf h
     cases a0 with
     | none=>exact fin false (run _ _ _ he) (e2 (by rw[hnil rfl];rfl))
     | some x=>exact fin true (run _ _ _ he) e1
    ·rename_i id hv
     split at h<;>try (cases h;done)
     rename_i t' l hl
     obtain⟨a0,n,k,he,hnil⟩:=n3 _ _ _ hv hl
     obtain⟨e1,e2⟩:=ZIf h
     cases a0 with
     | none=>exact fin false (run _ _ _ he) (e2 (by rw[hnil rfl];rfl))
     | some x=>exact fin true (run _ _ _ he) e1
   ·cases h
theorem ZKm{R:Type}{P:Program}{E:Env}{T:Tab}(hT:ZBW P T)(hE:EnvOK P E){ann:Nat->Bool}{ops:Array Oper}{C:Ctx}{Q:Exit->Act->World->Prop}{K:St->Option R}{r:R}(hQ: ∀s a w,K s=some r->SR C s a w->Q .normal a w):
  ∀(os:List Oper) (s:St),ZGt E T ann ops.toList os s K=some r-> ∀a w,SR C s a w->wpList P ops Q os a w
 | [],s,h,a,w,hs=>hQ s a w h hs
 | o::os,s,h,a,w,hs=>by
  simp only[ZGt]at h
  unfold wpList
  cases hi:ZGs o
  ·rw[hi,al_cond_false]at h
   obtain⟨S,v,h0,hk,hst⟩:=ZHD hT hE h
   refine ZKl (s:=s) (s':=S 1) (v:=v 0) (by have:=hst 0 o rfl;rw[h0]at this;exact this) (λa w hs'=>ZKm hT hE hQ os (S 1) hk a w hs') hs
  ·rw[hi,al_cond_true]at h
   exact ZTy hT hi h (λs' a w hk hs'=>ZKm hT hE hQ os s' hk a w hs') hs
end Ev
end
section
namespace Ev
open Go
structure Pure(dst:Nat)(s s':St):Prop where
 fr:s'.fr=s.fr
 up: ∀id b,look s.st id=some b->look s'.st id=some b
 dn: ∀id b,look s'.st id=some b->look s.st id=some b\/ZCC dst id
theorem Pure.refl{dst:Nat}{s:St} :Pure dst s s:=⟨rfl,λ_ _ h=>h,λ_ _ h=> .inl h⟩
theorem ZOG{st:ZAI}{i n:Nat}{b:Blk} :look ((i,b)::st) n=if i=n then some b else look st n:=by
 simp only[look]
 split
 ·subst_vars;simp
 ·rename_i h;rw[ZHA h];rfl
theorem Pure.new{dst d:Nat}{fr:List V}{st0 st:ZAI}{b:Blk}(h:look st d=none)(hd:ZCC dst d)(p:Pure dst ⟨fr,st0⟩ ⟨fr,st⟩):Pure dst ⟨fr,st0⟩ ⟨fr,(d,b)::st⟩:=by
 refine⟨rfl,λid b' hl=> ?_,λid b' hl=> ?_⟩
 ·have hl':=p.up id b' hl
  rw[ZOG,al_if_neg (λe=>by subst e;rw[h]at hl';cases hl')];exact hl'
 ·rw[ZOG]at hl
  split at hl
  ·rename_i e;subst e;exact .inr hd
  ·exact p.dn id b' hl
section
variable {R:Type} {dst:Nat}
theorem ZOH{fr:List V}{st0 st:ZAI}{d:Nat}{b:Blk}(hd:ZCC dst d)(p:Pure dst ⟨fr,st0⟩ ⟨fr,st⟩){K K':ZAI->Option R}
  (hk: ∀st',Pure dst ⟨fr,st0⟩ ⟨fr,st'⟩->K st'=K' st'):newK st d b K=newK st d b K':=by
 unfold newK
 split
 ·rename_i h;exact hk _ (p.new h hd)
 ·rfl
theorem ZOI{fr:List V}{st0:ZAI}{sh:Bool}{K K':ZAI->Option R}(hk: ∀st',Pure dst ⟨fr,st0⟩ ⟨fr,st'⟩->K st'=K' st'):
  ∀(bs:List Blk) (j:Nat) (st:ZAI),Pure dst ⟨fr,st0⟩ ⟨fr,st⟩->impB sh dst [] j bs st K=impB sh dst [] j bs st K'
 | [],j,st,p=>by simp only[impB];exact hk st p
 | b::bs,j,st,p=>by
  simp only[impB]
  rw[ZOH (K':=λst=>impB sh dst [] (j+1) bs st K') ⟨j,rfl⟩ p λst' p'=>ZOI hk bs (j+1) st' p']
theorem ZTz{E:Env}{f:Nat}{vs:List V}{s:St}{K K':V->St->Option R}(hc: ∀e,E f=some e->e.muts=false/\e.shares=false)
  (hk: ∀v s',Pure dst s s'->K v s'=K' v s'):ZCu E f dst vs s K=ZCu E f dst vs s K':=by
 unfold ZCu
 split
 ·rfl
 ·rename_i e he
  obtain⟨h1,h2⟩:=hc e he
  congr 1
  funext av ids frz
  rw[h1,h2]
  cases ids with
  | cons _ _=>simp[nilB]
  | nil=>
   simp only[al_cond_false,ZCt]
   congr 1
   congr 1
   funext bs
   congr 1
   funext res out
   refine ZOI (fr:=s.fr) (st0:=s.st) (λst' p'=> ?_) out 0 s.st Pure.refl
   congr 1
   funext v
   exact hk v ⟨s.fr,st'⟩ p'
theorem ZT0{ti:TI}{ann:Nat->Bool}{s:St}{x:V}{lo hi:Option V}{K K':V->St->Option R}(ha:ann dst=false)
  (hk: ∀v,K v s=K' v s):ZFp ti ann dst s x lo hi K=ZFp ti ann dst s x lo hi K':=by
 unfold ZFp
 simp only[ha,hk,al_cond_false]
theorem ZOJ{E:Env}{T:Tab}{ann:Nat->Bool}{o:Oper}{s:St}{K K':V->St->Option R}(hd:idOf o=dst)(hc:calm E ann o=true)
  (hk: ∀v s',Pure dst s s'->K v s'=K' v s'):evOp E T ann dst o.op s K=evOp E T ann dst o.op s K':=by
 have hs: ∀v,K v s=K' v s:=λv=>hk v s Pure.refl
 have hn: ∀b (v:V),newK s.st dst b (λst=>K v ⟨s.fr,st⟩)=newK s.st dst b (λst=>K' v ⟨s.fr,st⟩):=λb v=>
  ZOH (fr:=s.fr) (st0:=s.st) ⟨0,rfl⟩ Pure.refl λst' p=>hk v _ p
 unfold calm at hc
 cases hop:o.op with
 | call c=>
  rw[hop]at hc
  obtain⟨callee,args,ts⟩:=c
  cases callee with
  | value fo=>
   simp only[evOp]
   cases fo with
   | func f=>
    simp only[opd]
    congr 1
    funext vs
    refine ZTz (λe he=> ?_) hk
    simp only[he]at hc
    cases e1:e.muts<;>cases e2:e.shares<;>simp[e1,e2]at hc⊢
   | _=>simp at hc
  | builtin b=>
   simp only[evOp]
   congr 1
   funext vs
   unfold ZFq
   cases b<;>simp only[hs]<;>(try simp at hc)
   all_goals (split<;>first | rfl | contradiction)
  | invoke _ _=>rfl
 | slice t x lo hi mx=>
  rw[hop]at hc
  simp only[hd]at hc
  cases mx<;>simp only[evOp]
  split
  ·refine ZT0 (by simpa using hc) hs
  ·rfl
 | store _ _ _=>rw[hop]at hc;cases hc
 | makeFunc f first cap=>
  cases f<;>simp only[evOp,hs]
 | _=>simp only[evOp,hs,hn]
end
theorem ZKn{R:Type}{P:Program}{E:Env}{T:Tab}(hT:ZBW P T)(hE:EnvOK P E){ann:Nat->Bool}{ops:List Oper} : ∀ {os:List Oper} {s:St} {K:St->Option R} {r:R},
  ZGu E ann os=true->ZBD E T ann ops os s K=some r->
  ∃(S:Nat->St) (v:Nat->V),S 0=s/\K (S os.length)=some r/\ ∀(i:Nat) o,os[i]?=some o->
   calm E ann o=true/\((ZDG ops (S i) o/\ ∃s1,OpOK P (calm E ann o=true) o (S i) (v i) s1/\Pure (idOf o) (S i) s1/\PutR s1 o.dst (v i) (S (i+1)))\/
    (ZDH ops (S i) o/\v i= .tup []/\PutR (S i) o.dst (v i) (S (i+1))))
 | [],s,K,r,_,h=>⟨λ_=>s,λ_=> .undef,rfl,h,λi o h=>by simp at h⟩
 | o::os,s,K,r,hcs,h=>by
  simp only[ZGu]at hcs
  have hc:calm E ann o=true:=by cases h':calm E ann o<;>simp[h']at hcs⊢
  rw[hc,al_cond_true]at hcs
  have one: ∀ {K:V->St->Option R},evOp E T ann (idOf o) o.op s K=some r-> ∃v s1,K v s1=some r/\OpOK P (calm E ann o=true) o s v s1/\Pure (idOf o) s s1:=by
   intro K h
   classical
   rw[ZOJ (K':=λv s1=>if Pure (idOf o) s s1 then K v s1 else none) rfl hc (λv s1 p=>by rw[al_if_pos p])]at h
   obtain⟨v,s1,h,ok⟩:=ZId hT hE h
   split at h
   ·rename_i p;exact⟨v,s1,h,ok,p⟩
   ·cases h
  have step: ∃v s',((ZDG ops s o/\ ∃s1,OpOK P (calm E ann o=true) o s v s1/\Pure (idOf o) s s1/\PutR s1 o.dst v s')\/
    (ZDH ops s o/\v= .tup []/\PutR s o.dst v s'))/\ZBD E T ann ops os s' K=some r:=by
   unfold ZBD at h
   split at h
   ·rename_i hg
    obtain⟨v,s1,h,ok,p⟩:=one h
    obtain⟨s',h,hp⟩:=ZDd h
    exact⟨v,s',.inl ⟨by unfold ZDG;rw[hg];trivial,s1,ok,p,hp⟩,h⟩
   ·rename_i j want hg
    split at h<;>try (cases h;done)
    rename_i g hgd
    split at h<;>try (cases h;done)
    ·rename_i b hb
     by_cases hbw:b=want
     ·have hcd:cond want b (!b)=true:=by subst hbw;cases b<;>rfl
      rw[hcd,al_cond_true]at h
      obtain⟨fr',h,_,_,_,_,h5⟩:=ZF8 h
      have e:=h5 (by rw[hb,hbw])
      subst e
      obtain⟨v,s1,h,ok,p⟩:=one h
      obtain⟨s',h,hp⟩:=ZDd h
      exact⟨v,s',.inl ⟨by unfold ZDG;rw[hg];exact⟨g,hgd,by rw[hb,hbw]⟩,s1,ok,p,hp⟩,h⟩
     ·have hcd:cond want b (!b)=false:=by cases want<;>cases b<;>first | rfl | exact absurd rfl hbw
      have hbn:b= !want:=by cases want<;>cases b<;>first | rfl | exact absurd rfl hbw
      rw[hcd,al_cond_false]at h
      obtain⟨fr',h,_,_,_,_,h5⟩:=ZF8 h
      have e:=h5 (by rw[hb,hbn])
      subst e
      obtain⟨s',h,hp⟩:=ZDd h
      exact⟨.tup [],s',.inr ⟨by unfold ZDH;rw[hg];exact⟨g,hgd,.inl (by rw[hb,hbn])⟩,rfl,hp⟩,h⟩
    ·rename_i hb
     obtain⟨s',h,hp⟩:=ZDd h
     exact⟨.tup [],s',.inr ⟨by unfold ZDH;rw[hg];exact⟨g,hgd,.inr hb⟩,rfl,hp⟩,h⟩
  obtain⟨v0,s1,st0,h⟩:=step
  obtain⟨S,v,hS,hk,hst⟩:=ZKn hT hE hcs h
  refine⟨λi=>match i with | 0=>s | i+1=>S i,λi=>match i with | 0=>v0 | i+1=>v i,rfl,hk,λi o' hi=> ?_⟩
  cases i with
  | zero=>simp at hi;subst hi;simp only[hS];exact⟨hc,st0⟩
  | succ i=>exact hst i o' (by simpa using hi)
end Ev
end
section
namespace Ev
open Go
theorem ZEV(e:Edge):bnd e=Region.binds .any e:=by
 unfold bnd Region.binds
 cases e.ground<;>rfl
theorem ZHE{o:Oper}{t:Nat} :ZE2 o t=true↔o.dst=some t:=by
 unfold ZE2
 split
 ·rename_i d h
  constructor
  ·intro e;rw[h,ZAb e]
  ·intro e;rw[h]at e;cases e;simp
 ·rename_i h;simp[h]
theorem ZDI{o:Oper}{j:Nat} :ZBS o j=true↔ ∃e∈o.after,e.on=j/\Region.binds .any e=true:=by
 unfold ZBS
 simp only[List.any_eq_true,Array.mem_toList_iff]
 constructor
 ·rintro ⟨e,he,h⟩
  cases hb:Nat.beq e.on j
  ·simp[hb]at h
  ·simp only[hb,al_cond_true]at h
   exact⟨e,he,ZAb hb,by rw[<-ZEV];exact h⟩
 ·rintro ⟨e,he,rfl,h⟩
  exact⟨e,he,by simp[ZEV,h]⟩
structure Good(ops:List Oper):Prop where
 dst: ∀(i:Nat) (o:Oper),ops[i]?=some o-> ∃d:Nat,o.dst=some d/\d<9000
 uniq: ∀(i j:Nat) (o x:Oper) (d:Nat),ops[i]?=some o->ops[j]?=some x->o.dst=some d->x.dst=some d->i=j
 back: ∀(i:Nat) (o:Oper),ops[i]?=some o-> ∀e∈o.after,Region.binds .any e=true->e.on<i
 grd: ∀(i:Nat) (o:Oper),ops[i]?=some o-> ∀j want,o.guard=some (j,want)->ZBS o j=true
 tie: ∀(i:Nat) (o:Oper),ops[i]?=some o-> ∀t∈ZA8 o,∀(j:Nat) (x:Oper),ops[j]?=some x->x.dst=some t->i=j\/(j<i/\ZBS o j=true)\/(i<j/\ZBS x i=true)
theorem ZOK{i:Nat}{o:Oper}{t:Nat} : ∀(l:List Oper) (k:Nat),tied i o t k l=true-> ∀j x,l[j]?=some x->x.dst=some t->i=k+j\/(k+j<i/\ZBS o (k+j)=true)\/(i<k+j/\ZBS x i=true)
 | [],k,h,j,x,hx,hd=>by simp at hx
 | y::l,k,h,j,x,hx,hd=>by
  simp only[tied,ZAJ]at h
  cases j with
  | zero=>
   simp only[List.getElem?_cons_zero,Option.some.injEq]at hx
   subst hx
   have h1:=h.1
   rw[ZHE.2 hd,al_cond_true]at h1
   simp only[Bool.or_eq_true]at h1
   rcases h1 with h1 | h1
   ·exact .inl (by simpa using ZAb h1)
   ·by_cases hlt:k<i
    ·rw[show Nat.blt k i=true by simpa[Nat.blt_eq]using hlt,al_cond_true]at h1
     exact .inr (.inl ⟨by simpa using hlt,by simpa using h1⟩)
    ·rw[show Nat.blt k i=false by rw[<-Bool.not_eq_true,Nat.blt_eq];exact hlt,al_cond_false]at h1
     by_cases he:i=k
     ·exact .inl (by simpa using he)
     ·exact .inr (.inr ⟨by omega,h1⟩)
  | succ j=>
   have:=ZOK l (k+1) h.2 j x (by simpa using hx) hd
   rw[show k+(j+1)=k+1+j by omega]
   exact this
theorem ZOL{ops:List Oper} : ∀(l:List Oper) (k:Nat),ZFr ops k l=true->
  (∀(i:Nat) (o:Oper),l[i]?=some o->ZIA ops (k+i) o=true)/\ ∀(i j:Nat) (o x:Oper) (d:Nat),l[i]?=some o->l[j]?=some x->o.dst=some d->x.dst=some d->i=j
 | [],k,h=>⟨λi o hi=>by simp at hi,λi j o x d hi=>by simp at hi⟩
 | y::l,k,h=>by
  simp only[ZFr,ZAJ]at h
  obtain⟨⟨h1,h2⟩,h3⟩:=h
  obtain⟨a,b⟩:=ZOL l (k+1) h3
  have ne: ∀(j:Nat) x d,l[j]?=some x->y.dst=some d->x.dst≠some d:=by
   intro j x d hx hy hxd
   have:=List.all_eq_true.1 h2 x (al_mem_get hx)
   rw[hy]at this
   simp[ZHE.2 hxd]at this
  refine⟨λi o hi=> ?_,λi j o x d hi hj ho hx=> ?_⟩
  ·cases i with
   | zero=>simp at hi;subst hi;exact h1
   | succ i=>rw[show k+(i+1)=k+1+i by omega];exact a i o (by simpa using hi)
  ·cases i with
   | zero=>
    simp at hi;subst hi
    cases j with
    | zero=>rfl
    | succ j=>exact absurd hx (ne j x d (by simpa using hj) ho)
   | succ i=>
    cases j with
    | zero=>simp at hj;subst hj;exact absurd ho (ne i o d (by simpa using hi) hx)
    | succ j=>rw[b i j o x d (by simpa using hi) (by simpa using hj) ho hx]
theorem ZOM{ops:List Oper}(h:ZFr ops 0 ops=true):Good ops:=by
 obtain⟨a,b⟩:=ZOL ops 0 h
 have a': ∀i o,ops[i]?=some o->ZIA ops i o=true:=λi o hi=>by simpa using a i o hi
 refine⟨λi o hi=> ?_,b,λi o hi e he hb=> ?_,λi o hi j want hg=> ?_,λi o hi t ht j x hx hd=> ?_⟩
 all_goals
  have:=a' i o hi
  simp only[ZIA,ZAJ]at this
  obtain⟨⟨⟨h1,h2⟩,h3⟩,h4⟩:=this
 ·split at h1
  ·rename_i d hd;exact⟨d,hd,by simpa[Nat.blt_eq]using h1⟩
  ·cases h1
 ·have:=List.all_eq_true.1 h2 e (by simpa using he)
  rw[ZEV,hb,al_cond_true]at this
  simpa[Nat.blt_eq]using this
 ·rw[hg]at h3;exact h3
 ·have:=ZOK ops 0 (List.all_eq_true.1 h4 t ht) j x hx hd
  simpa using this
structure Trace(P:Program)(E:Env)(ann:Nat->Bool)(full ops:List Oper)(S:Nat->St)(v:Nat->V):Prop where
 step: ∀(i:Nat) o,ops[i]?=some o->calm E ann o=true/\((ZDG full (S i) o/\ ∃s1,OpOK P (calm E ann o=true) o (S i) (v i) s1/\Pure (idOf o) (S i) s1/\PutR s1 o.dst (v i) (S (i+1)))\/
    (ZDH full (S i) o/\v i= .tup []/\PutR (S i) o.dst (v i) (S (i+1))))
section
variable {P:Program} {E:Env} {ann:Nat->Bool} {full ops:List Oper} {S:Nat->St} {v:Nat->V}
theorem Trace.one(H:Trace P E ann full ops S v){i:Nat}{o:Oper}(hi:ops[i]?=some o):
  (S (i+1)).fr.length=(S i).fr.length/\(∀d:Nat,o.dst=some d->d<(S i).fr.length/\get (S (i+1)).fr d=v i)/\(∀t,o.dst≠some t->get (S (i+1)).fr t=get (S i).fr t)/\
  (∀id b,look (S i).st id=some b->look (S (i+1)).st id=some b)/\(∀id b,look (S (i+1)).st id=some b->look (S i).st id=some b\/ZCC (idOf o) id):=by
 rcases (H.step i o hi).2 with ⟨_,s1,_,p,q⟩ | ⟨_,_,q⟩
 ·refine⟨by rw[q.len,p.fr],λd hd=> ?_,λt ht=> ?_,λid b hl=> ?_,λid b hl=> ?_⟩
  ·have:=q.at_ d hd;rw[p.fr]at this;exact this
  ·rw[q.oth t ht,p.fr]
  ·rw[q.st];exact p.up id b hl
  ·rw[q.st]at hl;exact p.dn id b hl
 ·exact⟨q.len,q.at_,q.oth,λid b hl=>by rw[q.st];exact hl,λid b hl=>by rw[q.st]at hl;exact .inl hl⟩
theorem Trace.len(H:Trace P E ann full ops S v): ∀i,i<=ops.length->(S i).fr.length=(S 0).fr.length
 | 0,_=>rfl
 | i+1,h=>by
  obtain⟨o,ho⟩: ∃o,ops[i]?=some o:=⟨ops[i],by simp⟩
  rw[(H.one ho).1,H.len i (by omega)]
theorem Trace.up(H:Trace P E ann full ops S v){id:Nat}{b:Blk}{i:Nat}(hl:look (S i).st id=some b): ∀k,i+k<=ops.length->look (S (i+k)).st id=some b
 | 0,_=>hl
 | k+1,h=>by
  obtain⟨o,ho⟩: ∃o,ops[i+k]?=some o:=⟨ops[i+k],by simp⟩
  exact(H.one ho).2.2.2.1 id b (H.up hl k (by omega))
theorem Trace.dn(H:Trace P E ann full ops S v){id:Nat}{b:Blk} : ∀i,i<=ops.length->look (S i).st id=some b->look (S 0).st id=some b\/ ∃j o,j<i/\ops[j]?=some o/\ZCC (idOf o) id
 | 0,_,h=> .inl h
 | i+1,hi,h=>by
  obtain⟨o,ho⟩: ∃o,ops[i]?=some o:=⟨ops[i],by simp⟩
  rcases (H.one ho).2.2.2.2 id b h with h | h
  ·rcases H.dn i (by omega) h with h | ⟨j,o',hj,ho',hn⟩
   ·exact .inl h
   ·exact .inr ⟨j,o',by omega,ho',hn⟩
  ·exact .inr ⟨i,o,by omega,ho,h⟩
theorem Trace.slot(H:Trace P E ann full ops S v)(G:Good ops)(t:Nat): ∀i,i<=ops.length->(∃j o,j<i/\ops[j]?=some o/\o.dst=some t/\get (S i).fr t=v j)\/((∀j o,j<i->ops[j]?=some o->o.dst≠some t)/\get (S i).fr t=get (S 0).fr t)
 | 0,_=> .inr ⟨λj o hj=>by omega,rfl⟩
 | i+1,hi=>by
  obtain⟨o,ho⟩: ∃o,ops[i]?=some o:=⟨ops[i],by simp⟩
  by_cases ht:o.dst=some t
  ·exact .inl ⟨i,o,by omega,ho,ht,((H.one ho).2.1 t ht).2⟩
  ·have e:=(H.one ho).2.2.1 t ht
   rcases H.slot G t i (by omega)with ⟨j,x,hj,hx,hd,hv⟩ | ⟨h1,h2⟩
   ·exact .inl ⟨j,x,by omega,hx,hd,e.trans hv⟩
   ·refine .inr ⟨λj x hj hx=> ?_,e.trans h2⟩
    by_cases hji:j=i
    ·subst hji;rw[ho]at hx;cases hx;exact ht
    ·exact h1 j x (by omega) hx
end
structure Mid(C:Ctx)(ops:List Oper)(S:Nat->St)(v:Nat->V)(D:Nat->Prop)(a:Act)(w:World):Prop where
 defers:a.defers=[]
 len:(S 0).fr.length<=a.tmps.size
 ex: ∃ρ F,Core ρ F (S ops.length).st w/\Dom ρ (S ops.length).st/\Base C ρ F (S ops.length).st w/\
  (∀id l,ρ id=some l->look (S 0).st id≠none\/ ∃j o,D j/\ops[j]?=some o/\ZCC (idOf o) id)/\
  ∀t,(∃j o,D j/\ops[j]?=some o/\o.dst=some t/\RelT ρ F w (v j) (a.tmps.getD t undef))\/((∀j o,D j->ops[j]?=some o->o.dst≠some t)/\RelT ρ F w (get (S 0).fr t) (a.tmps.getD t undef))
theorem ZBn{st:ZAI}{id:Nat}(h:look st id≠none): ∃b,look st id=some b:=by
 cases hl:look st id with
 | none=>exact absurd hl h
 | some b=>exact⟨b,rfl⟩
theorem ZON{ops:List Oper}(G:Good ops){i j:Nat}{o x:Oper}{id:Nat}(hi:ops[i]?=some o)(hj:ops[j]?=some x)(h1:ZCC (idOf o) id)(h2:ZCC (idOf x) id):i=j:=by
 obtain⟨d,hd,hlt⟩:=G.dst i o hi
 obtain⟨d',hd',hlt'⟩:=G.dst j x hj
 obtain⟨k,e⟩:=h1
 obtain⟨k',e'⟩:=h2
 simp only[idOf,hd,hd',Option.getD_some]at e e'
 have:d=d':=by omega
 subst this
 exact G.uniq i j o x d hi hj hd hd'
theorem ZT1{P:Program}{E:Env}{ann:Nat->Bool}{full:Array Oper}{ops:List Oper}{S:Nat->St}{v:Nat->V}{C:Ctx}{Q:Exit->Act->World->Prop}(hfull: ∀(i:Nat) (o:Oper),ops[i]?=some o->full[i]?=some o)(H:Trace P E ann full.toList ops S v)(G:Good ops)
  {D:Nat->Prop} {K:Act->World->Prop} {i:Nat} {o:Oper} (hi:ops[i]?=some o) (hD: ¬D i) (hpre: ∀j,ZBS o j=true->D j) (hcl: ∀j x,D j->ops[j]?=some x->ZBS x i=true->D i)
  {a:Act} {w:World} (M:Mid C ops S v D a w) (hK: ∀a w,Mid C ops S v (λj=>D j\/j=i) a w->K a w):wpOp P full Q i K a w:=by
 obtain⟨ρ,F,HC,DM,B,own,hs⟩:=M.ex
 have hil:i<ops.length:=(al_get_iff.mp hi).1
 have hM:=ZF HC DM
 have upn: ∀k id b,k<=ops.length->look (S k).st id=some b->look (S ops.length).st id=some b:=λk id b hk h=>by
  have:=H.up h (ops.length-k) (by omega)
  rwa[show k+(ops.length-k)=ops.length by omega]at this
 have up0: ∀k id b,k<=ops.length->look (S 0).st id=some b->look (S k).st id=some b:=λk id b hk h=>by
  have:=H.up h k (by omega)
  rwa[Nat.zero_add]at this
 have rd: ∀t j x,(t∈ZA8 o)->ops[j]?=some x->x.dst=some t->j<i->D j:=λt j x ht hx hd hj=>by
  rcases G.tie i o hi t ht j x hx hd with e | ⟨_,h⟩ | ⟨h,_⟩
  ·omega
  ·exact hpre j h
  ·omega
 have slot: ∀t,(∀j x,ops[j]?=some x->x.dst=some t->j<i->D j)->(∀j x,ops[j]?=some x->x.dst=some t->D j->j<i)->RelT ρ F w (get (S i).fr t) (a.tmps.getD t undef):=by
  intro t h1 h2
  rcases H.slot G t i (by omega)with ⟨j,x,hj,hx,hd,hv⟩ | ⟨hno,hv⟩
  ·rw[hv]
   rcases hs t with ⟨j',x',hj',hx',hd',r⟩ | ⟨hno,_⟩
   ·have:=G.uniq j j' x x' t hx hx' hd hd'
    subst this
    exact r
   ·exact absurd hd (hno j x (h1 j x hx hd hj) hx)
  ·rw[hv]
   rcases hs t with ⟨j',x',hj',hx',hd',r⟩ | ⟨_,r⟩
   ·exact absurd hd' (hno j' x' (h2 j' x' hx' hd' hj') hx')
   ·exact r
 obtain⟨hw1,hw2⟩:=ZIe (ops:=full) (s:=S i) (a:=a) (o:=o) (ρ:=ρ) (F:=F) (w:=w) (by rw[H.len i (by omega)];exact M.len) λj want g hg hgd=>by
  have hp:=G.grd i o hi j want hg
  have hjD:=hpre j hp
  have hji:j<i:=by
   obtain⟨e,he,rfl,hb⟩:=ZDI.1 hp
   exact G.back i o hi e he hb
  unfold ZEL at hgd
  split at hgd
  ·rename_i x hx0
   have hx:ops[j]?=some x:=by
    have h1:ops[j]?=some ops[j]:=by simp
    have h2:=hfull j _ h1
    have h3:full[j]?=some x:=by simpa using hx0
    rw[h2]at h3;cases h3;exact h1
   refine slot g (λj' x' hx' hd' _=> ?_) (λj' x' hx' hd' _=> ?_)
   ·rw[G.uniq j' j x' x g hx' hx hd' hgd];exact hjD
   ·rw[G.uniq j' j x' x g hx' hx hd' hgd]
    obtain⟨e,he,rfl,hb⟩:=ZDI.1 hp
    exact G.back i o hi e he hb
  ·cases hgd
 have hi':full[i]?=some o:=hfull i o hi
 obtain⟨d,hd,hdlt⟩:=G.dst i o hi
 obtain⟨q1,q2,q3,q4,q5⟩:=H.one hi
 have hlen:=H.len i (by omega)
 unfold wpOp
 simp only[hi']
 obtain⟨hcalm,hst⟩:=H.step i o hi
 rcases hst with ⟨hw,s1,ok,hp,hq⟩ | ⟨hw,hv,hq⟩
 ·rw[al_if_pos (hw1 hw)]
  left
  have hcore:Core ρ F (S i).st w:=⟨λid loc blk h1 h2=>HC.heap id loc blk h1 (upn i id blk (by omega) h2),HC.inj,HC.stable,HC.glob⟩
  refine ok ρ F a w hcore hM (λid hid hnew=> ?_) (λt ht=> ?_) _ _ λc w' ρ' F' po=>hK _ _ ?_
  ·cases hx:ρ id with
   | none=>rfl
   | some l=>
    exfalso
    rcases own id l hx with h | ⟨j,x,hj,hx',hn⟩
    ·obtain⟨b,hb⟩:=ZBn h
     rw[up0 i id b (by omega) hb]at hid;cases hid
    ·have:=ZON G hi hx' hnew hn
     subst this
     exact hD hj
  ·have htm:t∈ZA8 o:=by
    unfold ZA8
    rw[List.mem_filterMap]
    exact⟨.tmp t,by simpa[ZBU]using ht,rfl⟩
   refine slot t (λj x hx hdx hj=>rd t j x htm hx hdx hj) (λj x hx hdx hj=> ?_)
   rcases G.tie i o hi t htm j x hx hdx with e | ⟨h,_⟩ | ⟨h,hpx⟩
   ·subst e;exact absurd hj hD
   ·exact h
   ·exact absurd (hcl j x hj hx hpx) hD
  ·obtain⟨c1,c2,c3,c4,c5,c6,c7⟩:=po.calm hcalm
   have hst1:s1.st=(S (i+1)).st:=hq.st.symm
   have ext:Ext (λ_=>False) ρ F w ρ' F' w':=⟨λid l _ h=>c2 id l h,c7,λb hb=>c6 b (HC.stable b hb).1⟩
   obtain⟨p1,p2,p3,p4⟩:=ZEU (a:=a) (dst:=o.dst) (c:=c)
   have hsz:d<a.tmps.size:=by
    have:=(q2 d hd).1
    rw[hlen]at this
    have:=M.len
    omega
   refine⟨p4.trans M.defers,by rw[p3];exact M.len,ρ',F',?_,?_,?_,?_,λt=> ?_⟩
   ·refine⟨λid loc blk h1 h2=> ?_,po.core.inj,po.core.stable,po.core.glob⟩
    rcases c3 id loc h1 with h | ⟨_,h⟩
    ·refine(HC.heap id loc blk h h2).weaken (λb hb=>c6 b (hM b ⟨id,loc,h,hb⟩)) ?_
     cases blk with
     | rows t l=>rfl
     | box cs=>
      refine⟨rfl,λk u u' h1 h2 c r=> ?_⟩
      rw[h1]at h2;cases h2
      exact RelC.ext0 ext r
    ·obtain⟨b,hb⟩:=ZBn h
     have:=upn (i+1) id b (by omega) (by rw[<-hst1];exact hb)
     rw[h2]at this;cases this
     exact po.core.heap id loc blk h1 hb
   ·intro id l h
    rcases c3 id l h with h | ⟨_,h⟩
    ·exact DM id l h
    ·obtain⟨b,hb⟩:=ZBn h
     rw[upn (i+1) id b (by omega) (by rw[<-hst1];exact hb)];simp
   ·exact B.step po.stp hM (λj l _ h _=>c2 j l h) (λ_ _ h=>h)
   ·intro id l h
    rcases c3 id l h with h | ⟨h,_⟩
    ·rcases own id l h with h | ⟨j,x,hj,hx,hn⟩
     ·exact .inl h
     ·exact .inr ⟨j,x,.inl hj,hx,hn⟩
    ·exact .inr ⟨i,o,.inr rfl,hi,h⟩
   ·by_cases ht:o.dst=some t
    ·refine .inl ⟨i,o,.inr rfl,hi,ht,?_⟩
     have e:t=d:=by rw[hd]at ht;cases ht;rfl
     rw[p1 t ht (by rw[e];exact hsz)]
     exact po.val
    ·rw[p2 t ht]
     rcases hs t with ⟨j,x,hj,hx,hdx,r⟩ | ⟨hno,r⟩
     ·exact .inl ⟨j,x,.inl hj,hx,hdx,RelT.ext0 ext r⟩
     ·refine .inr ⟨λj x hj hx=> ?_,RelT.ext0 ext r⟩
      rcases hj with hj | rfl
      ·exact hno j x hj hx
      ·rw[hi]at hx;cases hx;exact ht
 ·rw[al_if_neg (by rw[hw2 hw];simp)]
  refine hK _ _ ?_
  obtain⟨p1,p2,p3,p4⟩:=ZEU (a:=a) (dst:=o.dst) (c:=undef)
  have hsz:d<a.tmps.size:=by
   have:=(q2 d hd).1
   rw[hlen]at this
   have:=M.len
   omega
  refine⟨p4.trans M.defers,by rw[p3];exact M.len,ρ,F,HC,DM,B,λid l h=> ?_,λt=> ?_⟩
  ·rcases own id l h with h | ⟨j,x,hj,hx,hn⟩
   ·exact .inl h
   ·exact .inr ⟨j,x,.inl hj,hx,hn⟩
  ·by_cases ht:o.dst=some t
   ·refine .inl ⟨i,o,.inr rfl,hi,ht,?_⟩
    have e:t=d:=by rw[hd]at ht;cases ht;rfl
    rw[p1 t ht (by rw[e];exact hsz),hv]
    exact ZKk
   ·rw[p2 t ht]
    rcases hs t with ⟨j,x,hj,hx,hdx,r⟩ | ⟨hno,r⟩
    ·exact .inl ⟨j,x,.inl hj,hx,hdx,r⟩
    ·refine .inr ⟨λj x hj hx=> ?_,r⟩
     rcases hj with hj | rfl
     ·exact hno j x hj hx
     ·rw[hi]at hx;cases hx;exact ht
theorem ZKo{P:Program}{E:Env}{ann:Nat->Bool}{full ops:List Oper}{S:Nat->St}{v:Nat->V}{C:Ctx}(H:Trace P E ann full ops S v)(G:Good ops)
  {D:Nat->Prop} {a:Act} {w:World} (M:Mid C ops S v D a w) (hD: ∀j,j<ops.length->D j):SR C (S ops.length) a w:=by
 obtain⟨ρ,F,HC,DM,B,own,hs⟩:=M.ex
 refine⟨M.defers,by rw[H.len _ (Nat.le_refl _)];exact M.len,ρ,F,HC,DM,B,λt=> ?_⟩
 rcases H.slot G t ops.length (Nat.le_refl _)with ⟨j,x,hj,hx,hd,hv⟩ | ⟨hno,hv⟩
 ·rw[hv]
  rcases hs t with ⟨j',x',hj',hx',hd',r⟩ | ⟨hno,_⟩
  ·have:=G.uniq j j' x x' t hx hx' hd hd'
   subst this
   exact r
  ·exact absurd hd (hno j x (hD j hj) hx)
 ·rw[hv]
  rcases hs t with ⟨j',x',hj',hx',hd',r⟩ | ⟨_,r⟩
  ·exact absurd hd' (hno j' x' (al_get_iff.mp hx').1 hx')
  ·exact r
theorem ZOO{C:Ctx}{full ops:List Oper}{P:Program}{E:Env}{ann:Nat->Bool}{S:Nat->St}{v:Nat->V}(H:Trace P E ann full ops S v){a:Act}{w:World}(h:SR C (S 0) a w):Mid C ops S v (λ_=>False) a {w with drawn:=w.drawn+1} :=by
 obtain⟨ρ,F,HC,DM,B,hs⟩:=h.ex
 have up0: ∀id b,look (S 0).st id=some b->look (S ops.length).st id=some b:=λid b h=>by
  have:=H.up h ops.length (by omega)
  rwa[Nat.zero_add]at this
 have chg:Chg (λ_=>False) w {w with drawn:=w.drawn+1} :=⟨rfl,rfl,rfl,Nat.le_refl _,λ_ _ _=>rfl,DR.succ _⟩
 have ext:Ext (λ_=>False) ρ F w ρ F {w with drawn:=w.drawn+1} :=⟨λ_ _ _ h=>h,λ_ h=>h,λ_ _=>rfl⟩
 have HC':Core ρ F (S 0).st {w with drawn:=w.drawn+1} :=ZNL HC chg (λ_ h=>h) (λb h=>HC.stable b h) (ZF HC DM)
 have back: ∀id l b,ρ id=some l->look (S ops.length).st id=some b->look (S 0).st id=some b:=λid l b hl h=>by
  obtain⟨b',hb'⟩:=ZBn (DM id l hl)
  rw[up0 id b' hb']at h;cases h;exact hb'
 refine⟨h.defers,h.len,ρ,F,⟨λid loc blk h1 h2=>HC'.heap id loc blk h1 (back id loc blk h1 h2),HC'.inj,HC'.stable,HC'.glob⟩,λid l hl=> ?_,?_,λid l hl=> .inl (DM id l hl),λt=> .inr ⟨λ_ _ h=>h.elim,RelT.ext0 ext (hs t)⟩⟩
 ·obtain⟨b,hb⟩:=ZBn (DM id l hl)
  rw[up0 id b hb];simp
 ·refine⟨B.chg.trans chg (λ_ h=>h) (λ_ _ h=>h.elim),B.mb,B.stb,λj l hj hl hk=> ?_⟩
  refine B.par j l hj hl λhn=> ?_
  obtain⟨b,hb⟩:=ZBn hk
  rcases H.dn ops.length (Nat.le_refl _) hb with h | ⟨i,o,_,_,k,e⟩
  ·rw[hn]at h;cases h
  ·unfold idOf at e;omega
end Ev
end
section
namespace Ev
open Go
def ZBv(n:Nat)(listed:Array Bool):List Nat:=(List.range n).filter λi=> !listed.getD i true
theorem ZHF{n i:Nat}{listed:Array Bool}(hsz:listed.size=n)(hi:i<n)(h:listed[i]?=some false):i∈ZBv n listed:=by
 unfold ZBv
 rw[List.mem_filter]
 refine⟨by simpa using hi,?_⟩
 have:i<listed.size:=by omega
 simp[this]at h⊢;exact h
theorem ZHG{n i:Nat}{listed:Array Bool}(hsz:listed.size=n)(hi:i<n)(h:listed[i]?=some false):(ZBv n (listed.setIfInBounds i true)).length<(ZBv n listed).length:=by
 have hm:=ZHF hsz hi h
 have hill:i<listed.size:=by omega
 have e:ZBv n (listed.setIfInBounds i true)=(ZBv n listed).filter λj=> !(j==i):=by
  unfold ZBv
  rw[List.filter_filter]
  refine List.filter_congr λj hj=> ?_
  by_cases hij:j=i
  ·subst hij;simp[hill]
  ·have:(listed.setIfInBounds i true).getD j true=listed.getD j true:=by
    simp[Array.getElem?_setIfInBounds_ne (Ne.symm hij)]
   rw[this];simp[hij]
 rw[e]
 exact(List.length_filter_lt_length_iff_exists (p:=λj=> !(j==i)) (l:=ZBv n listed)).2 ⟨i,hm,by simp⟩
theorem ZIg{i:Nat}{listed:Array Bool}(hill:i<listed.size)(j:Nat):(listed.setIfInBounds i true)[j]?=some true↔(listed[j]?=some true\/j=i):=by
 rw[Array.getElem?_setIfInBounds]
 by_cases hij:i=j
 ·subst hij;simp[hill]
 ·simp[hij,Ne.symm hij]
theorem ZCF{ops:Array Oper}{listed:Array Bool}(hsz:listed.size=ops.size)(i:Nat):i∈Region.ready .any ops listed↔ ∃o,ops[i]?=some o/\listed[i]?=some false/\ ∀e∈o.after,Region.binds .any e=true->listed[e.on]?=some true:=by
 simp only[Region.ready,List.mem_filter,List.mem_range,ZAJ,Bool.not_eq_true']
 constructor
 ·rintro ⟨hi,h1,h2⟩
  have e:ops[i]?=some ops[i]:=by simp[hi]
  refine⟨ops[i],e,?_,λx hx hb=> ?_⟩
  ·have:i<listed.size:=by omega
   simp[this]at h1⊢;exact h1
  ·simp only[e,Option.map_some,Option.getD_some,Array.all_eq_true']at h2
   have:=h2 x hx
   rw[hb]at this
   simp only[ZAG,Bool.false_or]at this
   rcases Nat.lt_or_ge x.on listed.size with h' | h'
   ·simp[h']at this⊢;exact this
   ·simp[Array.getElem?_eq_none h']at this
 ·rintro ⟨o,ho,h1,h2⟩
  have hi:i<ops.size:=(Array.getElem?_eq_some_iff.mp ho).1
  refine⟨hi,?_,?_⟩
  ·have:i<listed.size:=by omega
   simp[this]at h1⊢;exact h1
  ·simp only[ho,Option.map_some,Option.getD_some,Array.all_eq_true']
   intro x hx
   cases hb:Region.binds .any x
   ·rfl
   ·have:=h2 x hx hb
    have hl:x.on<listed.size:=(Array.getElem?_eq_some_iff.mp this).1
    simp[hl]at this⊢;exact this
theorem ZEW{listed:Array Bool}{n j:Nat}(hsz:listed.size=n)(hj:j<n)(h: ¬listed[j]?=some true):listed[j]?=some false:=by
 have:j<listed.size:=by omega
 simp[this]at h⊢;exact h
inductive TP(ops:List Oper):Nat->Nat->Prop
 | one {i j:Nat} {o:Oper} :ops[i]?=some o->ZBS o j=true->TP ops i j
 | step {i m j:Nat} {o:Oper} :ops[i]?=some o->ZBS o m=true->TP ops m j->TP ops i j
theorem ZKp{n:Nat} : ∀ {l:List Nat},memN n l=true->n∈l
 | [],h=>by simp[memN]at h
 | m::r,h=>by
  simp only[memN]at h
  cases hb:Nat.beq m n<;>simp only[hb,al_cond_true,al_cond_false]at h
  ·exact List.mem_cons_of_mem _ (ZKp h)
  ·have:=ZAb hb;subst this;simp
theorem ZKq: ∀ {l:List Nat} {x:Nat},x∈ZBe l->x∈l
 | [],x,h=>by simp[ZBe]at h
 | n::r,x,h=>by
  simp only[ZBe]at h
  cases hb:memN n r<;>simp only[hb,al_cond_true,al_cond_false]at h
  ·rcases List.mem_cons.mp h with h | h
   ·subst h;simp
   ·exact List.mem_cons_of_mem _ (ZKq h)
  ·exact List.mem_cons_of_mem _ (ZKq h)
theorem ZKr(full:List Oper): ∀(os:List Oper) (done:List (List Nat)) (pre:List Oper),full=pre++os->done.length=pre.length->(∀i j,j∈done.getD i []->TP full i j)-> ∀i j,j∈(ZBf done os).getD i []->TP full i j
 | [],done,pre,_,_,inv=>by simpa only[ZBf]using inv
 | o::os,done,pre,hf,hl,inv=>by
  simp only[ZBf]
  refine ZKr full os _ (pre++[o]) (by simp[hf]) (by simp[hl]) λi j h=> ?_
  rw[List.getD_eq_getElem?_getD]at h
  by_cases hi:i<done.length
  ·rw[List.getElem?_append_left hi]at h
   exact inv i j (by rw[List.getD_eq_getElem?_getD];exact h)
  ·rw[List.getElem?_append_right (by omega)]at h
   by_cases hi0:i-done.length=0
   ·have hii:i=pre.length:=by omega
    subst hii
    have ho:full[pre.length]?=some o:=by rw[hf,List.getElem?_append_right (by omega)];simp
    rw[hi0]at h
    simp only[List.getElem?_cons_zero,Option.getD_some]at h
    have h':=ZKq h
    simp only[List.mem_flatMap]at h'
    obtain⟨e,he,h'⟩:=h'
    cases hb:bnd e<;>simp only[hb,al_cond_true,al_cond_false]at h'
    ·simp at h'
    ·have hp:ZBS o e.on=true:=ZDI.2 ⟨e,by simpa using he,rfl,by rw[<-ZEV];exact hb⟩
     rcases List.mem_cons.mp h' with h' | h'
     ·subst h';exact .one ho hp
     ·exact .step ho hp (inv _ _ h')
   ·rw[List.getElem?_eq_none (by simp;omega)]at h
    simp at h
theorem ZT2{full:List Oper}{P:Nat->Prop}(hcl: ∀(j:Nat) (x:Oper) i,P j->full[j]?=some x->ZBS x i=true->P i){i j:Nat}(h:TP full i j):P i->P j:=by
 induction h with
 | one ho hp=>exact λh=>hcl _ _ _ h ho hp
 | step ho hp _ ih=>exact λh=>ih (hcl _ _ _ h ho hp)
theorem ZKs{full:List Oper}{P:Nat->Prop}(hcl: ∀(j:Nat) (x:Oper) i,P j->full[j]?=some x->ZBS x i=true->P i){i j:Nat}{o:Oper}(ho:full[i]?=some o)(hr: ∀m,ZBS o m=true->P m)(h:TP full i j):P j:=by
 cases h with
 | one ho' hp=>rw[ho]at ho';cases ho';exact hr _ hp
 | step ho' hp t=>rw[ho]at ho';cases ho';exact ZT2 hcl t (hr _ hp)
structure Chain(full:List Oper)(n:Nat)(post:List Oper):Prop where
 pred: ∀(k:Nat) (o:Oper),post[k]?=some o-> ∀j,j<n+k->TP full (n+k) j
 back: ∀(k:Nat) (o:Oper),post[k]?=some o-> ∀e∈o.after,Region.binds .any e=true->e.on<n+k
theorem ZOP{l:List Nat} : ∀ {n:Nat},ZIB l n=true-> ∀j,j<n->j∈l
 | 0,_,j,h=>by omega
 | n+1,h,j,hj=>by
  simp only[ZIB,ZAJ]at h
  by_cases e:j=n
  ·subst e;exact ZKp h.1
  ·exact ZOP h.2 j (by omega)
theorem ZKt{full:List Oper} : ∀ {post:List Oper} {n:Nat},ZFs (ZBf [] full) n post=true->Chain full n post
 | [],n,_=>⟨λk o h=>by simp at h,λk o h=>by simp at h⟩
 | x::post,n,h=>by
  simp only[ZFs,ZAJ]at h
  obtain⟨⟨h1,h2⟩,h3⟩:=h
  have ih:=ZKt h3
  refine⟨λk o hk j hj=> ?_,λk o hk e he hb=> ?_⟩
  ·cases k with
   | zero=>exact ZKr full full [] [] rfl rfl (λi j h=>by simp at h) _ _ (ZOP h1 j (by omega))
   | succ k=>
    have:=ih.pred k o (by simpa using hk) j (by omega)
    rwa[show n+1+k=n+(k+1)by omega]at this
  ·cases k with
   | zero=>
    simp at hk;subst hk
    have:=List.all_eq_true.1 h2 e (by simpa using he)
    rw[ZEV,hb,al_cond_true]at this
    simpa[Nat.blt_eq]using this
   | succ k=>
    have:=ih.back k o (by simpa using hk) e he hb
    omega
theorem ZOQ{P:Program}{E:Env}{ann:Nat->Bool}{full:Array Oper}{ops post:List Oper}{S:Nat->St}{v:Nat->V}{C:Ctx}{Q:Exit->Act->World->Prop}(hsp:full.toList=ops++post)(GG: ∀(i:Nat) (o:Oper),ops[i]?=some o-> ∀e∈o.after,Region.binds .any e=true->e.on<i)(G:Chain full.toList ops.length post)
  (hst: ∀(i:Nat) o,post[i]?=some o->ZF9 P E ann full.toList o (S i) (v i) (S (i+1))) (hQ: ∀a w,SR C (S post.length) a w->Q .normal a w):
  ∀(d k fuel:Nat) (listed:Array Bool) (a:Act) (w:World),k+d=post.length->(ZBv full.size listed).length<=fuel->listed.size=full.size->(∀j,listed[j]?=some true↔j<ops.length+k)->SR C (S k) a w->wpAny P .any full Q fuel listed a w:=by
 have hsize:full.size=ops.length+post.length:=by
  have:=congrArg List.length hsp;simpa using this
 have at_post: ∀k,full[ops.length+k]?=post[k]?:=λk=>by
  have:full.toList[ops.length+k]?=post[k]?:=by rw[hsp,List.getElem?_append_right (by omega)];simp
  simpa using this
 intro d
 induction d with
 | zero=>
  intro k fuel listed a w hk hf hsz hl hs
  have hnil:Region.ready .any full listed=[]:=by
   cases hr:Region.ready .any full listed with
   | nil=>rfl
   | cons i r=>
    exfalso
    obtain⟨o,ho,h1,_⟩:=(ZCF hsz i).1 (by rw[hr];simp)
    have hi:i<full.size:=(Array.getElem?_eq_some_iff.mp ho).1
    have:=(hl i).2 (by omega)
    rw[h1]at this;cases this
  have hk':k=post.length:=by omega
  subst hk'
  cases fuel with
  | zero=>exact⟨hnil,hQ a w hs⟩
  | succ fuel=>exact⟨λ_=>hQ a w hs,λi hi=>by rw[hnil]at hi;cases hi⟩
 | succ d ih=>
  intro k fuel listed a w hk hf hsz hl hs
  have hpk:post[k]?=some post[k]:=by simp
  have hik:full[ops.length+k]?=some post[k]:=(at_post k).trans hpk
  have hnl:listed[ops.length+k]?=some false:=ZEW hsz (by omega) λh=>by have:=(hl _).1 h;omega
  have hrd:ops.length+k∈Region.ready .any full listed:=(ZCF hsz _).2 ⟨_,hik,hnl,λe he hb=>(hl e.on).2 (G.back k _ hpk e he hb)⟩
  cases fuel with
  | zero=>
   have:=List.length_pos_of_mem (ZHF hsz (by omega) hnl)
   omega
  | succ fuel=>
   refine⟨λhnil=>(by rw[hnil]at hrd;cases hrd),λi hi=> ?_⟩
   have hieq:i=ops.length+k:=by
    obtain⟨o,ho,h1,h2⟩:=(ZCF hsz i).1 hi
    have hif:i<full.size:=(Array.getElem?_eq_some_iff.mp ho).1
    have hge:ops.length+k<=i:=by
     rcases Nat.lt_or_ge i (ops.length+k)with h | h
     ·have:=(hl i).2 h;rw[h1]at this;cases this
     ·exact h
    rcases Nat.lt_or_eq_of_le hge with h | h
    ·exfalso
     obtain⟨m,rfl⟩: ∃m,i=ops.length+m:=⟨i-ops.length,by omega⟩
     have ho':=ho
     rw[at_post]at ho
     have hp:=G.pred m o ho (ops.length+k) h
     have:=ZKs (P:=λj=>listed[j]?=some true) (λj x i hj hx hp=>by
      rw[hl]at hj⊢
      obtain⟨e,he,rfl,hb⟩:=ZDI.1 hp
      rw[hsp]at hx
      by_cases hjl:j<ops.length
      ·rw[List.getElem?_append_left hjl]at hx
       have:=GG j x hx e he hb
       omega
      ·rw[List.getElem?_append_right (by omega)]at hx
       have:=G.back _ x hx e he hb
       omega) (o:=o) (by simpa using ho') (λq hq=>by
      obtain⟨e,he,rfl,hb⟩:=ZDI.1 hq
      exact h2 e he hb) hp
     rw[hnl]at this;cases this
    ·exact h.symm
   subst hieq
   unfold wpOp
   simp only[hik]
   exact ZKl (ops:=full) (hst k _ hpk) (λa w hs'=>ih (k+1) fuel _ a w (by omega) (by have:=ZHG hsz (by omega) hnl;omega) (by simpa using hsz) (λj=>by
    rw[ZIg (by omega),hl];omega) hs') hs
theorem ZT3{P:Program}{E:Env}{ann:Nat->Bool}{full:Array Oper}{ops post:List Oper}{S:Nat->St}{v:Nat->V}{C:Ctx}{Q:Exit->Act->World->Prop}(hsp:full.toList=ops++post)(H:Trace P E ann full.toList ops S v)(G:Good ops)(GC:Chain full.toList ops.length post)
  (hQ: ∀(fuel:Nat) (listed:Array Bool) (a:Act) (w:World),(ZBv full.size listed).length<=fuel->listed.size=full.size->(∀j,listed[j]?=some true↔j<ops.length)->SR C (S ops.length) a w->wpAny P .any full Q fuel listed a w): ∀(fuel:Nat) (listed:Array Bool) (a:Act) (w:World),(ZBv full.size listed).length<=fuel->listed.size=full.size->
  (∀(j:Nat) (x:Oper) i,listed[j]?=some true->ops[j]?=some x->ZBS x i=true->listed[i]?=some true)->(∀j,listed[j]?=some true->j<ops.length)->Mid C ops S v (λj=>listed[j]?=some true) a w->wpAny P .any full Q fuel listed a w:=by
 have hsize:full.size=ops.length+post.length:=by
  have:=congrArg List.length hsp;simpa using this
 have hfull: ∀(i:Nat) (o:Oper),ops[i]?=some o->full[i]?=some o:=λi o h=>by
  have hi:=(al_get_iff.mp h).1
  have:full.toList[i]?=some o:=by rw[hsp,List.getElem?_append_left hi];exact h
  simpa using this
 have at_post: ∀k,full[ops.length+k]?=post[k]?:=λk=>by
  have:full.toList[ops.length+k]?=post[k]?:=by rw[hsp,List.getElem?_append_right (by omega)];simp
  simpa using this
 intro fuel
 induction fuel with
 | zero=>
  intro listed a w hf hsz hcl hlt M
  refine hQ 0 listed a w hf hsz (λj=>⟨hlt j,λhj=> ?_⟩) (ZKo H G M λj hj=> ?_)
  all_goals
   rcases Classical.em (listed[j]?=some true)with h | h
   ·exact h
   ·have:=List.length_pos_of_mem (ZHF hsz (i:=j) (by omega) (ZEW hsz (by omega) h))
    omega
 | succ fuel ih=>
  intro listed a w hf hsz hcl hlt M
  by_cases hall: ∀j,j<ops.length->listed[j]?=some true
  ·exact hQ _ listed a w hf hsz (λj=>⟨hlt j,hall j⟩) (ZKo H G M hall)
  ·obtain⟨m,hm,hml⟩: ∃m,m<ops.length/\listed[m]?=some false:=by
    rcases Classical.em (∃m,m<ops.length/\listed[m]?=some false)with h | h
    ·exact h
    ·exfalso
     refine hall λj hj=> ?_
     rcases Classical.em (listed[j]?=some true)with h' | h'
     ·exact h'
     ·exact absurd ⟨j,hj,ZEW hsz (by omega) h'⟩ h
   have some_ready: ∀n j,j<=n->j<ops.length->listed[j]?=some false-> ∃i,i∈Region.ready .any full listed:=by
    intro n
    induction n with
    | zero=>
     intro j hj hjl hjf
     have:j=0:=by omega
     subst this
     have ho:ops[0]?=some ops[0]:=by simp
     exact⟨0,(ZCF hsz _).2 ⟨_,hfull 0 _ ho,hjf,λe he hb=>by have:=G.back 0 _ ho e he hb;omega⟩⟩
    | succ n ihn=>
     intro j hj hjl hjf
     have ho:ops[j]?=some ops[j]:=by simp
     by_cases hp: ∃e∈ops[j].after,Region.binds .any e=true/\ ¬listed[e.on]?=some true
     ·obtain⟨e,he,hb,hn⟩:=hp
      have:=G.back j _ ho e he hb
      exact ihn e.on (by omega) (by omega) (ZEW hsz (by omega) hn)
     ·refine⟨j,(ZCF hsz _).2 ⟨_,hfull j _ ho,hjf,λe he hb=> ?_⟩⟩
      rcases Classical.em (listed[e.on]?=some true)with h' | h'
      ·exact h'
      ·exact absurd ⟨e,he,hb,h'⟩ hp
   refine⟨λhnil=> ?_,λi hi=> ?_⟩
   ·obtain⟨i,hi⟩:=some_ready m m (Nat.le_refl _) hm hml
    rw[hnil]at hi;cases hi
   ·obtain⟨o,ho,h1,h2⟩:=(ZCF hsz i).1 hi
    have hif:i<full.size:=(Array.getElem?_eq_some_iff.mp ho).1
    have hil:i<ops.length:=by
     rcases Nat.lt_or_ge i ops.length with h | h
     ·exact h
     ·exfalso
      obtain⟨k,rfl⟩: ∃k,i=ops.length+k:=⟨i-ops.length,by omega⟩
      have ho':=ho
      rw[at_post]at ho
      have hp:=GC.pred k o ho m (by omega)
      have:=ZKs (P:=λj=>listed[j]?=some true) (λj x i hj hx hp=>by
       have hjl:=hlt j hj
       rw[hsp,List.getElem?_append_left hjl]at hx
       exact hcl j x i hj hx hp) (o:=o) (by simpa using ho') (λq hq=>by
       obtain⟨e,he,rfl,hb⟩:=ZDI.1 hq
       exact h2 e he hb) hp
      rw[hml]at this;cases this
    have hoo:ops[i]?=some o:=by
     have h3:ops[i]?=some ops[i]:=by simp
     have:=hfull i _ h3
     rw[ho]at this;cases this;exact h3
    have hset:=ZIg (i:=i) (listed:=listed) (by omega)
    refine ZT1 hfull H G (o:=o) hoo (by rw[h1];simp) (λj hp=> ?_) (λj x hj hx hp=>hcl j x i hj hx hp) M λa w M'=>ih _ a w ?_ (by simpa using hsz) ?_ ?_ ?_
    ·obtain⟨e,he,rfl,hb⟩:=ZDI.1 hp
     exact h2 e he hb
    ·have:=ZHG hsz (by omega) h1
     omega
    ·intro j x k hj hx hp
     rw[hset]at hj⊢
     rcases hj with hj | rfl
     ·exact .inl (hcl j x k hj hx hp)
     ·rw[hoo]at hx;cases hx
      obtain⟨e,he,rfl,hb⟩:=ZDI.1 hp
      exact .inl (h2 e he hb)
    ·intro j hj
     rw[hset]at hj
     rcases hj with hj | rfl
     ·exact hlt j hj
     ·exact hil
    ·have:(λj=>(listed.setIfInBounds i true)[j]?=some true)=λj=>listed[j]?=some true\/j=i:=by
      funext j;exact propext (hset j)
     rw[this];exact M'
theorem ZOR{R:Type}{E:Env}{T:Tab}{ann:Nat->Bool}{ops:List Oper} : ∀(a b:List Oper) (s:St) (K:St->Option R),ZBD E T ann ops (a++b) s K=ZBD E T ann ops a s (λs=>ZBD E T ann ops b s K)
 | [],b,s,K=>rfl
 | o::a,b,s,K=>by
  have ih:(λs=>ZBD E T ann ops (a++b) s K)=λs=>ZBD E T ann ops a s (λs=>ZBD E T ann ops b s K):=funext λs=>ZOR a b s K
  simp only[List.cons_append,ZBD,ih]
theorem ZKu{R:Type} : ∀ {l:List (Option R)} {r:R},ZFt l=some r-> ∀x∈l,x=some r
 | [],r,h,x,hx=>by cases hx
 | [a],r,h,x,hx=>by
  simp only[ZFt]at h
  rw[List.mem_singleton]at hx
  rw[hx];exact h
 | a::b::l,r,h,x,hx=>by
  simp only[ZFt]at h
  unfold both at h
  split at h
  ·rename_i e
   rcases List.mem_cons.mp hx with hx | hx
   ·rw[hx];exact h
   ·exact ZKu (e.symm.trans h) x hx
  ·cases h
theorem ZDJ{n:Nat} : ∀ {l:List Nat},memN n l=true↔n∈l
 | []=>by simp[memN]
 | m::r=>by
  simp only[memN]
  cases hb:Nat.beq m n
  ·have hne:n≠m:=λe=>by subst e;simp at hb
   simp only[al_cond_false,List.mem_cons,ZDJ (l:=r)]
   exact⟨λh=> .inr h,λh=>h.resolve_left hne⟩
  ·have:=ZAb hb
   subst this
   simp
theorem ZKv{full:Array Oper}{listed:Array Bool}{done:List Nat}(hsz:listed.size=full.size)(hl: ∀j,listed[j]?=some true↔j∈done)(i:Nat):i∈Region.ready .any full listed↔i∈rdyL full.toList done:=by
 rw[ZCF hsz]
 unfold rdyL rdyB
 rw[List.mem_filter,List.mem_range]
 constructor
 ·rintro ⟨o,ho,h1,h2⟩
  have hi:i<full.size:=(Array.getElem?_eq_some_iff.mp ho).1
  have hn:memN i done=false:=by
   cases hm:memN i done
   ·rfl
   ·have:=(hl i).2 (ZDJ.1 hm)
    rw[h1]at this;cases this
  refine⟨by simpa using hi,?_⟩
  have ho':full.toList[i]?=some o:=by simpa using ho
  rw[hn,al_cond_false,ho']
  simp only[List.all_eq_true,Array.mem_toList_iff]
  intro e he
  cases hb:bnd e
  ·rfl
  ·rw[al_cond_true]
   exact ZDJ.2 ((hl _).1 (h2 e he (by rw[<-ZEV];exact hb)))
 ·rintro ⟨hi,h⟩
  have hi:i<full.size:=by simpa using hi
  cases hm:memN i done
  ·rw[hm,al_cond_false]at h
   have ho:full[i]?=some full[i]:=by simp
   have ho':full.toList[i]?=some full[i]:=by simpa using ho
   rw[ho']at h
   simp only[List.all_eq_true,Array.mem_toList_iff]at h
   refine⟨full[i],ho,ZEW hsz hi λhx=> ?_,λe he hb=> ?_⟩
   ·have:=ZDJ.2 ((hl i).1 hx)
    rw[hm]at this;cases this
   ·have:=h e he
    rw[ZEV,hb,al_cond_true]at this
    exact(hl _).2 (ZDJ.1 this)
  ·rw[hm,al_cond_true]at h;cases h
theorem ZT4{R:Type}{P:Program}{E:Env}{T:Tab}(hT:ZBW P T)(hE:EnvOK P E){ann:Nat->Bool}{full:Array Oper}{C:Ctx}{Q:Exit->Act->World->Prop}{K:St->Option R}{r:R}
  (hQ: ∀s a w,K s=some r->SR C s a w->Q .normal a w):
  ∀(n fuel:Nat) (done:List Nat) (s:St) (listed:Array Bool) (a:Act) (w:World),ZGv E T ann full.toList K n done s=some r->(ZBv full.size listed).length<=fuel->listed.size=full.size->(∀j,listed[j]?=some true↔j∈done)->SR C s a w->wpAny P .any full Q fuel listed a w:=by
 intro n
 induction n with
 | zero=>intro fuel done s listed a w h;simp only[ZGv]at h;cases h
 | succ n ih=>
  intro fuel done s listed a w h hf hsz hl hs
  simp only[ZGv]at h
  cases hr:rdyL full.toList done with
  | nil=>
   rw[hr]at h
   have hnil:Region.ready .any full listed=[]:=by
    cases hx:Region.ready .any full listed with
    | nil=>rfl
    | cons i is=>
     have:=(ZKv hsz hl i).1 (by rw[hx];simp)
     rw[hr]at this;cases this
   cases fuel with
   | zero=>exact⟨hnil,hQ s a w h hs⟩
   | succ fuel=>exact⟨λ_=>hQ s a w h hs,λi hi=>by rw[hnil]at hi;cases hi⟩
  | cons i is=>
   rw[hr]at h
   have hrd:i∈Region.ready .any full listed:=(ZKv hsz hl i).2 (by rw[hr];simp)
   have unl: ∀i,i∈Region.ready .any full listed-> ∃o,full[i]?=some o/\i<full.size/\listed[i]?=some false:=λi hi=>by
    obtain⟨o,ho,h1,_⟩:=(ZCF hsz i).1 hi
    exact⟨o,ho,(Array.getElem?_eq_some_iff.mp ho).1,h1⟩
   cases fuel with
   | zero=>
    obtain⟨o,ho,hi,h1⟩:=unl i hrd
    have:=List.length_pos_of_mem (ZHF hsz hi h1)
    omega
   | succ fuel=>
    refine⟨λhnil=>(by rw[hnil]at hrd;cases hrd),λj hj=> ?_⟩
    obtain⟨o,ho,hjl,h1⟩:=unl j hj
    have hjr:=(ZKv hsz hl j).1 hj
    rw[hr]at hjr
    have hk:=ZKu h _ (List.mem_map.mpr ⟨j,hjr,rfl⟩)
    have ho':full.toList[j]?=some o:=by simpa using ho
    rw[ho']at hk
    simp only at hk
    obtain⟨S,v,h0,hk,hst⟩:=ZHD hT hE hk
    unfold wpOp
    simp only[ho]
    have hset:=ZIg (i:=j) (listed:=listed) (by omega)
    refine ZKl (ops:=full) (s:=s) (s':=S 1) (v:=v 0) (by have:=hst 0 o rfl;rw[h0]at this;exact this) (λa w hs'=>ih fuel (j::done) (S 1) _ a w hk (by have:=ZHG hsz hjl h1;omega) (by simpa using hsz) (λk=>by
     rw[hset,hl,List.mem_cons]
     exact⟨λh=>h.symm,λh=>h.symm⟩) hs') hs
theorem ZOS(a b:ZAI)(id:Nat):look (a++b) id=match look a id with | some x=>some x | none=>look b id:=by
 induction a with
 | nil=>rfl
 | cons p a ih=>
  obtain⟨i,x⟩:=p
  simp only[List.cons_append,look]
  cases hb:Nat.beq i id
  ·simpa using ih
  ·rfl
theorem ZFA{a b:ZAI}{id:Nat}{x:Blk}(h:look a id=some x):look (a++b) id=some x:=by rw[ZOS,h]
theorem ZDK{a b:ZAI}{id:Nat}(h:look a id=none):look (a++b) id=look b id:=by rw[ZOS,h]
theorem ZHH(p:Nat->Bool): ∀(st:ZAI) (id:Nat),look (st.filter λq=>p q.1) id=if p id=true then look st id else none
 | [],id=>by simp[look]
 | (i,x)::st,id=>by
  rw[List.filter_cons]
  by_cases e:i=id
  ·subst e
   by_cases hp:p i=true
   ·simp only[hp,if_true,look];simp
   ·simp only[hp]
    simp only[Bool.false_eq_true,if_false]
    rw[ZHH p st i]
    simp[hp]
  ·have hb:Nat.beq i id=false:=by
    cases hb:Nat.beq i id
    ·rfl
    ·exact absurd (ZAb hb) e
   by_cases hp:p i=true
   ·simp only[hp,if_true,look,hb,al_cond_false]
    exact ZHH p st id
   ·simp only[hp]
    simp only[Bool.false_eq_true,if_false,look,hb,al_cond_false]
    exact ZHH p st id
theorem ZIh: ∀ {st:ZAI} {id:Nat} {b:Blk},look st id=some b->(id,b)∈st
 | [],id,b,h=>by simp[look]at h
 | (i,x)::st,id,b,h=>by
  simp only[look]at h
  cases hb:Nat.beq i id
  ·rw[hb,al_cond_false]at h;exact List.mem_cons_of_mem _ (ZIh h)
  ·rw[hb,al_cond_true]at h
   have:=ZAb hb
   subst this;cases h;simp
theorem ZOT{d id:Nat}(h:ZCC d id):id % 10000=d % 10000:=by
 obtain⟨j,rfl⟩:=h
 omega
theorem ZOU{A st:ZAI}{pids:List Nat}(h:okB A pids st=true){id:Nat}{b:Blk}(hl:look st id=some b):look A id=none/\ ∀d∈pids,id % 10000≠d:=by
 unfold okB at h
 have:=List.all_eq_true.1 h _ (ZIh hl)
 simp only[ZAJ,List.all_eq_true,Bool.not_eq_true']at this
 refine⟨?_,λd hd e=> ?_⟩
 ·cases hx:look A id with
  | none=>rfl
  | some x=>rw[hx]at this;exact absurd this.1 (by simp)
 ·have:=this.2 d hd
  rw[e]at this
  simp at this
theorem ZT5{A:ZAI}{d:Nat}(h:okA A d=true){id:Nat}{b:Blk}(hl:look A id=some b):id % 10000≠d:=by
 unfold okA at h
 have:=List.all_eq_true.1 h _ (ZIh hl)
 intro e
 simp only[e]at this
 simp at this
theorem ZT6{A:ZAI}(h:okF A=true){id:Nat}{cs:List V}(hl:look A id=some (.box cs)):allB (ZIG A) cs=true:=by
 unfold okF at h
 exact List.all_eq_true.1 h _ (ZIh hl)
theorem ZIi{A:ZAI}{id:Nat}(h:hasB A id=true):look A id≠none:=by
 unfold hasB at h
 split at h
 ·rename_i b hb;rw[hb];simp
 ·cases h
theorem ZT7{A:ZAI}{X:Nat->Prop}(hX: ∀id,X id->look A id=none){v:V}(h:ZIG A v=true):AvC X v:=by
 cases v<;>simp only[ZIG]at h<;>simp only[AvC]
 case own i=>exact λhx=>ZIi h (hX i hx)
 case ownv i lo hi=>exact λhx=>ZIi h (hX i hx)
 case lptr i o=>exact λhx=>ZIi h (hX i hx)
 case eptr i r c=>exact λhx=>ZIi h (hX i hx)
 case fn f cap=>
  intro v hv
  have:=ZCB h v hv
  cases v<;>simp only[V.idfree]at this<;>first | trivial | (cases this;done)
structure Mid2(C:Ctx)(ops:List Oper)(S:Nat->St)(T:St)(D:Nat->Prop)(a:Act)(w:World):Prop where
 defers:a.defers=[]
 len:(S 0).fr.length<=a.tmps.size
 ex: ∃ρ F,Core ρ F (T.st++(S ops.length).st) w/\Dom ρ (T.st++(S ops.length).st)/\Base C ρ F (T.st++(S ops.length).st) w/\
  (∀id l,ρ id=some l->look (S 0).st id≠none\/(∃j o,D j/\ops[j]?=some o/\ZCC (idOf o) id)\/look T.st id≠none)/\
  ∀t,(∀j o,ops[j]?=some o->o.dst=some t->D j)->RelT ρ F w (get T.fr t) (a.tmps.getD t undef)
structure MidS(ops:List Oper)(S:Nat->St)(T:St):Prop where
 frs: ∀t,(∃(j:Nat) (o:Oper),ops[j]?=some o/\(o.dst=some t\/t∈ZA8 o))->get T.fr t=get (S ops.length).fr t
 len:T.fr.length=(S 0).fr.length
 dj: ∀id,look T.st id≠none->look (S ops.length).st id=none
 nid: ∀id (j:Nat) (o:Oper),look T.st id≠none->ops[j]?=some o-> ¬ZCC (idOf o) id
theorem ZT8{P:Program}{E:Env}{ann:Nat->Bool}{full:Array Oper}{ops:List Oper}{S:Nat->St}{v:Nat->V}{C:Ctx}{Q:Exit->Act->World->Prop}(hfull: ∀(i:Nat) (o:Oper),ops[i]?=some o->full[i]?=some o)(H:Trace P E ann full.toList ops S v)(G:Good ops)
  (hstr: ∀(i:Nat) (o:Oper),ops[i]?=some o-> ∀t∈ZA8 o,∀(j:Nat) (x:Oper),ops[j]?=some x->x.dst=some t->j<i) {T:St} (hT:MidS ops S T)
  {D:Nat->Prop} {K:Act->World->Prop} {i:Nat} {o:Oper} (hi:ops[i]?=some o) (hD: ¬D i) (hpre: ∀j,ZBS o j=true->D j)
  {a:Act} {w:World} (M:Mid2 C ops S T D a w) (hK: ∀a w,Mid2 C ops S T (λj=>D j\/j=i) a w->K a w):wpOp P full Q i K a w:=by
 obtain⟨ρ,F,HC,DM,B,own,hs⟩:=M.ex
 have hil:i<ops.length:=(al_get_iff.mp hi).1
 have hM:=ZF HC DM
 have upS: ∀k id b,k<=ops.length->look (S k).st id=some b->look (S ops.length).st id=some b:=λk id b hk h=>by
  have:=H.up h (ops.length-k) (by omega)
  rwa[show k+(ops.length-k)=ops.length by omega]at this
 have upn: ∀k id b,k<=ops.length->look (S k).st id=some b->look (T.st++(S ops.length).st) id=some b:=λk id b hk h=>by
  have h1:=upS k id b hk h
  cases hx:look T.st id with
  | none=>rw[ZDK hx];exact h1
  | some x=>
   have:=hT.dj id (by rw[hx];simp)
   rw[h1]at this;cases this
 have up0: ∀k id b,k<=ops.length->look (S 0).st id=some b->look (S k).st id=some b:=λk id b hk h=>by
  have:=H.up h k (by omega)
  rwa[Nat.zero_add]at this
 have slotP: ∀t,(∃(j:Nat) (o:Oper),ops[j]?=some o/\(o.dst=some t\/t∈ZA8 o))->(∀j x,ops[j]?=some x->x.dst=some t->j<i/\D j)->RelT ρ F w (get (S i).fr t) (a.tmps.getD t undef):=by
  intro t ht hw
  have r:=hs t λj x hx hd=>(hw j x hx hd).2
  rw[hT.frs t ht]at r
  have e:get (S ops.length).fr t=get (S i).fr t:=by
   rcases H.slot G t ops.length (Nat.le_refl _)with ⟨j,x,hj,hx,hd,hv⟩ | ⟨hno,hv⟩
   ·rcases H.slot G t i (by omega)with ⟨j',x',hj',hx',hd',hv'⟩ | ⟨hno',_⟩
    ·have:=G.uniq j j' x x' t hx hx' hd hd'
     subst this
     rw[hv,hv']
    ·exact absurd hd (hno' j x (hw j x hx hd).1 hx)
   ·rcases H.slot G t i (by omega)with ⟨j',x',hj',hx',hd',hv'⟩ | ⟨_,hv'⟩
    ·exact absurd hd' (hno j' x' (by omega) hx')
    ·rw[hv,hv']
  rw[e]at r
  exact r
 obtain⟨hw1,hw2⟩:=ZIe (ops:=full) (s:=S i) (a:=a) (o:=o) (ρ:=ρ) (F:=F) (w:=w) (by rw[H.len i (by omega)];exact M.len) λj want g hg hgd=>by
  have hp:=G.grd i o hi j want hg
  have hjD:=hpre j hp
  have hji:j<i:=by
   obtain⟨e,he,rfl,hb⟩:=ZDI.1 hp
   exact G.back i o hi e he hb
  unfold ZEL at hgd
  split at hgd
  ·rename_i x hx0
   have hx:ops[j]?=some x:=by
    have h1:ops[j]?=some ops[j]:=by simp
    have h2:=hfull j _ h1
    have h3:full[j]?=some x:=by simpa using hx0
    rw[h2]at h3;cases h3;exact h1
   refine slotP g ⟨j,x,hx,.inl hgd⟩ λj' x' hx' hd'=> ?_
   rw[G.uniq j' j x' x g hx' hx hd' hgd];exact⟨hji,hjD⟩
  ·cases hgd
 have hi':full[i]?=some o:=hfull i o hi
 obtain⟨d,hd,hdlt⟩:=G.dst i o hi
 obtain⟨q1,q2,q3,q4,q5⟩:=H.one hi
 have hlen:=H.len i (by omega)
 have hTd:get T.fr d=v i:=by
  rw[hT.frs d ⟨i,o,hi,.inl hd⟩]
  rcases H.slot G d ops.length (Nat.le_refl _)with ⟨j,x,hj,hx,hdx,hv⟩ | ⟨hno,_⟩
  ·rw[hv,G.uniq j i x o d hx hi hdx hd]
  ·exact absurd hd (hno i o hil hi)
 unfold wpOp
 simp only[hi']
 obtain⟨hcalm,hst⟩:=H.step i o hi
 rcases hst with ⟨hw,s1,ok,hp,hq⟩ | ⟨hw,hv,hq⟩
 ·rw[al_if_pos (hw1 hw)]
  left
  have hcore:Core ρ F (S i).st w:=⟨λid loc blk h1 h2=>HC.heap id loc blk h1 (upn i id blk (by omega) h2),HC.inj,HC.stable,HC.glob⟩
  refine ok ρ F a w hcore hM (λid hid hnew=> ?_) (λt ht=> ?_) _ _ λc w' ρ' F' po=>hK _ _ ?_
  ·cases hx:ρ id with
   | none=>rfl
   | some l=>
    exfalso
    rcases own id l hx with h | ⟨j,x,hj,hx',hn⟩ | h
    ·obtain⟨b,hb⟩:=ZBn h
     rw[up0 i id b (by omega) hb]at hid;cases hid
    ·have:=ZON G hi hx' hnew hn
     subst this
     exact hD hj
    ·exact hT.nid id i o h hi hnew
  ·have htm:t∈ZA8 o:=by
    unfold ZA8
    rw[List.mem_filterMap]
    exact⟨.tmp t,by simpa[ZBU]using ht,rfl⟩
   refine slotP t ⟨i,o,hi,.inr htm⟩ λj x hx hdx=> ?_
   have hji:=hstr i o hi t htm j x hx hdx
   refine⟨hji,?_⟩
   rcases G.tie i o hi t htm j x hx hdx with e | ⟨_,h⟩ | ⟨h,_⟩
   ·omega
   ·exact hpre j h
   ·omega
  ·obtain⟨c1,c2,c3,c4,c5,c6,c7⟩:=po.calm hcalm
   have hst1:s1.st=(S (i+1)).st:=hq.st.symm
   have ext:Ext (λ_=>False) ρ F w ρ' F' w':=⟨λid l _ h=>c2 id l h,c7,λb hb=>c6 b (HC.stable b hb).1⟩
   obtain⟨p1,p2,p3,p4⟩:=ZEU (a:=a) (dst:=o.dst) (c:=c)
   have hsz:d<a.tmps.size:=by
    have:=(q2 d hd).1
    rw[hlen]at this
    have:=M.len
    omega
   refine⟨p4.trans M.defers,by rw[p3];exact M.len,ρ',F',?_,?_,?_,?_,λt ht=> ?_⟩
   ·refine⟨λid loc blk h1 h2=> ?_,po.core.inj,po.core.stable,po.core.glob⟩
    rcases c3 id loc h1 with h | ⟨_,h⟩
    ·refine(HC.heap id loc blk h h2).weaken (λb hb=>c6 b (hM b ⟨id,loc,h,hb⟩)) ?_
     cases blk with
     | rows t l=>rfl
     | box cs=>
      refine⟨rfl,λk u u' h1 h2 c r=> ?_⟩
      rw[h1]at h2;cases h2
      exact RelC.ext0 ext r
    ·obtain⟨b,hb⟩:=ZBn h
     have:=upn (i+1) id b (by omega) (by rw[<-hst1];exact hb)
     rw[h2]at this;cases this
     exact po.core.heap id loc blk h1 hb
   ·intro id l h
    rcases c3 id l h with h | ⟨_,h⟩
    ·exact DM id l h
    ·obtain⟨b,hb⟩:=ZBn h
     rw[upn (i+1) id b (by omega) (by rw[<-hst1];exact hb)];simp
   ·exact B.step po.stp hM (λj l _ h _=>c2 j l h) (λ_ _ h=>h)
   ·intro id l h
    rcases c3 id l h with h | ⟨h,_⟩
    ·rcases own id l h with h | ⟨j,x,hj,hx,hn⟩ | h
     ·exact .inl h
     ·exact .inr (.inl ⟨j,x,.inl hj,hx,hn⟩)
     ·exact .inr (.inr h)
    ·exact .inr (.inl ⟨i,o,.inr rfl,hi,h⟩)
   ·by_cases htd:o.dst=some t
    ·have e:t=d:=by rw[hd]at htd;cases htd;rfl
     rw[p1 t htd (by rw[e];exact hsz),e,hTd]
     exact po.val
    ·rw[p2 t htd]
     refine RelT.ext0 ext (hs t λj x hx hdx=> ?_)
     rcases ht j x hx hdx with h | rfl
     ·exact h
     ·rw[hi]at hx;cases hx;exact absurd hdx htd
 ·rw[al_if_neg (by rw[hw2 hw];simp)]
  refine hK _ _ ?_
  obtain⟨p1,p2,p3,p4⟩:=ZEU (a:=a) (dst:=o.dst) (c:=undef)
  have hsz:d<a.tmps.size:=by
   have:=(q2 d hd).1
   rw[hlen]at this
   have:=M.len
   omega
  refine⟨p4.trans M.defers,by rw[p3];exact M.len,ρ,F,HC,DM,B,λid l h=> ?_,λt ht=> ?_⟩
  ·rcases own id l h with h | ⟨j,x,hj,hx,hn⟩ | h
   ·exact .inl h
   ·exact .inr (.inl ⟨j,x,.inl hj,hx,hn⟩)
   ·exact .inr (.inr h)
  ·by_cases htd:o.dst=some t
   ·have e:t=d:=by rw[hd]at htd;cases htd;rfl
    rw[p1 t htd (by rw[e];exact hsz),e,hTd,hv]
    exact ZKk
   ·rw[p2 t htd]
    refine hs t λj x hx hdx=> ?_
    rcases ht j x hx hdx with h | rfl
    ·exact h
    ·rw[hi]at hx;cases hx;exact absurd hdx htd
theorem ZT9{P:Program}{E:Env}{ann:Nat->Bool}{full:Array Oper}{ops:List Oper}{S:Nat->St}{C:Ctx}{Q:Exit->Act->World->Prop}{T T':St}{v:V}(hT:MidS ops S T)(hF:okF (S ops.length).st=true)
  {D:Nat->Prop} {K:Act->World->Prop} {i:Nat} {o:Oper} (hi:full[i]?=some o) (hg:o.guard=none) (hA:okA (S ops.length).st (idOf o % 10000)=true)
  (st:ZF9 P E ann full.toList o T v T') (hrd: ∀t∈ZA8 o,∀(j:Nat) (x:Oper),ops[j]?=some x->x.dst=some t->D j)
  {a:Act} {w:World} (M:Mid2 C ops S T D a w) (hK: ∀a w,Mid2 C ops S T' D a w->K a w):wpOp P full Q i K a w:=by
 obtain⟨ρ,F,HC,DM,B,own,hs⟩:=M.ex
 have hM:=ZF HC DM
 obtain⟨hw1,_⟩:=ZIe (ops:=full) (s:=T) (a:=a) (o:=o) (ρ:=ρ) (F:=F) (w:=w) (by rw[hT.len];exact M.len) λj want g hgg _=>by rw[hg]at hgg;cases hgg
 rcases st with ⟨hw,s1,ok,hq⟩ | ⟨hw,_⟩
 ·unfold wpOp
  simp only[hi]
  rw[al_if_pos (hw1 hw)]
  left
  have hcore:Core ρ F T.st w:=⟨λid loc blk h1 h2=>HC.heap id loc blk h1 (ZFA h2),HC.inj,HC.stable,HC.glob⟩
  have inA: ∀id,look T.st id=none->look (T.st++(S ops.length).st) id≠none->look (S ops.length).st id≠none:=λid h1 h2=>by rwa[ZDK h1]at h2
  refine ok ρ F a w hcore hM (λid hid hnew=> ?_) (λt ht=> ?_) _ _ λc w' ρ' F' po=>hK _ _ ?_
  ·cases hx:ρ id with
   | none=>rfl
   | some l=>
    exfalso
    obtain⟨b,hb⟩:=ZBn (inA id hid (DM id l hx))
    exact ZT5 hA hb (ZOT hnew)
  ·have htm:t∈ZA8 o:=by
    unfold ZA8
    rw[List.mem_filterMap]
    exact⟨.tmp t,by simpa[ZBU]using ht,rfl⟩
   exact hs t λj x hx hdx=>hrd t htm j x hx hdx
  ·obtain⟨X,ext,hX⟩:=po.ext
   have hst1:T'.st=s1.st:=hq.st
   have offT: ∀id,look (S ops.length).st id≠none->look T.st id=none:=λid h=>by
    cases hx:look T.st id with
    | none=>rfl
    | some b=>exact absurd (hT.dj id (by rw[hx];simp)) h
   obtain⟨p1,p2,p3,p4⟩:=ZEU (a:=a) (dst:=o.dst) (c:=c)
   refine⟨p4.trans M.defers,by rw[p3];exact M.len,ρ',F',?_,?_,?_,?_,λt ht=> ?_⟩
   ·rw[hst1]
    refine⟨λid loc blk h1 h2=> ?_,po.core.inj,po.core.stable,po.core.glob⟩
    cases hx:look s1.st id with
    | some b=>
     rw[ZFA hx]at h2;cases h2
     exact po.core.heap id loc _ h1 hx
    | none=>
     rw[ZDK hx]at h2
     rcases po.kept id loc h1 with h | ⟨hn,hρ⟩
     ·exact absurd hx h
     ·have hc:look (T.st++(S ops.length).st) id=some blk:=by rw[ZDK hn];exact h2
      refine(HC.heap id loc blk hρ hc).weaken (λb hb=>po.mem id loc b hn hρ hb) ?_
      cases blk with
      | rows t l=>rfl
      | box cs=>
       refine⟨rfl,λk u u' g1 g2 c r=> ?_⟩
       rw[g1]at g2;cases g2
       exact RelC.ext ext (ZT7 (λid hx=>hT.dj id (hX id hx)) (ZCB (ZT6 hF h2) u (al_mem_get g1))) r
   ·intro id l h
    rw[hst1]
    rcases po.kept id l h with h1 | ⟨hn,hρ⟩
    ·obtain⟨b,hb⟩:=ZBn h1
     rw[ZFA hb];simp
    ·cases hx:look s1.st id with
     | some b=>rw[ZFA hx];simp
     | none=>rw[ZDK hx];exact inA id hn (DM id l hρ)
   ·rw[hst1]
    refine B.step po.stp hM (λj l hj hl hk=> ?_) (λj hj hk=> ?_)
    ·cases hx:look s1.st j with
     | some b=>exact po.par j l hj hl (by rw[hx];simp)
     | none=>
      rw[ZDK hx]at hk
      exact ext.ids j l (λhXj=>hX j hXj (offT j hk)) hl
    ·cases hx:look s1.st j with
     | some b=>
      obtain⟨b',hb'⟩:=ZBn (po.low j hj (by rw[hx];simp))
      rw[ZFA hb'];simp
     | none=>
      rw[ZDK hx]at hk
      rw[ZDK (offT j hk)];exact hk
   ·intro id l h
    rw[hst1]
    rcases po.kept id l h with h1 | ⟨hn,hρ⟩
    ·exact .inr (.inr h1)
    ·rcases own id l hρ with h | h | h
     ·exact .inl h
     ·exact .inr (.inl h)
     ·exact absurd hn h
   ·by_cases htd:o.dst=some t
    ·obtain⟨g1,g2⟩:=hq.at_ t htd
     have hsz:t<a.tmps.size:=by
      have:=po.len
      have:=hT.len
      have:=M.len
      omega
     rw[p1 t htd hsz,g2]
     exact po.val
    ·rw[p2 t htd,hq.oth t htd]
     exact po.fr t _ (hs t ht)
 ·unfold ZDH at hw
  rw[hg]at hw
  exact hw.elim
theorem ZOV{full:List Oper}{i j:Nat}(h:j∈(ZBf [] full).getD i []):TP full i j:=ZKr full full [] [] rfl rfl (λi j h=>by simp at h) i j h
theorem ZOW{sets:List (List Nat)}{i:Nat}{o:Oper} : ∀ {os:List Oper} {k:Nat},ZIC sets i o k os=true-> ∀t∈ZA8 o,∀(j:Nat) x,os[j]?=some x->x.dst=some t->k+j∈sets.getD i []
 | [],k,h,t,ht,j,x,hx,hd=>by simp at hx
 | y::os,k,h,t,ht,j,x,hx,hd=>by
  simp only[ZIC,ZAJ]at h
  cases j with
  | zero=>
   simp only[List.getElem?_cons_zero,Option.some.injEq]at hx
   subst hx
   have:=List.all_eq_true.1 h.1 t ht
   rw[ZHE.2 hd,al_cond_true]at this
   exact ZKp this
  | succ j=>
   have:=ZOW h.2 t ht j x (by simpa using hx) hd
   rw[show k+1+j=k+(j+1)by omega]at this
   exact this
theorem ZOX{o:Oper}{i:Nat} : ∀ {os:List Oper} {k:Nat},ZID o i k os=true-> ∀t∈ZA8 o,∀(j:Nat) x,os[j]?=some x->x.dst=some t->k+j<i
 | [],k,h,t,ht,j,x,hx,hd=>by simp at hx
 | y::os,k,h,t,ht,j,x,hx,hd=>by
  simp only[ZID,ZAJ]at h
  cases j with
  | zero=>
   simp only[List.getElem?_cons_zero,Option.some.injEq]at hx
   subst hx
   have:=List.all_eq_true.1 h.1 t ht
   rw[ZHE.2 hd,al_cond_true]at this
   simpa[Nat.blt_eq]using this
  | succ j=>
   have:=ZOX h.2 t ht j x (by simpa using hx) hd
   omega
theorem ZOY{full:List Oper} : ∀ {os:List Oper} {k:Nat},ZIE full k os=true-> ∀(i:Nat) (o:Oper),os[i]?=some o-> ∀t∈ZA8 o,∀(j:Nat) x,full[j]?=some x->x.dst=some t->j<k+i
 | [],k,h,i,o,ho=>by simp at ho
 | y::os,k,h,i,o,ho=>by
  simp only[ZIE,ZAJ]at h
  cases i with
  | zero=>
   simp only[List.getElem?_cons_zero,Option.some.injEq]at ho
   subst ho
   intro t ht j x hx hd
   have:=ZOX h.1 t ht j x hx hd
   omega
  | succ i=>
   have:=ZOY h.2 i o (by simpa using ho)
   rw[show k+1+i=k+(i+1)by omega]at this
   exact this
theorem ZOZ{sets:List (List Nat)}{n:Nat}{P R:List Oper} : ∀ {os:List Oper} {k:Nat},ZIF sets n P R k os=true-> ∀(q:Nat) o,os[q]?=some o-> ∀t∈ZA8 o,∀(j:Nat) x,P[j]?=some x->x.dst=some t->j∈sets.getD (n+(k+q)) []
 | [],k,h,q,o,ho=>by simp at ho
 | y::os,k,h,q,o,ho=>by
  simp only[ZIF,ZAJ]at h
  cases q with
  | zero=>
   simp only[List.getElem?_cons_zero,Option.some.injEq]at ho
   subst ho
   intro t ht j x hx hd
   have:=ZOW h.1.1 t ht j x hx hd
   simpa using this
  | succ q=>
   have:=ZOZ h.2 q o (by simpa using ho)
   rw[show k+1+q=k+(q+1)by omega]at this
   exact this
theorem ZOa{t:Nat}{os:List Oper}(h:ZGx t os=false){j:Nat}{x:Oper}(hx:os[j]?=some x):x.dst≠some t:=by
 intro hd
 unfold ZGx at h
 have:=List.any_eq_false.1 h x (al_mem_get hx)
 rw[ZHE.2 hd]at this
 exact this rfl
theorem ZU{P R:List Oper}(h:ZKE P R=true){t:Nat}(ht: ∃(j:Nat) (o:Oper),P[j]?=some o/\(o.dst=some t\/t∈ZA8 o)){q:Nat}{x:Oper}(hx:R[q]?=some x):x.dst≠some t:=by
 obtain⟨j,o,ho,hd⟩:=ht
 unfold ZKE at h
 have:=List.all_eq_true.1 h o (al_mem_get ho)
 rw[ZAJ]at this
 rcases hd with hd | hd
 ·have h1:=this.1
  rw[hd]at h1
  exact ZOa (by simpa using h1) hx
 ·have h2:=List.all_eq_true.1 this.2 t hd
  exact ZOa (by simpa using h2) hx
theorem ZKw{R:Type}{st:ZAI}{ids frz:List Nat}{l:Lf}{v:V}{K K':V->List Nat->List Nat->Option R}(hl:l.still=true)(hk: ∀v ids,K v ids frz=K' v ids frz):argC st ids frz l v K=argC st ids frz l v K':=by
 cases l<;>simp only[Lf.still]at hl<;>try (cases hl;done)
 all_goals (simp only[argC];split<;>first | exact hk _ _ | rfl | skip)
 all_goals (split<;>first | rfl | skip)
 all_goals first | (split<;>first | exact hk _ _ | rfl) | (rw[hk])
theorem ZOb{R:Type}{st:ZAI} : ∀ {ls:List Lf} {vs:List V} {ids frz:List Nat} {K K':List V->List Nat->List Nat->Option R},ls.all Lf.still=true->(∀vs ids,K vs ids frz=K' vs ids frz)->ZCX st ls vs ids frz K=ZCX st ls vs ids frz K'
 | [],[],ids,frz,K,K',_,hk=>by simp only[ZCX];exact hk _ _
 | [],v::vs,_,_,_,_,_,_=>rfl
 | l::ls,[],_,_,_,_,_,_=>rfl
 | l::ls,v::vs,ids,frz,K,K',hl,hk=>by
  simp only[List.all_cons,ZAJ]at hl
  simp only[ZCX]
  exact ZKw hl.1 λv ids=>ZOb hl.2 λvs ids=>hk _ _
theorem ZUA{R:Type}{st:ZAI}{ids frz:List Nat}{s:Sh}{v:V}{K K':V->List Nat->List Nat->Option R}(hl:s.still=true)(hk: ∀v ids,K v ids frz=K' v ids frz):argA st ids frz s v K=argA st ids frz s v K':=by
 cases s with
 | one l=>simp only[argA];exact ZKw hl hk
 | agg ls=>
  cases v<;>simp only[argA]
  exact ZOb hl λvs ids=>hk _ _
theorem ZOc{R:Type}{st:ZAI} : ∀ {ss:List Sh} {vs:List V} {ids frz:List Nat} {K K':List V->List Nat->List Nat->Option R},ss.all Sh.still=true->(∀vs ids,K vs ids frz=K' vs ids frz)->ZCY st ss vs ids frz K=ZCY st ss vs ids frz K'
 | [],[],ids,frz,K,K',_,hk=>by simp only[ZCY];exact hk _ _
 | [],v::vs,_,_,_,_,_,_=>rfl
 | l::ls,[],_,_,_,_,_,_=>rfl
 | l::ls,v::vs,ids,frz,K,K',hl,hk=>by
  simp only[List.all_cons,ZAJ]at hl
  simp only[ZCY]
  exact ZUA hl.1 λv ids=>ZOc hl.2 λvs ids=>hk _ _
theorem ZUB{R:Type}{E:Env}{f dst:Nat}{vs:List V}{s:St}{K K':V->St->Option R}(hc: ∀e,E f=some e->e.shares=false\/e.pars.all Sh.still=true)
  (hk: ∀v s',s'.fr=s.fr->K v s'=K' v s'):ZCu E f dst vs s K=ZCu E f dst vs s K':=by
 unfold ZCu
 split
 ·rfl
 ·rename_i e he
  have body: ∀frz,(cond e.shares (ZBe frz) []=[])-> ∀(av:List V) ids,(cond (ZEy frz ids && (e.muts || nilB ids)) (ZCt (cond e.shares (ZBe frz) []) s λs=>ZFn s.st ids λbs=>e.sem R av bs λres out=>
   impB e.shares dst ids 0 out s.st λst=>renT e.shares dst ids res λv=>K v ⟨s.fr,st⟩) none)=cond (ZEy frz ids && (e.muts || nilB ids)) (ZCt (cond e.shares (ZBe frz) []) s λs=>ZFn s.st ids λbs=>e.sem R av bs λres out=>
   impB e.shares dst ids 0 out s.st λst=>renT e.shares dst ids res λv=>K' v ⟨s.fr,st⟩) none:=by
   intro frz h0 av ids
   rw[h0]
   simp only[ZCt]
   congr 1
   congr 1
   funext bs
   congr 1
   funext res out
   congr 1
   funext st
   congr 1
   funext v
   exact hk v _ rfl
  rcases hc e he with h2 | h2
  ·congr 1
   funext av ids frz
   exact body frz (by rw[h2];rfl) av ids
  ·exact ZOc h2 λav ids=>body [] (by cases e.shares<;>rfl) av ids
theorem ZUC{R:Type}{E:Env}{T:Tab}{ann:Nat->Bool}{o:Oper}{dst:Nat}{s:St}{K K':V->St->Option R}(hc:still E o=true)
  (hk: ∀v s',s'.fr=s.fr->K v s'=K' v s'):evOp E T ann dst o.op s K=evOp E T ann dst o.op s K':=by
 unfold still at hc
 have hs: ∀v st,K v ⟨s.fr,st⟩=K' v ⟨s.fr,st⟩:=λv st=>hk v _ rfl
 cases hop:o.op with
 | alloc t=>simp only[evOp,hs]
 | store t x y=>
  simp only[evOp]
  split
  ·congr 1
   funext st
   exact hk _ _ rfl
  ·rfl
 | call c=>
  rw[hop]at hc
  obtain⟨callee,args,ts⟩:=c
  cases callee with
  | value fo=>
   cases fo with
   | func f=>
    simp only[evOp,opd]
    congr 1
    funext vs
    refine ZUB (λe he=> ?_) hk
    simp only[he]at hc
    simpa using hc
   | _=>simp at hc
  | _=>simp at hc
 | _=>rw[hop]at hc;simp at hc
theorem ZUD{R:Type}{E:Env}{T:Tab}{ann:Nat->Bool}{o:Oper}{s:St}{K K':V->St->Option R}(hc:ZKF E ann o=true)
  (hk: ∀v s',s'.fr=s.fr->K v s'=K' v s'):evOp E T ann (idOf o) o.op s K=evOp E T ann (idOf o) o.op s K':=by
 unfold ZKF at hc
 rw[Bool.or_eq_true]at hc
 rcases hc with h | h
 ·exact ZUC h hk
 ·exact ZOJ rfl h λv s' hp=>hk v s' hp.fr
theorem ZOd{R:Type}{st:ZAI}{ids frz:List Nat}{l:Lf}{v:V}{K K':V->List Nat->List Nat->Option R}(hl:ZG1 l v=true)(hk: ∀v ids,K v ids frz=K' v ids frz):argC st ids frz l v K=argC st ids frz l v K':=by
 cases l
 case r t=>
  cases v<;>simp only[ZG1,Lf.still]at hl<;>first | (cases hl;done) | skip
  all_goals simp only[argC]
  all_goals first
   | exact hk _ _
   | (split<;>first | exact hk _ _ | rfl)
 all_goals refine ZKw (by cases v<;>simpa[ZG1]using hl) hk
theorem ZOe{R:Type}{st:ZAI} : ∀ {ls:List Lf} {vs:List V} {ids frz:List Nat} {K K':List V->List Nat->List Nat->Option R},ZIK ls vs=true->(∀vs ids,K vs ids frz=K' vs ids frz)->ZCX st ls vs ids frz K=ZCX st ls vs ids frz K'
 | [],[],ids,frz,K,K',_,hk=>by simp only[ZCX];exact hk _ _
 | [],v::vs,_,_,_,_,_,_=>rfl
 | l::ls,[],_,_,_,_,_,_=>rfl
 | l::ls,v::vs,ids,frz,K,K',hl,hk=>by
  simp only[ZIK,ZAJ]at hl
  simp only[ZCX]
  exact ZOd hl.1 λv ids=>ZOe hl.2 λvs ids=>hk _ _
theorem ZUE{R:Type}{st:ZAI}{ids frz:List Nat}{s:Sh}{v:V}{K K':V->List Nat->List Nat->Option R}(hl:ZNG s v=true)(hk: ∀v ids,K v ids frz=K' v ids frz):argA st ids frz s v K=argA st ids frz s v K':=by
 cases s with
 | one l=>simp only[argA];exact ZOd hl hk
 | agg ls=>
  cases v<;>simp only[argA]
  exact ZOe hl λvs ids=>hk _ _
theorem ZOf{R:Type}{st:ZAI} : ∀ {ss:List Sh} {vs:List V} {ids frz:List Nat} {K K':List V->List Nat->List Nat->Option R},ZG2 ss vs=true->(∀vs ids,K vs ids frz=K' vs ids frz)->ZCY st ss vs ids frz K=ZCY st ss vs ids frz K'
 | [],[],ids,frz,K,K',_,hk=>by simp only[ZCY];exact hk _ _
 | [],v::vs,_,_,_,_,_,_=>rfl
 | l::ls,[],_,_,_,_,_,_=>rfl
 | l::ls,v::vs,ids,frz,K,K',hl,hk=>by
  simp only[ZG2,ZAJ]at hl
  simp only[ZCY]
  exact ZUE hl.1 λv ids=>ZOf hl.2 λvs ids=>hk _ _
theorem ZUF{R:Type}{E:Env}{f dst:Nat}{vs:List V}{s:St}{K K':V->St->Option R}(hc: ∀e,E f=some e->ZG2 e.pars vs=true)
  (hk: ∀v s',s'.fr=s.fr->K v s'=K' v s'):ZCu E f dst vs s K=ZCu E f dst vs s K':=by
 unfold ZCu
 split
 ·rfl
 ·rename_i e he
  refine ZOf (hc e he) λav ids=> ?_
  have h0:cond e.shares (ZBe []) []=([]:List Nat):=by cases e.shares<;>rfl
  rw[h0]
  simp only[ZCt]
  congr 1
  congr 1
  funext bs
  congr 1
  funext res out
  congr 1
  funext st
  congr 1
  funext v
  exact hk v _ rfl
theorem ZOg{id:Nat}{v:V}(h:ZE4 id v=true):ZCA id v=v:=by
 cases v<;>simp only[ZE4,ZCA]at h⊢ <;>first | (cases h;done) | rfl | (cases hb:Nat.beq _ id<;>rw[hb]at h<;>first | rfl | (cases h))
theorem ZUG{id:Nat}{v:V}(h:ZE5 id v=true):ZGo id v=v:=by
 cases v
 case agg cs=>
  simp only[ZE5]at h
  show V.agg (cs.map (ZCA id))=V.agg cs
  congr 1
  have: ∀cs:List V,allB (ZE4 id) cs=true->cs.map (ZCA id)=cs:=λcs=>by
   induction cs with
   | nil=>intro _;rfl
   | cons x xs ih=>
    intro h
    simp only[allB]at h
    cases hx:ZE4 id x
    ·simp[hx]at h
    ·rw[hx]at h
     rw[List.map_cons,ZOg hx,ih (by simpa using h)]
  exact this cs h
 case tup vs=>simp only[ZE5,ZE4]at h;cases h
 all_goals exact ZOg (by simpa only[ZE5]using h)
structure FK(tch:List Nat)(fr fr':List V):Prop where
 len:fr'.length=fr.length
 same: ∀t∈tch,get fr' t=get fr t
theorem FK.of_eq{tch:List Nat}{fr fr':List V}(h:fr'=fr):FK tch fr fr':=by subst h;exact⟨rfl,λ_ _=>rfl⟩
theorem ZOh{R:Type} : ∀ {st:ZAI} {id:Nat} {b:Blk} {K K':ZAI->Option R},(∀st',K st'=K' st')->updK st id b K=updK st id b K'
 | [],_,_,_,_,_=>rfl
 | (i,b0)::r,id,b,K,K',h=>by
  simp only[updK]
  congr 1
  ·exact h _
  ·exact ZOh λst'=>h _
theorem ZUH{R:Type}{T:Tab}{t dst id:Nat}{y:V}{tch:List Nat}{s:St}{K K':V->St->Option R}(h:(tch.all λt=>ZE5 id (get s.fr t))=true)
  (hk: ∀v s',FK tch s.fr s'.fr->K v s'=K' v s'):ZE0 T t dst (.own id) y s K=ZE0 T t dst (.own id) y s K':=by
 have key: ∀st',K (.own id) (St.scrub ⟨s.fr,st'⟩ id)=K' (.own id) (St.scrub ⟨s.fr,st'⟩ id):=λst'=>hk _ _ ⟨by simp[St.scrub],λt ht=>by
  show get (s.fr.map (ZGo id)) t=_
  rw[ZIU (ZGo id) rfl,ZUG (List.all_eq_true.mp h t ht)]⟩
 have put: ∀b,ZEz s id b K=ZEz s id b K':=λb=>by
  unfold ZEz
  congr 1
  exact ZOh λst'=>key st'
 simp only[ZE0,put]
theorem ZUI{R:Type}{T:Tab}{dst id:Nat}{y:V}{tch:List Nat}{s:St}{K K':V->St->Option R}(h:(tch.all λt=>ZE5 id (get s.fr t))=true)
  (hk: ∀v s',FK tch s.fr s'.fr->K v s'=K' v s'): ∀ {ts:List Nat},ZFq T .append dst [.own id,y] ts s K=ZFq T .append dst [.own id,y] ts s K'
 | []=>rfl
 | [_]=>rfl
 | [t,u]=>by simp only[ZFq,ZUH h hk]
 | _::_::_::_=>rfl
theorem ZUJ{R:Type}{E:Env}{T:Tab}{ann:Nat->Bool}{tch:List Nat}{o:Oper}{s:St}{K K':V->St->Option R}(hc:ZG3 E ann tch o s.fr=true)
  (hk: ∀v s',FK tch s.fr s'.fr->K v s'=K' v s'):evOp E T ann (idOf o) o.op s K=evOp E T ann (idOf o) o.op s K':=by
 unfold ZG3 at hc
 rw[Bool.or_eq_true]at hc
 rcases hc with h | h
 ·exact ZUD h λv s' e=>hk v s' (FK.of_eq e)
 ·cases hop:o.op with
  | call c=>
   rw[hop]at h
   obtain⟨callee,args,ts⟩:=c
   cases callee with
   | value fo=>
    cases fo with
    | func f=>
     simp only at h
     simp only[evOp,opd,ZFz]
     refine ZUF (λe he=> ?_) λv s' e=>hk v s' (FK.of_eq e)
     rw[he]at h
     simpa using h
    | _=>simp at h
   | builtin b=>
    cases b with
    | append=>
     simp only at h
     simp only[evOp,ZFz]
     split at h
     ·rename_i id y hm
      rw[hm]
      exact ZUI h hk
     ·cases h
    | _=>simp at h
   | _=>simp at h
  | _=>rw[hop]at h;simp at h
theorem ZUK{R:Type}{P:Program}{E:Env}{T:Tab}(hT:ZBW P T)(hE:EnvOK P E){ann:Nat->Bool}{tch:List Nat}{ops:List Oper}{o:Oper}{s:St}{K:St->Option R}{r:R}
  (h:ZBD E T ann ops [o] s K=some r) (hst:ZG3 E ann tch o s.fr=true) (hg:o.guard=none):
  ∃v s',ZF9 P E ann ops o s v s'/\s'.fr.length=s.fr.length/\(∀t∈tch,o.dst≠some t->get s'.fr t=get s.fr t)/\K s'=some r:=by
 unfold ZBD at h
 rw[hg]at h
 simp only at h
 classical
 rw[ZUJ (K':=λv s1=>if FK tch s.fr s1.fr then putK s1 o.dst v (λs=>ZBD E T ann ops [] s K)else none) hst (λv s' e=>by rw[al_if_pos e])]at h
 obtain⟨v,s1,h,ok⟩:=ZId hT hE h
 split at h
 ·rename_i e
  obtain⟨s',h,hp⟩:=ZDd h
  exact⟨v,s',.inl ⟨by unfold ZDG;rw[hg];trivial,s1,ok,hp⟩,by rw[hp.len,e.len],λt hm ht=>by rw[hp.oth t ht,e.same t hm],h⟩
 ·cases h
theorem ZOi{n:Nat} : ∀ {os:List Oper} {k:Nat},ZIJ n k os=true-> ∀(q:Nat) o,os[q]?=some o->o.guard=none/\ ∀e∈o.after,Region.binds .any e=true->e.on<n+(k+q)
 | [],_,_,q,o,hq=>by simp at hq
 | x::os,k,h,q,o,hq=>by
  simp only[ZIJ,ZAJ]at h
  obtain⟨h1,h2,h3⟩:=h
  cases q with
  | zero=>
   simp only[List.getElem?_cons_zero,Option.some.injEq]at hq
   subst hq
   refine⟨by simpa using h1,λe he hb=> ?_⟩
   have:=List.all_eq_true.mp h2 e (by simpa using he)
   rw[ZEV,hb,al_cond_true]at this
   simpa using this
  | succ q=>
   simp only[List.getElem?_cons_succ]at hq
   obtain⟨g1,g2⟩:=ZOi h3 q o hq
   refine⟨g1,λe he hb=> ?_⟩
   have:=g2 e he hb
   omega
theorem ZUL{R:Type}{P:Program}{E:Env}{T:Tab}(hT:ZBW P T)(hE:EnvOK P E){ann:Nat->Bool}{full:Array Oper}{ops r1 post:List Oper}{S:Nat->St}{v:Nat->V}{C:Ctx}{Q:Exit->Act->World->Prop}{K:St->Option R}{r:R}{pids:List Nat}
  (hsp:full.toList=ops++(r1++post)) (H:Trace P E ann full.toList ops S v) (G:Good ops)
  (hstr: ∀(i:Nat) (o:Oper),ops[i]?=some o-> ∀t∈ZA8 o,∀(j:Nat) (x:Oper),ops[j]?=some x->x.dst=some t->j<i)
  (hF:okF (S ops.length).st=true)
  (hr1: ∀(k:Nat) o,r1[k]?=some o->o.guard=none/\(∀e∈o.after,Region.binds .any e=true->e.on<ops.length+k)/\
   ∀t∈ZA8 o,∀(j:Nat) (x:Oper),ops[j]?=some x->x.dst=some t->TP full.toList (ops.length+k) j)
  (hap: ∀t,(∃(j:Nat) (o:Oper),ops[j]?=some o/\(o.dst=some t\/t∈ZA8 o))-> ∀(q:Nat) (x:Oper),r1[q]?=some x->x.dst≠some t)
  {tch:List Nat} (htch: ∀t,(∃(j:Nat) (o:Oper),ops[j]?=some o/\(o.dst=some t\/t∈ZA8 o))->t∈tch)
  (hp: ∀(j:Nat) (o:Oper),ops[j]?=some o->idOf o % 10000∈pids)
  (GC:Chain full.toList (ops.length+r1.length) post)
  (hQ: ∀(fuel:Nat) (listed:Array Bool) (a:Act) (w:World) (s:St),(ZBv full.size listed).length<=fuel->listed.size=full.size->(∀j,listed[j]?=some true↔j<ops.length+r1.length)->K s=some r->s.fr.length=(S 0).fr.length->Mid2 C ops S s (λj=>j<ops.length) a w->wpAny P .any full Q fuel listed a w):
  ∀(fuel f:Nat) (done:List Nat) (s:St) (listed:Array Bool) (a:Act) (w:World),ZE6 E T ann full.toList (S ops.length).st pids (ZBf [] full.toList) ops.length tch r1 K f done s=some r->
  (∀t,(∃(j:Nat) (o:Oper),ops[j]?=some o/\(o.dst=some t\/t∈ZA8 o))->get s.fr t=get (S ops.length).fr t)->s.fr.length=(S 0).fr.length->
  (∀q,q<r1.length->(listed[ops.length+q]?=some true↔q∈done))->(ZBv full.size listed).length<=fuel->listed.size=full.size->
  (∀(j:Nat) (x:Oper) i,listed[j]?=some true->full.toList[j]?=some x->ZBS x i=true->listed[i]?=some true)->(∀j,listed[j]?=some true->j<ops.length+r1.length)->
  Mid2 C ops S s (λj=>listed[j]?=some true/\j<ops.length) a w->wpAny P .any full Q fuel listed a w:=by
 have hsize:full.size=ops.length+(r1.length+post.length):=by
  have:=congrArg List.length hsp;simpa using this
 have hfull: ∀(i:Nat) (o:Oper),ops[i]?=some o->full[i]?=some o:=λi o h=>by
  have hi:=(al_get_iff.mp h).1
  have:full.toList[i]?=some o:=by rw[hsp,List.getElem?_append_left hi];exact h
  simpa using this
 have at_r1: ∀k o,r1[k]?=some o->full[ops.length+k]?=some o:=λk o h=>by
  have hk:=(al_get_iff.mp h).1
  have:full.toList[ops.length+k]?=some o:=by rw[hsp,List.getElem?_append_right (by omega),List.getElem?_append_left (by omega)];simpa using h
  simpa using this
 have at_post: ∀k o,full[ops.length+r1.length+k]?=some o->post[k]?=some o:=λk o h=>by
  have h':full.toList[ops.length+r1.length+k]?=some o:=by simpa using h
  rw[hsp,List.getElem?_append_right (by omega),List.getElem?_append_right (by omega)]at h'
  rw[show ops.length+r1.length+k-ops.length-r1.length=k by omega]at h'
  exact h'
 have hback: ∀(i:Nat) (o:Oper),i<ops.length+r1.length->full[i]?=some o-> ∀e∈o.after,Region.binds .any e=true->e.on<i:=λi o hi ho e he hb=>by
  by_cases h:i<ops.length
  ·have h3:ops[i]?=some ops[i]:=by simp
   have:=hfull i _ h3
   rw[ho]at this;cases this
   exact G.back i _ h3 e he hb
  ·obtain⟨q,rfl⟩: ∃q,i=ops.length+q:=⟨i-ops.length,by omega⟩
   have h3:r1[q]?=some (r1[q]'(by omega)):=by simp
   have:=at_r1 q _ h3
   rw[ho]at this;cases this
   exact(hr1 q _ h3).2.1 e he hb
 intro fuel
 induction fuel with
 | zero=>
  intro f done s listed a w h hfr hlen hdone hf hsz hcl hlt M
  have full_listed: ∀j,j<full.size->listed[j]?=some true:=λj hj=>by
   rcases Classical.em (listed[j]?=some true)with h | h
   ·exact h
   ·have:=List.length_pos_of_mem (ZHF hsz (i:=j) hj (ZEW hsz hj h))
    omega
  cases f with
  | zero=>simp only[ZE6]at h;cases h
  | succ f=>
   simp only[ZE6]at h
   cases hb:okB (S ops.length).st pids s.st
   ·rw[hb]at h;cases h
   rw[hb,al_cond_true]at h
   have alld: ∀q,q<r1.length->q∈done:=λq hq=>(hdone q hq).1 (full_listed _ (by omega))
   have hnil:rdyR (ZBf [] full.toList) ops.length r1.length done=[]:=by
    unfold rdyR
    rw[List.filter_eq_nil_iff]
    intro q hq
    rw[ZDJ.2 (alld q (by simpa using hq)),al_cond_true];simp
   rw[hnil]at h
   have hall:((List.range r1.length).all λi=>memN i done)=true:=List.all_eq_true.mpr λq hq=>ZDJ.2 (alld q (by simpa using hq))
   simp only[hall,al_cond_true]at h
   refine hQ 0 listed a w s hf hsz (λj=>⟨hlt j,λhj=>full_listed j (by omega)⟩) h hlen ?_
   have e:(λj=>listed[j]?=some true/\j<ops.length)=λj=>j<ops.length:=funext λj=>propext ⟨λh=>h.2,λh=>⟨full_listed j (by omega),h⟩⟩
   rw[e]at M;exact M
 | succ fuel ih=>
  intro f done s listed a w h hfr hlen hdone hf hsz hcl hlt M
  have h0:=h
  cases f with
  | zero=>simp only[ZE6]at h;cases h
  | succ f=>
  simp only[ZE6]at h
  cases hb:okB (S ops.length).st pids s.st
  ·rw[hb]at h;cases h
  rw[hb,al_cond_true]at h
  have hMS:MidS ops S s:=by
   refine⟨hfr,hlen,λid hid=> ?_,λid j o hid ho hn=> ?_⟩
   ·obtain⟨b,hb'⟩:=ZBn hid
    exact(ZOU hb hb').1
   ·obtain⟨b,hb'⟩:=ZBn hid
    exact(ZOU hb hb').2 _ (hp j o ho) (ZOT hn)
  by_cases hall: ∀j,j<ops.length+r1.length->listed[j]?=some true
  ·have alld: ∀q,q<r1.length->q∈done:=λq hq=>(hdone q hq).1 (hall _ (by omega))
   have hnil:rdyR (ZBf [] full.toList) ops.length r1.length done=[]:=by
    unfold rdyR
    rw[List.filter_eq_nil_iff]
    intro q hq
    rw[ZDJ.2 (alld q (by simpa using hq)),al_cond_true];simp
   rw[hnil]at h
   have hall':((List.range r1.length).all λi=>memN i done)=true:=List.all_eq_true.mpr λq hq=>ZDJ.2 (alld q (by simpa using hq))
   simp only[hall',al_cond_true]at h
   refine hQ _ listed a w s hf hsz (λj=>⟨hlt j,hall j⟩) h hlen ?_
   have e:(λj=>listed[j]?=some true/\j<ops.length)=λj=>j<ops.length:=funext λj=>propext ⟨λh=>h.2,λh=>⟨hall j (by omega),h⟩⟩
   rw[e]at M;exact M
  ·obtain⟨u,hu,huf⟩: ∃u,u<ops.length+r1.length/\listed[u]?=some false:=by
    rcases Classical.em (∃m,m<ops.length+r1.length/\listed[m]?=some false)with h | h
    ·exact h
    ·exfalso
     refine hall λj hj=> ?_
     rcases Classical.em (listed[j]?=some true)with h' | h'
     ·exact h'
     ·exact absurd ⟨j,hj,ZEW hsz (by omega) h'⟩ h
   have some_ready: ∃i,i∈Region.ready .any full listed:=by
    have go: ∀n j,j<=n->j<ops.length+r1.length->listed[j]?=some false-> ∃i,i∈Region.ready .any full listed:=by
     intro n
     induction n with
     | zero=>
      intro j hj hjl hjf
      have:j=0:=by omega
      subst this
      have ho:full[0]?=some (full[0]'(by omega)):=by simp
      exact⟨0,(ZCF hsz _).2 ⟨_,ho,hjf,λe he hb=>by have:=hback 0 _ hjl ho e he hb;omega⟩⟩
     | succ n ihn=>
      intro j hj hjl hjf
      have ho:full[j]?=some (full[j]'(by omega)):=by simp
      by_cases hp: ∃e∈(full[j]'(by omega)).after,Region.binds .any e=true/\ ¬listed[e.on]?=some true
      ·obtain⟨e,he,hb,hn⟩:=hp
       have:=hback j _ hjl ho e he hb
       exact ihn e.on (by omega) (by omega) (ZEW hsz (by omega) hn)
      ·refine⟨j,(ZCF hsz _).2 ⟨_,ho,hjf,λe he hb=> ?_⟩⟩
       rcases Classical.em (listed[e.on]?=some true)with h' | h'
       ·exact h'
       ·exact absurd ⟨e,he,hb,h'⟩ hp
    exact go u u (Nat.le_refl _) hu huf
   refine⟨λhnil=> ?_,λi hi=> ?_⟩
   ·obtain⟨i,hi⟩:=some_ready
    rw[hnil]at hi;cases hi
   ·obtain⟨o,ho,h1,h2⟩:=(ZCF hsz i).1 hi
    have hif:i<full.size:=(Array.getElem?_eq_some_iff.mp ho).1
    have ho':full.toList[i]?=some o:=by simpa using ho
    have hset:=ZIg (i:=i) (listed:=listed) (by omega)
    have hpl: ∀m,ZBS o m=true->listed[m]?=some true:=λq hq=>by
     obtain⟨e,he,rfl,hb⟩:=ZDI.1 hq
     exact h2 e he hb
    have ready_tp: ∀ {j},TP full.toList i j->listed[j]?=some true:=λh=>ZKs (P:=λj=>listed[j]?=some true) hcl ho' hpl h
    have hcl': ∀(j:Nat) (x:Oper) m,(listed.setIfInBounds i true)[j]?=some true->full.toList[j]?=some x->ZBS x m=true->(listed.setIfInBounds i true)[m]?=some true:=λj x m hj hx hp=>by
     rw[hset]at hj⊢
     rcases hj with hj | rfl
     ·exact .inl (hcl j x m hj hx hp)
     ·rw[ho']at hx;cases hx
      exact .inl (hpl m hp)
    by_cases hin:i<ops.length
    ·have hoo:ops[i]?=some o:=by
      have h3:ops[i]?=some ops[i]:=by simp
      have:=hfull i _ h3
      rw[ho]at this;cases this;exact h3
     have hbk: ∀j,ZBS o j=true->j<ops.length:=λj hp=>by
      obtain⟨e,he,rfl,hb⟩:=ZDI.1 hp
      have:=G.back i o hoo e he hb
      omega
     refine ZT8 hfull H G hstr hMS (o:=o) hoo (λh=>by rw[h1]at h;cases h.1) (λj hp=>⟨hpl j hp,hbk j hp⟩) M λa w M'=>ih (f+1) done s _ a w h0 hfr hlen (λq hq=> ?_) (by have:=ZHG hsz hif h1;omega) (by simpa using hsz) hcl' (λj hj=> ?_) ?_
     ·rw[hset]
      constructor
      ·rintro (h | h)
       ·exact(hdone q hq).1 h
       ·omega
      ·exact λh=> .inl ((hdone q hq).2 h)
     ·rw[hset]at hj
      rcases hj with hj | rfl
      ·exact hlt j hj
      ·omega
     ·have:(λj=>(listed.setIfInBounds i true)[j]?=some true/\j<ops.length)=λj=>(listed[j]?=some true/\j<ops.length)\/j=i:=by
       funext j
       refine propext ?_
       rw[hset]
       constructor
       ·rintro ⟨h | h,h'⟩
        ·exact .inl ⟨h,h'⟩
        ·exact .inr h
       ·rintro (⟨h,h'⟩ | rfl)
        ·exact⟨.inl h,h'⟩
        ·exact⟨.inr rfl,hin⟩
      rw[this];exact M'
    ·by_cases hir:i<ops.length+r1.length
     ·obtain⟨q,rfl⟩: ∃q,i=ops.length+q:=⟨i-ops.length,by omega⟩
      have hq:q<r1.length:=by omega
      have hoq:r1[q]?=some o:=by
       have h3:r1[q]?=some (r1[q]'hq):=by simp
       have:=at_r1 q _ h3
       rw[ho]at this;cases this;exact h3
      obtain⟨s2,s5,s6⟩:=hr1 q o hoq
      have hqd:q∉done:=λhm=>by
       have:=(hdone q hq).2 hm
       rw[h1]at this;cases this
      have hmem:q∈rdyR (ZBf [] full.toList) ops.length r1.length done:=by
       unfold rdyR
       rw[List.mem_filter]
       refine⟨by simpa using hq,?_⟩
       have e:memN q done=false:=by
        cases e:memN q done
        ·rfl
        ·exact absurd (ZDJ.1 e) hqd
       rw[e,al_cond_false]
       refine List.all_eq_true.mpr λj hj=> ?_
       have hjl:=ready_tp (ZOV hj)
       by_cases hjn:j<ops.length
       ·have:Nat.blt j ops.length=true:=by simpa using hjn
        rw[this,al_cond_true]
       ·have:Nat.blt j ops.length=false:=by
         cases e:Nat.blt j ops.length
         ·rfl
         ·simp at e;omega
        rw[this,al_cond_false]
        have hjm:=hlt j hjl
        refine ZDJ.2 ((hdone (j-ops.length) (by omega)).1 ?_)
        rw[show ops.length+(j-ops.length)=j by omega]
        exact hjl
      cases hrd:rdyR (ZBf [] full.toList) ops.length r1.length done with
      | nil=>rw[hrd]at hmem;cases hmem
      | cons i0 is=>
       rw[hrd]at h hmem
       have hk:=ZKu h _ (List.mem_map.mpr ⟨q,hmem,rfl⟩)
       simp only[hoq]at hk
       cases hc:(okA (S ops.length).st (idOf o % 10000) && ZG3 E ann tch o s.fr)
       ·rw[hc]at hk;cases hk
       rw[hc,al_cond_true]at hk
       rw[ZAJ]at hc
       obtain⟨v0,s',st0,l0,f0,hk⟩:=ZUK hT hE hk hc.2 s2
       refine ZT9 hMS hF ho s2 hc.1 st0 (λt ht j x hx hd=>⟨ready_tp (s6 t ht j x hx hd),(al_get_iff.mp hx).1⟩) M λa w M'=>ih f (q::done) s' _ a w hk (λt ht=> ?_) (l0.trans hlen) (λq' hq'=> ?_) (by have:=ZHG hsz hif h1;omega) (by simpa using hsz) hcl' (λj hj=> ?_) ?_
       ·exact(f0 t (htch t ht) (hap t ht q o hoq)).trans (hfr t ht)
       ·rw[hset,List.mem_cons]
        constructor
        ·rintro (h | h)
         ·exact .inr ((hdone q' hq').1 h)
         ·exact .inl (by omega)
        ·rintro (h | h)
         ·exact .inr (by omega)
         ·exact .inl ((hdone q' hq').2 h)
       ·rw[hset]at hj
        rcases hj with hj | rfl
        ·exact hlt j hj
        ·omega
       ·have:(λj=>(listed.setIfInBounds (ops.length+q) true)[j]?=some true/\j<ops.length)=λj=>listed[j]?=some true/\j<ops.length:=by
         funext j
         refine propext ?_
         rw[hset]
         constructor
         ·rintro ⟨h | h,h'⟩
          ·exact⟨h,h'⟩
          ·omega
         ·rintro ⟨h,h'⟩
          exact⟨.inl h,h'⟩
        rw[this];exact M'
     ·exfalso
      obtain⟨q,rfl⟩: ∃q,i=ops.length+r1.length+q:=⟨i-ops.length-r1.length,by omega⟩
      have:=ready_tp (GC.pred q o (at_post q o ho) u (by omega))
      rw[huf]at this;cases this
theorem ZUM{P:List Oper}{t:Nat}(h: ∃(j:Nat) (o:Oper),P[j]?=some o/\(o.dst=some t\/t∈ZA8 o)):t∈ZKG P:=by
 obtain⟨j,o,ho,h⟩:=h
 unfold ZKG
 rw[List.mem_flatMap]
 refine⟨o,al_mem_get ho,?_⟩
 rw[List.mem_append]
 rcases h with h | h
 ·left;rw[h];simp
 ·exact .inr h
theorem ZOj{R:Type}{P:Program}{E:Env}{T:Tab}(hT:ZBW P T)(hE:EnvOK P E){ann:Nat->Bool}{rid:Nat}{full:Array Oper}{p1 r1 r2:List Oper}{K:St->Option R}{s:St}{r:R}(hsp:full.toList=p1++(r1++r2))
  (hok:ZG0 E ann p1 r1 r2 (ZBf [] full.toList)=true) (h:ZKH E T ann rid full.toList p1 r1 r2 s K=some r) {C:Ctx} {Q:Exit->Act->World->Prop}
  (hQ: ∀s' a w,K s'=some r->SR C s' a w->Q .normal a w) {a:Act} {w:World} (hs:SR C s a w):wpAny P .any full Q full.size (Array.replicate full.size false) a {w with drawn:=w.drawn+1} :=by
 unfold ZG0 at hok
 simp only[ZAJ]at hok
 obtain⟨c1,c2,c3,c4,c5,c6,c7⟩:=hok
 unfold ZKH at h
 obtain⟨S,v,hS,hk,hst⟩:=ZKn hT hE c1 h
 cases hF:okF (S p1.length).st
 ·rw[hF]at hk;cases hk
 rw[hF,al_cond_true]at hk
 have lo:=ZOi c4
 have H:Trace P E ann full.toList p1 S v:=⟨hst⟩
 have G:=ZOM c2
 have GC:=ZKt c7
 have hstr: ∀(i:Nat) (o:Oper),p1[i]?=some o-> ∀t∈ZA8 o,∀(j:Nat) (x:Oper),p1[j]?=some x->x.dst=some t->j<i:=λi o hi t ht j x hx hd=>by
  have:=ZOY c3 i o hi t ht j x hx hd
  omega
 have hp: ∀(j:Nat) (o:Oper),p1[j]?=some o->idOf o % 10000∈p1.map λo=>idOf o % 10000:=λj o ho=>List.mem_map.mpr ⟨o,al_mem_get ho,rfl⟩
 have hsize:full.size=p1.length+(r1.length+r2.length):=by
  have:=congrArg List.length hsp;simpa using this
 have hend: ∀(fuel:Nat) (listed:Array Bool) (a:Act) (w:World) (s2:St),(ZBv full.size listed).length<=fuel->listed.size=full.size->(∀j,listed[j]?=some true↔j<p1.length+r1.length)->
   ZBD E T ann full.toList r2 ⟨s2.fr,s2.st++(S p1.length).st⟩ K=some r->s2.fr.length=(S 0).fr.length->Mid2 C p1 S s2 (λj=>j<p1.length) a w->wpAny P .any full Q fuel listed a w:=by
  intro fuel listed a w s2 hf hsz hl hk2 hlen M
  obtain⟨S',v',hS',hk',hst'⟩:=ZHD hT hE hk2
  obtain⟨ρ,F,HC,DM,B,own,hr⟩:=M.ex
  have hSR:SR C (S' 0) a w:=by
   rw[hS']
   refine⟨M.defers,by simp only;rw[hlen];exact M.len,ρ,F,HC,DM,B,λt=>hr t λj o ho _=>(al_get_iff.mp ho).1⟩
  have hsp':full.toList=(p1++r1)++r2:=by rw[hsp,List.append_assoc]
  refine ZOQ (ops:=p1++r1) (post:=r2) hsp' ?_ (by rw[al_len_append];exact GC) hst' (λa w hs=>hQ _ a w hk' hs) r2.length 0 fuel listed a w (by omega) hf hsz (λj=>by rw[hl,al_len_append];omega) hSR
  intro i o ho e he hb
  by_cases hi:i<p1.length
  ·rw[List.getElem?_append_left hi]at ho
   exact G.back i o ho e he hb
  ·rw[List.getElem?_append_right (by omega)]at ho
   have:=(lo _ o ho).2 e he hb
   omega
 refine ZUL hT hE (done:=[]) hsp H G hstr hF (λk o ho=> ?_) (λt ht q x hx=>ZU c6 ht hx) (λt ht=>ZUM ht) hp GC hend full.size _ _ _ a _ hk (λt _=>rfl) (H.len _ (Nat.le_refl _)) (λq hq=> ?_) ?_ (by simp) (λj x i hj=> ?_) (λj hj=> ?_) ?_
 ·obtain⟨l2,l4⟩:=lo k o ho
  refine⟨l2,λe he hb=> ?_,λt ht j x hx hd=> ?_⟩
  ·have:=l4 e he hb
   omega
  ·have:=ZOZ c5 k o ho t ht j x hx hd
   rw[Nat.zero_add]at this
   exact ZOV this
 ·simp[Array.getElem?_replicate]
 ·unfold ZBv
  exact Nat.le_trans (List.length_filter_le _ _) (by simp)
 ·simp[Array.getElem?_replicate]at hj
 ·simp[Array.getElem?_replicate]at hj
 ·obtain⟨ρ,F,HC,DM,B,hr⟩:=hs.ex
  have chg:Chg (λ_=>False) w {w with drawn:=w.drawn+1} :=⟨rfl,rfl,rfl,Nat.le_refl _,λ_ _ _=>rfl,DR.succ _⟩
  have ext:Ext (λ_=>False) ρ F w ρ F {w with drawn:=w.drawn+1} :=⟨λ_ _ _ h=>h,λ_ h=>h,λ_ _=>rfl⟩
  have HC':Core ρ F s.st {w with drawn:=w.drawn+1} :=ZNL HC chg (λ_ h=>h) (λb h=>HC.stable b h) (ZF HC DM)
  have lB: ∀id,look (s.st.filter λp=>ann (1000000+rid*100000+p.1)) id=if ann (1000000+rid*100000+id)=true then look s.st id else none:=ZHH (λid=>ann (1000000+rid*100000+id)) s.st
  have lA: ∀id,look (S 0).st id=if(!(ann (1000000+rid*100000+id)))=true then look s.st id else none:=by
   rw[hS];exact ZHH (λid=> !(ann (1000000+rid*100000+id))) s.st
  have frS:get (S 0).fr=get s.fr:=by rw[hS]
  have back: ∀id l b,ρ id=some l->look ((s.st.filter λp=>ann (1000000+rid*100000+p.1))++(S p1.length).st) id=some b->look s.st id=some b:=by
   intro id l b hl hb
   obtain⟨b0,hb0⟩:=ZBn (DM id l hl)
   by_cases ha:ann (1000000+rid*100000+id)=true
   ·have:=lB id
    rw[al_if_pos ha,hb0]at this
    rw[ZFA this]at hb
    rw[hb0];exact hb
   ·have h1:=lB id
    rw[al_if_neg ha]at h1
    rw[ZDK h1]at hb
    rcases H.dn p1.length (Nat.le_refl _) hb with h2 | ⟨j,o,hj,ho,hn⟩
    ·rw[lA id]at h2
     split at h2
     ·exact h2
     ·cases h2
    ·have h3:=lA id
     rw[al_if_pos (by simp[ha]),hb0]at h3
     have:=H.up h3 p1.length (by omega)
     rw[Nat.zero_add,hb]at this
     cases this
     exact hb0
  have forth: ∀id b,look s.st id=some b->look ((s.st.filter λp=>ann (1000000+rid*100000+p.1))++(S p1.length).st) id=some b:=by
   intro id b hb
   by_cases ha:ann (1000000+rid*100000+id)=true
   ·refine ZFA ?_
    rw[lB id,al_if_pos ha];exact hb
   ·have h1:=lB id
    rw[al_if_neg ha]at h1
    rw[ZDK h1]
    have h3:=lA id
    rw[al_if_pos (by simp[ha]),hb]at h3
    have:=H.up h3 p1.length (by omega)
    rwa[Nat.zero_add]at this
  refine⟨hs.defers,by rw[hS];exact hs.len,ρ,F,⟨λid loc blk h1 h2=>HC'.heap id loc blk h1 (back id loc blk h1 h2),HC'.inj,HC'.stable,HC'.glob⟩,λid l hl=> ?_,?_,λid l hl=> ?_,λt ht=> ?_⟩
  ·obtain⟨b,hb⟩:=ZBn (DM id l hl)
   rw[forth id b hb];simp
  ·refine⟨B.chg.trans chg (λ_ h=>h) (λ_ _ h=>h.elim),B.mb,B.stb,?_⟩
   intro j l hj hl hk
   refine B.par j l hj hl λhn=> ?_
   obtain⟨b,hb⟩:=ZBn hk
   have g1:look (s.st.filter λp=>ann (1000000+rid*100000+p.1)) j=none:=by
    rw[lB j,hn];simp
   rw[ZDK g1]at hb
   rcases H.dn p1.length (Nat.le_refl _) hb with h2 | ⟨i,o,_,ho,q,e⟩
   ·rw[lA j,hn]at h2
    simp at h2
   ·unfold idOf at e;omega
  ·obtain⟨b,hb⟩:=ZBn (DM id l hl)
   by_cases ha:ann (1000000+rid*100000+id)=true
   ·refine .inr (.inr ?_)
    rw[lB id,al_if_pos ha,hb];simp
   ·left
    rw[lA id,al_if_pos (by simp[ha]),hb];simp
  ·have e:get (S p1.length).fr t=get s.fr t:=by
    rcases H.slot G t p1.length (Nat.le_refl _)with ⟨j,x,hj,hx,hd,_⟩ | ⟨_,hv⟩
    ·have:=ht j x hx hd
     simp[Array.getElem?_replicate]at this
    ·rw[hv,frS]
   simp only
   rw[e]
   exact RelT.ext0 ext (hr t)
theorem ZUN(E:Env)(ann:Nat->Bool)(ops:List Oper):ops=(ZEN E ann ops).1++((ZEN E ann ops).2.1++(ZEN E ann ops).2.2):=by
 unfold ZEN
 simp only[List.take_append_drop]
theorem ZUO(n:Nat)(ops:List Oper):ops=(ZEO n ops).1++((ZEO n ops).2.1++(ZEO n ops).2.2):=by
 unfold ZEO
 simp only[List.take_append_drop]
structure PermP(full full':Array Oper)(ix:List Nat):Prop where
 size:full'.size=full.size
 len:ix.length=full.size
 at_: ∀p,p<full.size-> ∃o,full[ix.getD p 0]?=some o/\full'[p]?=some (renO ix o)
 guard: ∀(i:Nat) (o:Oper),full[i]?=some o->o.guard=none/\ ∀e∈o.after,e.on<full.size
 pos: ∀i,i<full.size->ZCO i 0 ix<full.size/\ix.getD (ZCO i 0 ix) 0=i
 inj: ∀p,p<full.size->ix.getD p 0<full.size/\ZCO (ix.getD p 0) 0 ix=p
theorem ZOk{α β:Type}{f:α->Option β} : ∀ {l:List α},(∀x∈l,(f x).isSome=true)->(l.filterMap f).length=l.length/\ ∀(p:Nat),(l.filterMap f)[p]?=(l[p]?).bind f
 | [],_=>⟨rfl,λp=>by simp⟩
 | x::l,h=>by
  obtain⟨b,hb⟩:=Option.isSome_iff_exists.mp (h x (by simp))
  obtain⟨h1,h2⟩:=ZOk (f:=f) (l:=l) λy hy=>h y (by simp[hy])
  rw[List.filterMap_cons_some hb]
  refine⟨by simp[h1],λp=> ?_⟩
  cases p with
  | zero=>simp[hb]
  | succ p=>simpa using h2 p
theorem ZUP{full:Array Oper}{ix:List Nat}(h:ZII full.toList ix=true):PermP full (ZDC full.toList ix).toArray ix:=by
 unfold ZII at h
 simp only[ZAJ]at h
 obtain⟨⟨h1,h2⟩,h3⟩:=h
 have h1:ix.length=full.size:=by simpa using h1
 have h3': ∀p,p<full.size->ix.getD p full.size<full.size/\ZCO (ix.getD p 0) 0 ix=p/\ix.getD (ZCO p 0 ix) 0=p/\ZCO p 0 ix<full.size:=λp hp=>by
  have:=List.all_eq_true.mp h3 p (by simpa using hp)
  simpa using this
 have hd: ∀p,p<full.size->ix.getD p 0=ix.getD p full.size:=λp hp=>by
  rw[List.getD_eq_getElem?_getD,List.getD_eq_getElem?_getD]
  have:ix[p]?=some (ix[p]'(by omega)):=by simp
  rw[this];rfl
 have hlt: ∀p,p<full.size->ix.getD p 0<full.size:=λp hp=>by rw[hd p hp];exact(h3' p hp).1
 have hsome: ∀x∈ix,(ZIH full.toList ix x).isSome=true:=λx hx=>by
  obtain⟨p,hp⟩:=List.mem_iff_getElem?.mp hx
  have hpl:=(al_get_iff.mp hp).1
  have:=hlt p (by omega)
  rw[List.getD_eq_getElem?_getD,hp]at this
  simp only[Option.getD_some]at this
  have e:full.toList[x]?=some (full[x]'this):=by simp[this]
  unfold ZIH
  rw[e];rfl
 obtain⟨f1,f2⟩:=ZOk hsome
 refine⟨?_,h1,λp hp=> ?_,λi o ho=> ?_,λi hi=>⟨(h3' i hi).2.2.2,(h3' i hi).2.2.1⟩,λp hp=>⟨hlt p hp,(h3' p hp).2.1⟩⟩
 ·show(ZDC full.toList ix).toArray.size=_
  rw[List.size_toArray]
  unfold ZDC
  rw[f1,h1]
 ·have hl:=hlt p hp
  refine⟨full[ix.getD p 0]'hl,by simp[hl],?_⟩
  rw[List.getElem?_toArray]
  unfold ZDC
  rw[f2 p]
  have hp':ix[p]?=some (ix.getD p 0):=by
   rw[List.getD_eq_getElem?_getD]
   have:ix[p]?=some (ix[p]'(by omega)):=by simp
   rw[this];rfl
  rw[hp']
  have e:full.toList[ix.getD p 0]?=some (full[ix.getD p 0]'hl):=by simp[hl]
  simp only[al_bind_some,ZIH,e]
 ·have:=List.all_eq_true.mp h2 o (by
   have:full.toList[i]?=some o:=by simpa using ho
   exact al_mem_get this)
  rw[ZAJ]at this
  refine⟨by simpa using this.1,λe he=> ?_⟩
  have:=List.all_eq_true.mp this.2 e (by simpa using he)
  simpa using this
theorem ZUQ{P:Program}{full full':Array Oper}{Q:Exit->Act->World->Prop}{ix:List Nat}{i p:Nat}{o:Oper}{K K':Act->World->Prop}{a:Act}{w:World}(ho:full[i]?=some o)(ho':full'[p]?=some (renO ix o))(hg:o.guard=none)
  (h:wpOp P full' Q p K' a w) (hK: ∀a w,K' a w->K a w):wpOp P full Q i K a w:=by
 have h:=wpOp_mono hK h
 unfold wpOp at h⊢
 simp only[ho]at⊢
 simp only[ho']at h
 have w1: ∀y,Region.wanted o y=true:=λy=>by unfold Region.wanted;rw[hg]
 have w2: ∀y,Region.wanted (renO ix o) y=true:=λy=>by
  have:(renO ix o).guard=none:=hg
  unfold Region.wanted;rw[this]
 rw[al_if_pos (w1 _)]
 rw[al_if_pos (w2 _)]at h
 exact h
theorem ZUR{P:Program}{full full':Array Oper}{Q:Exit->Act->World->Prop}{ix:List Nat}(H:PermP full full' ix):
  ∀(fuel:Nat) (l l':Array Bool) (a:Act) (w:World),l.size=full.size->l'.size=full'.size->(∀p,p<full.size->l'[p]?=l[ix.getD p 0]?)->wpAny P .any full' Q fuel l' a w->wpAny P .any full Q fuel l a w:=by
 have rd1: ∀(l l':Array Bool),l.size=full.size->l'.size=full'.size->(∀p,p<full.size->l'[p]?=l[ix.getD p 0]?)-> ∀i,i∈Region.ready .any full l->ZCO i 0 ix∈Region.ready .any full' l':=by
  intro l l' hs hs' hc i hi
  obtain⟨o,ho,h1,h2⟩:=(ZCF hs i).1 hi
  have hil:i<full.size:=(Array.getElem?_eq_some_iff.mp ho).1
  obtain⟨q1,q2⟩:=H.pos i hil
  obtain⟨o',ho1,ho2⟩:=H.at_ _ q1
  rw[q2,ho]at ho1
  cases ho1
  refine(ZCF hs' _).2 ⟨_,ho2,by rw[hc _ q1,q2];exact h1,λe he hb=> ?_⟩
  have he':e∈o.after.toList.map (renE ix):=by
   have:e∈(o.after.toList.map (renE ix)).toArray:=he
   simpa using this
  obtain⟨e0,he0,rfl⟩:=List.mem_map.mp he'
  have he0':e0∈o.after:=by simpa using he0
  have hlt:=(H.guard i o ho).2 e0 he0'
  obtain⟨q3,q4⟩:=H.pos e0.on hlt
  show l'[ZCO e0.on 0 ix]?=some true
  rw[hc _ q3,q4]
  exact h2 e0 he0' hb
 have rd2: ∀(l l':Array Bool),l.size=full.size->l'.size=full'.size->(∀p,p<full.size->l'[p]?=l[ix.getD p 0]?)-> ∀p,p∈Region.ready .any full' l'->ix.getD p 0∈Region.ready .any full l:=by
  intro l l' hs hs' hc p hp
  obtain⟨o',ho',h1,h2⟩:=(ZCF hs' p).1 hp
  have hpl:p<full.size:=by rw[<-H.size];exact(Array.getElem?_eq_some_iff.mp ho').1
  obtain⟨o,ho1,ho2⟩:=H.at_ p hpl
  rw[ho']at ho2
  cases ho2
  refine(ZCF hs _).2 ⟨o,ho1,by rw[<-hc p hpl];exact h1,λe he hb=> ?_⟩
  have hlt:=(H.guard _ o ho1).2 e he
  obtain⟨q3,q4⟩:=H.pos e.on hlt
  have:=h2 (renE ix e) (by
   show renE ix e∈(o.after.toList.map (renE ix)).toArray
   simp only[List.mem_toArray]
   exact List.mem_map.mpr ⟨e,by simpa using he,rfl⟩) hb
  have this:l'[ZCO e.on 0 ix]?=some true:=this
  rw[hc _ q3,q4]at this
  exact this
 intro fuel
 induction fuel with
 | zero=>
  intro l l' a w hs hs' hc h
  refine⟨?_,h.2⟩
  cases hx:Region.ready .any full l with
  | nil=>rfl
  | cons i is=>
   have:=rd1 l l' hs hs' hc i (by rw[hx];simp)
   rw[h.1]at this;cases this
 | succ fuel ih=>
  intro l l' a w hs hs' hc h
  refine⟨λhnil=>h.1 ?_,λi hi=> ?_⟩
  ·cases hx:Region.ready .any full' l' with
   | nil=>rfl
   | cons p is=>
    have:=rd2 l l' hs hs' hc p (by rw[hx];simp)
    rw[hnil]at this;cases this
  ·obtain⟨o,ho,h1,h2⟩:=(ZCF hs i).1 hi
   have hil:i<full.size:=(Array.getElem?_eq_some_iff.mp ho).1
   obtain⟨q1,q2⟩:=H.pos i hil
   obtain⟨o',ho1,ho2⟩:=H.at_ _ q1
   rw[q2,ho]at ho1
   cases ho1
   refine ZUQ ho ho2 (H.guard i o ho).1 (h.2 _ (rd1 l l' hs hs' hc i hi)) λa w h=>ih _ _ a w (by simpa using hs) (by simpa using hs') (λp hp=> ?_) h
   have hpl:p<l'.size:=by rw[hs',H.size];exact hp
   obtain⟨q3,q4⟩:=H.inj p hp
   rw[Array.getElem?_setIfInBounds,Array.getElem?_setIfInBounds]
   by_cases e:ZCO i 0 ix=p
   ·have e2:i=ix.getD p 0:=by rw[<-e,q2]
    rw[al_if_pos e,al_if_pos e2,al_if_pos (by rw[hs',H.size];omega),al_if_pos]
   ·have e2:i≠ix.getD p 0:=λe3=>e (by rw[e3,q4])
    rw[al_if_neg e,al_if_neg e2]
    exact hc p hp
theorem ZUS{R:Type}{P:Program}{E:Env}{T:Tab}(hT:ZBW P T)(hE:EnvOK P E)(hm:P.follows .mixedOrders=true){ann:Nat->Bool}{L:LEnv R}{kr:St->Option R}{id:Nat}{ops:Array Oper}{d:Bool}
  {X:Nat->St->Option R} {K:St->Option R} {s:St} {r:R} (h:ev E T ann L kr (.region id ops d) X K s=some r) {C:Ctx} {Q:Exit->Act->World->Prop}
  (hQ: ∀s' a w,K s'=some r->SR C s' a w->Q .normal a w) {a:Act} {w:World} (hs:SR C s a w):(Code.region id ops d).wp P Q a w:=by
 cases d with
 | false=>
  simp only[ev]at h
  exact wp_region_list (ZKm hT hE (λs a w hk h=>hQ s a w hk h) ops.toList s h a w hs)
 | true=>
  simp only[ev]at h
  cases hc:ZKD E ann ops.toList
  ·rw[hc,al_cond_false]at h
   cases hm':ann (1000000+id*100000+99999)
   case true=>
    rw[hm',al_cond_true]at h
    unfold ZIL at h
    cases hk:ZG0 E ann (ZEN E ann ops.toList).1 (ZEN E ann ops.toList).2.1 (ZEN E ann ops.toList).2.2 (ZBf [] ops.toList)
    ·rw[hk]at h;cases h
    ·rw[hk,al_cond_true]at h
     exact wp_region_any hm (ZOj hT hE (ZUN E ann ops.toList) hk h hQ hs)
   rw[hm',al_cond_false]at h
   cases hm2:ann (1000000+id*100000+99998)
   case true=>
    rw[hm2,al_cond_true]at h
    unfold ZNH at h
    cases hk:ZII ops.toList (ZGz E ann ops.toList)
    ·rw[hk]at h;cases h
    rw[hk,al_cond_true]at h
    have HP:=ZUP hk
    unfold ZIL at h
    generalize hix:ZGz E ann ops.toList=ix at h HP
    generalize (ZGy E ann 0 [] ops.toList).length=n at h
    cases hk2:ZG0 E ann (ZEO n (ZDC ops.toList ix)).1 (ZEO n (ZDC ops.toList ix)).2.1 (ZEO n (ZDC ops.toList ix)).2.2 (ZBf [] (ZDC ops.toList ix))
    ·rw[hk2]at h;cases h
    rw[hk2,al_cond_true]at h
    have hw:=ZOj (full:=(ZDC ops.toList ix).toArray) (Q:=Q) hT hE (ZUO n _) hk2 h hQ hs
    rw[HP.size]at hw
    refine wp_region_any hm (ZUR HP ops.size _ _ _ _ (by simp) (by rw[HP.size];simp) (λp hp=> ?_) hw)
    simp[Array.getElem?_replicate,hp,(HP.inj p hp).1]
    have:=(HP.inj p hp).1
    simpa using this
   rw[hm2,al_cond_false]at h
   cases hb:Nat.ble ops.size 9
   ·rw[hb]at h;cases h
   ·rw[hb,al_cond_true]at h
    have H0:Trace P E ann ops.toList [] (λ_=>s) (λ_=> .undef):=⟨λi o hi=>by simp at hi⟩
    have G0:Good []:=⟨λi o hi=>by simp at hi,λi j o x d hi=>by simp at hi,λi o hi=>by simp at hi,λi o hi=>by simp at hi,λi o hi=>by simp at hi⟩
    refine wp_region_any hm (ZT4 hT hE (λs' a w hk hs'=>hQ s' a w hk hs') (ops.size+1) _ [] s _ _ _ h ?_ (by simp) (λj=> ?_) (ZKo H0 G0 (ZOO H0 hs) (λj hj=>by simp at hj)))
    ·unfold ZBv
     exact Nat.le_trans (List.length_filter_le _ _) (by simp)
    ·simp[Array.getElem?_replicate]
  rw[hc,al_cond_true]at h
  simp only[ZKD,ZAJ]at hc
  generalize hn:ZE3 E ann ops.toList=n at hc
  have hsp:ops.toList=ops.toList.take n++ops.toList.drop n:=(List.take_append_drop n _).symm
  have h':ZBD E T ann ops.toList (ops.toList.take n++ops.toList.drop n) s K=some r:=by rw[List.take_append_drop];exact h
  rw[ZOR]at h'
  obtain⟨S,v,hS,hk,hst⟩:=ZKn hT hE hc.1.1 h'
  obtain⟨S',v',hS',hk',hst'⟩:=ZHD hT hE hk
  have H:Trace P E ann ops.toList (ops.toList.take n) S v:=⟨hst⟩
  have G:=ZOM hc.1.2
  have GC:=ZKt hc.2
  refine wp_region_any hm (ZT3 hsp H G GC (λfuel listed a w hf hsz hl hs=>ZOQ hsp G.back GC hst' (λa w hs=>hQ _ a w hk' hs) _ 0 fuel listed a w (Nat.zero_add _) hf hsz (by simpa using hl) (by rw[hS'];exact hs)) _ _ _ _ ?_ (by simp) ?_ ?_ ?_)
  ·unfold ZBv
   exact Nat.le_trans (List.length_filter_le _ _) (by simp)
  ·intro j x i hj
   simp[Array.getElem?_replicate]at hj
  ·intro j hj
   simp[Array.getElem?_replicate]at hj
  ·have:(λ(j:Nat)=>(Array.replicate ops.size false)[j]?=some true)=λ_=>False:=by
    funext j;simp[Array.getElem?_replicate]
   rw[this]
   exact ZOO H (by rw[hS];exact hs)
end Ev
end
end
