/- Laid together by program (what the claim does not reach is left out): PatA, PureA. -/
import Derived.Test.YtoafhcjocdjkjaaGreatDoorZC02
import Derived.LoopN
import Derived.Laws.StructEq
import Derived.Below
import Derived.ChangeArms
import Derived.OpenShut
import Derived.ChangeShapes
set_option linter.all false
set_option maxRecDepth 100000
open Go.Proofs.Tryz
noncomputable section
section
namespace Ev
open Go
inductive LP | int (k:IntKind) | bool | str | r (t:Ty) | o (cid:Nat) (t:Ty) | al (cid:Nat) (t:Ty)
@[reducible] def LP.den:LP->Type
 | .int _=>Int | .bool=>Bool | .str=>Str | .r t=>List t.den | .o _ t=>List t.den | .al _ _=>Unit
@[reducible] def dens:List LP->Type
 | []=>Unit
 | l::ls=>l.den×dens ls
inductive SP | no | one (l:LP) | t (τ:Ty) | agg (ls:List LP) | box (cid:Nat) (ls:List LP) | boxt (cid:Nat) (τ:Ty) | fn (g:Nat) (ls:List LP) | sp (ls:List LP)
@[reducible] def ZAL:List SP->Type
 | []=>Unit
 | .no::ps=>ZAL ps
 | .one l::ps=>l.den×ZAL ps
 | .t τ::ps=>τ.den×ZAL ps
 | .agg ls::ps=>dens ls×ZAL ps
 | .box _ ls::ps=>dens ls×ZAL ps
 | .boxt _ τ::ps=>τ.den×ZAL ps
 | .fn _ ls::ps=>dens ls×ZAL ps
 | .sp ls::ps=>dens ls×ZAL ps
inductive Orig | id (n:Nat) | nil (t:Ty)
abbrev Mp:=List (Nat×Orig)
def Orig.is(n:Nat):Orig->Bool
 | .id k=>Nat.beq k n
 | .nil _=>false
def ZG(c n:Nat):Mp->Bool
 | []=>false
 | (k,s)::r=>cond (cond (Nat.beq k c) (s.is n) false) true (ZG c n r)
section
variable {R:Type}
def decC(st:ZAI):(l:LP)->V->Mp->(l.den->Mp->Option R)->Option R
 | .int k,.int k' n,m,K=>cond (decide (k=k')) (K n m) none
 | .bool,.bool b,m,K=>K b m
 | .str,.str s,m,K=>K s m
 | .r t,.lst t' l,m,K=>match ZBl t' t l with
  | some l=>K l m
  | none=>none
 | .r t,.nils,m,K=>K [] m
 | .o cid t,.own id,m,K=>match look st id with
  | some (.rows t' l)=>match ZBl t' t l with
   | some l=>K l (m++[(cid,.id id)])
   | none=>none
  | _=>none
 | .o cid t,.nils,m,K=>K [] (m++[(cid,.nil t)])
 | .al cid t,.own id,m,K=>cond (ZG cid id m) (K () m) none
 | _,_,_,_=>none
def encC:(l:LP)->l.den->V
 | .int k,n=> .int k n
 | .bool,b=> .bool b
 | .str,s=> .str s
 | .r t,l=> .lst t l
 | .o cid t,l=> .own cid
 | .al cid t,_=> .own cid
def blkC:(l:LP)->l.den->ZAI
 | .o cid t,l=>[(cid,.rows t l)]
 | .int _,_=>[]
 | .bool,_=>[]
 | .str,_=>[]
 | .r _,_=>[]
 | .al _ _,_=>[]
def ZEX(st:ZAI):(ls:List LP)->List V->Mp->(dens ls->Mp->Option R)->Option R
 | [],[],m,K=>K () m
 | l::ls,v::vs,m,K=>decC st l v m λd m=>ZEX st ls vs m λt m=>K (d,t) m
 | _,_,_,_=>none
def ZBw:(ls:List LP)->dens ls->List V
 | [],_=>[]
 | l::ls,t=>encC l t.1::ZBw ls t.2
def ZDL:(ls:List LP)->dens ls->ZAI
 | [],_=>[]
 | l::ls,t=>blkC l t.1++ZDL ls t.2
def decP:(l:LP)->V->Option l.den
 | .int k,.int k' n=>cond (decide (k=k')) (some n) none
 | .bool,.bool b=>some b
 | .str,.str s=>some s
 | _,_=>none
def ZDv:(ls:List LP)->List V->Option (dens ls)
 | [],[]=>some ()
 | l::ls,v::vs=>(decP l v).bind λd=>(ZDv ls vs).bind λt=>some (d,t)
 | _,_=>none
def decS(st:ZAI):(ps:List SP)->List V->Mp->(ZAL ps->Mp->Option R)->Option R
 | [],[],m,K=>K () m
 | .no::ps,_::vs,m,K=>decS st ps vs m K
 | .one l::ps,v::vs,m,K=>decC st l v m λd m=>decS st ps vs m λt m=>K (d,t) m
 | .t τ::ps,.agg cs::vs,m,K=>match τ.ofCells cs with
  | some d=>decS st ps vs m λt m=>K (d,t) m
  | none=>none
 | .agg ls::ps,.agg cs::vs,m,K=>ZEX st ls cs m λd m=>decS st ps vs m λt m=>K (d,t) m
 | .box cid ls::ps,.lptr id 0::vs,m,K=>match look st id with
  | some (.box cs)=>ZEX st ls cs (m++[(cid,.id id)]) λd m=>decS st ps vs m λt m=>K (d,t) m
  | _=>none
 | .boxt cid τ::ps,.lptr id 0::vs,m,K=>match look st id with
  | some (.box cs)=>match τ.ofCells cs with
   | some d=>decS st ps vs (m++[(cid,.id id)]) λt m=>K (d,t) m
   | none=>none
  | _=>none
 | .fn g ls::ps,.fn g' [.sptr cs]::vs,m,K=>cond (Nat.beq g' g) ((ZDv ls cs).bind λd=>decS st ps vs m λt m=>K (d,t) m) none
 | .sp ls::ps,.sptr cs::vs,m,K=>(ZDv ls cs).bind λd=>decS st ps vs m λt m=>K (d,t) m
 | _,_,_,_=>none
def encF:(ps:List SP)->ZAL ps->List V
 | [],_=>[]
 | .no::ps,t=> .undef::encF ps t
 | .one l::ps,t=>encC l t.1::encF ps t.2
 | .t τ::ps,t=> .agg (τ.cells t.1)::encF ps t.2
 | .agg ls::ps,t=> .agg (ZBw ls t.1)::encF ps t.2
 | .box cid _::ps,t=> .lptr cid 0::encF ps t.2
 | .boxt cid _::ps,t=> .lptr cid 0::encF ps t.2
 | .fn g ls::ps,t=> .fn g [.sptr (ZBw ls t.1)]::encF ps t.2
 | .sp ls::ps,t=> .sptr (ZBw ls t.1)::encF ps t.2
def encB:(ps:List SP)->ZAL ps->ZAI
 | [],_=>[]
 | .no::ps,t=>encB ps t
 | .one l::ps,t=>blkC l t.1++encB ps t.2
 | .t τ::ps,t=>encB ps t.2
 | .agg ls::ps,t=>ZDL ls t.1++encB ps t.2
 | .box cid ls::ps,t=>(cid,.box (ZBw ls t.1))::ZDL ls t.1++encB ps t.2
 | .boxt cid τ::ps,t=>(cid,.box (τ.cells t.1))::encB ps t.2
 | .fn _ _::ps,t=>encB ps t.2
 | .sp _::ps,t=>encB ps t.2
def enc(ps:List SP)(t:ZAL ps):St:=⟨encF ps t,encB ps t⟩
def ZHI(c:Nat):Mp->Bool
 | []=>false
 | (k,_)::r=>cond (Nat.beq k c) true (ZHI c r)
def ZGA(n:Nat):Mp->Bool
 | []=>false
 | (_,s)::r=>cond (s.is n) true (ZGA n r)
def ZEY(p:Nat):Mp->Bool
 | []=>true
 | (c,s)::r=>cond (ZHI c r) false (cond (match s with | .id n=>ZGA n r | .nil _=>false) false (cond (cond (Nat.blt c p) (s.is c) true) (ZEY p r) false))
def frzV:LP->V->List Nat
 | .r _,.own id=>[id]
 | .r _,.ownv id _ _=>[id]
 | _,_=>[]
def ZKx:List LP->List V->List Nat
 | l::ls,v::vs=>frzV l v++ZKx ls vs
 | _,_=>[]
def ZFB(st:ZAI):List SP->List V->List Nat
 | .one l::ps,v::vs=>frzV l v++ZFB st ps vs
 | .agg ls::ps,.agg cs::vs=>ZKx ls cs++ZFB st ps vs
 | .box _ ls::ps,.lptr id 0::vs=>match look st id with
  | some (.box cs)=>ZKx ls cs++ZFB st ps vs
  | _=>ZFB st ps vs
 | _::ps,_::vs=>ZFB st ps vs
 | _,_=>[]
def decK(p:Nat)(ps:List SP)(s:St)(K:ZAL ps->Option R):Option R:=
 ZCt (ZBe (ZFB s.st ps s.fr)) s λs=>decS s.st ps s.fr [] λt m=>cond (ZEY p m) (K t) none
end
def pat:Nat->Nat->List (Nat×SP)->List SP
 | 0,_,_=>[]
 | n+1,i,[]=> .no::pat n (i+1) []
 | n+1,i,(j,p)::r=>cond (Nat.beq i j) (p::pat n (i+1) r) (.no::pat n (i+1) ((j,p)::r))
theorem ZOl: ∃n:Nat,n=36893488147419103232:=⟨_,rfl⟩
def fuel:Nat:=Classical.choose ZOl
theorem ZBx:fuel=36893488147419103232:=Classical.choose_spec ZOl
def ZAD{R T:Type}(f:T->(T->Option R)->(T->Option R)->Option R):Nat->T->(T->Option R)->Option R
 | 0,_,_=>none
 | n+1,t,K=>f t (λt=>ZAD f n t K) K
def ZA2{R:Type}(ps:List SP)(f:ZAL ps->(ZAL ps->Option R)->(ZAL ps->Option R)->Option R)(s:St)(K:St->Option R):Option R:=
 decK 100 ps s λt=>ZAD f fuel t λt=>K (enc ps t)
end Ev
end
section
namespace Ev
open Go
def Orig.loc(ρ:Rho):Orig->Option Loc
 | .id n=>ρ n
 | .nil t=>some (.row t none 0 0)
def Fit(ρ ρ':Rho)(x:Mp):Prop:= ∀c s,(c,s)∈x->ρ' c=s.loc ρ
theorem Fit.mono{ρ ρ':Rho}{x y:Mp}(h:Fit ρ ρ' y)(k: ∀p∈x,p∈y):Fit ρ ρ' x:=λc s hs=>h c s (k _ hs)
def JB(st:ZAI)(x:Mp)(src:Orig)(blk:Blk):Prop:=
 ∀ρ ρ' F w,Fit ρ ρ' x->(∀id loc b,ρ id=some loc->look st id=some b->ZCh ρ F w loc b)-> ∀loc,src.loc ρ=some loc->ZCh ρ' F w loc blk
structure Got(st:ZAI)(M x:Mp)(bs:ZAI):Prop where
 keys:x.map Prod.fst=bs.map Prod.fst
 blk: ∀c b,(c,b)∈bs-> ∃s,(c,s)∈x/\JB st M s b
 src: ∀c n,(c,Orig.id n)∈x->look st n≠none
theorem Got.nil{st:ZAI}{M:Mp} :Got st M [] []:=⟨rfl,λc b h=>by simp at h,λc n h=>by simp at h⟩
theorem JB.mono{st:ZAI}{x y:Mp}{s:Orig}{b:Blk}(h:JB st x s b)(k: ∀p∈x,p∈y):JB st y s b:=λρ ρ' F w hf=>h ρ ρ' F w (hf.mono k)
theorem Got.append{st:ZAI}{M N x y:Mp}{a b:ZAI}(h:Got st M x a)(k:Got st N y b)(hM: ∀p∈M,p∈N):Got st N (x++y) (a++b):=by
 refine⟨by simp[h.keys,k.keys],λc blk hc=> ?_,λc n hc=> ?_⟩
 ·rcases List.mem_append.mp hc with hc | hc
  ·obtain⟨s,hs,j⟩:=h.blk c blk hc
   exact⟨s,by simp[hs],j.mono hM⟩
  ·obtain⟨s,hs,j⟩:=k.blk c blk hc
   exact⟨s,by simp[hs],j⟩
 ·rcases List.mem_append.mp hc with hc | hc
  ·exact h.src c n hc
  ·exact k.src c n hc
theorem Got.one{st:ZAI}{M:Mp}{c:Nat}{s:Orig}{b:Blk}(h:JB st M s b)(hs: ∀n,s= .id n->look st n≠none):Got st M [(c,s)] [(c,b)]:=
 ⟨rfl,λc' b' hc=>by simp at hc;obtain⟨rfl,rfl⟩:=hc;exact⟨s,by simp,h⟩,λc' n hc=>by simp at hc;exact hs n hc.2.symm⟩
theorem ZKy{c n:Nat} : ∀ {m:Mp},ZG c n m=true->(c,Orig.id n)∈m
 | [],h=>by simp[ZG]at h
 | (k,s)::r,h=>by
  simp only[ZG]at h
  cases hk:Nat.beq k c<;>simp only[hk,al_cond_true,al_cond_false]at h
  ·exact List.mem_cons_of_mem _ (ZKy h)
  ·have:=ZAb hk
   subst this
   cases hs:s.is n<;>simp only[hs,al_cond_true,al_cond_false]at h
   ·exact List.mem_cons_of_mem _ (ZKy h)
   ·cases s with
    | nil t=>simp[Orig.is]at hs
    | id j=>
     have:=ZAb hs
     subst this;simp
theorem ZUT{l:LP}{d:l.den}{ρ:Rho}{F:Nat->Prop}{w:World}{c:Value}(h:RelC ρ F w (encC l d) c):RelT ρ F w (encC l d) c:=by
 cases l<;>exact h
theorem ZOm{R:Type}{st:ZAI}{l:LP}{v:V}{m:Mp}{K:l.den->Mp->Option R}{r:R}(h:decC st l v m K=some r):
  ∃d x,K d (m++x)=some r/\Got st (m++x) x (blkC l d)/\(∀ρ F w c,RelT ρ F w v c->RelC ρ F w v c)/\ ∀ρ ρ' F w c,Fit ρ ρ' (m++x)->RelC ρ F w v c->RelC ρ' F w (encC l d) c:=by
 cases l with
 | int k=>
  cases v<;>simp only[decC]at h<;>try (cases h;done)
  rename_i k' n
  by_cases e:k=k'
  ·subst e
   simp only[decide_true,al_cond_true]at h
   exact⟨n,[],by simpa using h,Got.nil,λ_ _ _ _ r=>r,λρ ρ' F w c _ r=>r⟩
  ·simp[e]at h
 | bool=>
  cases v<;>simp only[decC]at h<;>try (cases h;done)
  rename_i b
  exact⟨b,[],by simpa using h,Got.nil,λ_ _ _ _ r=>r,λρ ρ' F w c _ r=>r⟩
 | str=>
  cases v<;>simp only[decC]at h<;>try (cases h;done)
  rename_i b
  exact⟨b,[],by simpa using h,Got.nil,λ_ _ _ _ r=>r,λρ ρ' F w c _ r=>r⟩
 | r t=>
  cases v<;>simp only[decC]at h<;>try (cases h;done)
  ·exact⟨[],[],by simpa using h,Got.nil,λ_ _ _ _ r=>r,λρ ρ' F w c _ r=>by
    have e:c= .slice none 0 0:=r
    exact⟨none,0,e,by simp,.inl rfl⟩⟩
  ·rename_i t' l
   split at h<;>try (cases h;done)
   rename_i l' hl
   obtain⟨e,hl⟩:=ZCE hl
   subst e;subst hl
   exact⟨_,[],by simpa using h,Got.nil,λ_ _ _ _ r=>r,λρ ρ' F w c _ r=>r⟩
 | o cid t=>
  cases v<;>simp only[decC]at h<;>try (cases h;done)
  ·refine⟨[],[(cid,.nil t)],h,Got.one (λρ ρ' F w hf _ loc hl=> ?_) (λn hn=>by cases hn),λ_ _ _ _ r=>r,λρ ρ' F w c hf r=> ?_⟩
   ·cases hl
    exact⟨rfl,rfl,Nat.le_refl _,.inl rfl⟩
   ·have e:c= .slice none 0 0:=r
    exact⟨t,none,0,0,hf cid (.nil t) (by simp),e⟩
  ·rename_i id
   split at h<;>try (cases h;done)
   rename_i t' l hlk
   split at h<;>try (cases h;done)
   rename_i l' hl
   obtain⟨e,hl⟩:=ZCE hl
   subst e;subst hl
   refine⟨_,[(cid,.id id)],h,Got.one (λρ ρ' F w hf hh loc hl=> ?_) (λn hn=>by cases hn;rw[hlk];simp),λ_ _ _ _ r=>r,λρ ρ' F w c hf r=> ?_⟩
   ·have:=hh id loc _ hl hlk
    cases loc with
    | box b n=>exact this.elim
    | row t a len cap=>exact this
   ·obtain⟨t1,a,len,cap,hρ,e⟩:=r
    exact⟨t1,a,len,cap,(hf cid (.id id) (by simp)).trans hρ,e⟩
 | al cid t=>
  cases v<;>simp only[decC]at h<;>try (cases h;done)
  rename_i id
  cases hb:ZG cid id m<;>simp only[hb,al_cond_true,al_cond_false]at h
  ·cases h
  refine⟨(),[],by simpa using h,Got.nil,λ_ _ _ _ r=>r,λρ ρ' F w c hf r=> ?_⟩
  obtain⟨t1,a,len,cap,hρ,e⟩:=r
  exact⟨t1,a,len,cap,(hf cid (.id id) (by simp[ZKy hb])).trans hρ,e⟩
theorem ZKz{R:Type}{st:ZAI} : ∀ {ls:List LP} {vs:List V} {m:Mp} {K:dens ls->Mp->Option R} {r:R},ZEX st ls vs m K=some r->
  ∃d x,K d (m++x)=some r/\Got st (m++x) x (ZDL ls d)/\(ZBw ls d).length=vs.length/\ ∀ρ ρ' F w,Fit ρ ρ' (m++x)-> ∀(i:Nat) v',(ZBw ls d)[i]?=some v'-> ∃v,vs[i]?=some v/\ ∀c,RelC ρ F w v c->RelC ρ' F w v' c
 | [],[],m,K,r,h=>⟨(),[],by simpa[ZEX]using h,Got.nil,rfl,λρ ρ' F w _ i v' hv=>by simp[ZBw]at hv⟩
 | l::ls,v::vs,m,K,r,h=>by
  simp only[ZEX]at h
  obtain⟨d,x,h,g,_,hr⟩:=ZOm h
  obtain⟨t,y,h,g',hl,hr'⟩:=ZKz h
  have aso:m++(x++y)=m++x++y:=(List.append_assoc _ _ _).symm
  refine⟨(d,t),x++y,by rw[aso];exact h,by rw[aso];exact g.append g' λp hp=>List.mem_append_left _ hp,by simp[ZBw,hl],λρ ρ' F w hf i v' hv=> ?_⟩
  rw[aso]at hf
  cases i with
  | zero=>
   simp[ZBw]at hv;subst hv
   exact⟨v,rfl,λc=>hr ρ ρ' F w c (hf.mono λp hp=>List.mem_append_left _ hp)⟩
  | succ i=>simpa using hr' ρ ρ' F w hf i v' (by simpa[ZBw]using hv)
 | [],_::_,m,K,r,h=>by simp[ZEX]at h
 | _::_,[],m,K,r,h=>by simp[ZEX]at h
theorem ZOn{ρ ρ':Rho}{F:Nat->Prop}{w:World}{vs vs':List V}(hl:vs'.length=vs.length)(h: ∀(i:Nat) v',vs'[i]?=some v'-> ∃v,vs[i]?=some v/\ ∀c,RelC ρ F w v c->RelC ρ' F w v' c){c:Value}
  (r:RelA ρ F w (.agg vs) c):RelA ρ' F w (.agg vs') c:=by
 obtain⟨ca,e,hs,r⟩:=r
 refine⟨ca,e,by omega,λi v' hv=> ?_⟩
 obtain⟨v,hv,k⟩:=h i v' hv
 obtain⟨c,hc,r⟩:=r i v hv
 exact⟨c,hc,k c r⟩
theorem ZOo{st:ZAI}{x:Mp}{id:Nat}{cs cs':List V}(hl:look st id=some (.box cs))(hlen:cs'.length=cs.length)
  (h: ∀ρ ρ' F w,Fit ρ ρ' x-> ∀(i:Nat) v',cs'[i]?=some v'-> ∃v,cs[i]?=some v/\ ∀c,RelC ρ F w v c->RelC ρ' F w v' c):JB st x (.id id) (.box cs'):=by
 intro ρ ρ' F w hf hh loc hloc
 have:=hh id loc _ hloc hl
 cases loc with
 | row t a len cap=>exact this.elim
 | box b n=>
  obtain⟨h1,arr,hr,hs,hc⟩:=this
  refine⟨by omega,arr,hr,hs,λi v' hv=> ?_⟩
  obtain⟨v,hv,k⟩:=h ρ ρ' F w hf i v' hv
  obtain⟨c,hc,r⟩:=hc i v hv
  exact⟨c,hc,k c r⟩
theorem ZOp{ρ ρ':Rho}{F:Nat->Prop}{w:World}{v:V}(hp:v.plain=true)(c:Value)(r:RelC ρ F w v c):RelC ρ' F w v c:=by
 rcases ZDa hp with ⟨k,n,rfl⟩ | ⟨b,rfl⟩ | ⟨s,rfl⟩<;>exact r
theorem ZUU{l:LP}{v:V}{d:l.den}(h:decP l v=some d):v=encC l d:=by
 cases l with
 | int k=>
  cases v<;>simp only[decP]at h<;>try (cases h;done)
  rename_i k' n
  by_cases e:k=k'
  ·subst e;simp at h;subst h;rfl
  ·simp[e]at h
 | bool=>cases v<;>simp only[decP]at h<;>first | (cases h;done) | (cases h;rfl)
 | str=>cases v<;>simp only[decP]at h<;>first | (cases h;done) | (cases h;rfl)
 | r t=>cases v<;>simp only[decP]at h<;>cases h
 | o c t=>cases v<;>simp only[decP]at h<;>cases h
 | al c t=>cases v<;>simp only[decP]at h<;>cases h
theorem ZHJ: ∀ {ls:List LP} {vs:List V} {d:dens ls},ZDv ls vs=some d->vs=ZBw ls d
 | [],[],d,h=>rfl
 | l::ls,v::vs,d,h=>by
  simp only[ZDv,al_bind_iff]at h
  obtain⟨a,h1,b,h2,h⟩:=h
  cases h
  simp[ZBw,<-ZUU h1,<-ZHJ h2]
 | [],_::_,d,h=>by simp[ZDv]at h
 | _::_,[],d,h=>by simp[ZDv]at h
theorem ZUV{ρ ρ':Rho}{F:Nat->Prop}{w:World}{g:Nat}{cs:List V}{c:Value}(r:RelT ρ F w (.fn g [.sptr cs]) c):RelT ρ' F w (.fn g [.sptr cs]) c:=by
 obtain⟨ca,e1,e2,k⟩:=r
 refine⟨ca,e1,e2,λi v hv=> ?_⟩
 obtain⟨c,hc,r⟩:=k i v hv
 refine⟨c,hc,?_⟩
 cases i with
 | zero=>simp at hv;subst hv;exact r
 | succ i=>simp at hv
theorem ZDw{R:Type}{st:ZAI} : ∀ {ps:List SP} {vs:List V} {m:Mp} {K:ZAL ps->Mp->Option R} {r:R},decS st ps vs m K=some r->
  ∃t x,K t (m++x)=some r/\Got st (m++x) x (encB ps t)/\(encF ps t).length=vs.length/\ ∀ρ ρ' F w,Fit ρ ρ' (m++x)-> ∀(i:Nat) c,RelT ρ F w (get vs i) c->RelT ρ' F w (get (encF ps t) i) c
 | [],vs,m,K,r,h=>by
  cases vs with
  | nil=>exact⟨(),[],by simpa[decS]using h,Got.nil,rfl,λρ ρ' F w _ i c _=>RelT.undef c⟩
  | cons _ _=>simp[decS]at h
 | .no::ps,[],m,K,r,h=>by simp[decS]at h
 | .one _::ps,[],m,K,r,h=>by simp[decS]at h
 | .t _::ps,[],m,K,r,h=>by simp[decS]at h
 | .agg _::ps,[],m,K,r,h=>by simp[decS]at h
 | .box _ _::ps,[],m,K,r,h=>by simp[decS]at h
 | .boxt _ _::ps,[],m,K,r,h=>by simp[decS]at h
 | .fn _ _::ps,[],m,K,r,h=>by simp[decS]at h
 | .sp _::ps,[],m,K,r,h=>by simp[decS]at h
 | .no::ps,v::vs,m,K,r,h=>by
  simp only[decS]at h
  obtain⟨t,x,h,g,hl,hr⟩:=ZDw h
  refine⟨t,x,h,g,by simp[encF,hl],λρ ρ' F w hf i c r=> ?_⟩
  cases i with
  | zero=>exact RelT.undef c
  | succ i=>exact hr ρ ρ' F w hf i c r
 | .one l::ps,v::vs,m,K,r,h=>by
  simp only[decS]at h
  obtain⟨d,x,h,g,hb,hr⟩:=ZOm h
  obtain⟨t,y,h,g',hl,hr'⟩:=ZDw h
  have aso:m++(x++y)=m++x++y:=(List.append_assoc _ _ _).symm
  refine⟨(d,t),x++y,by rw[aso];exact h,by rw[aso];exact g.append g' λp hp=>List.mem_append_left _ hp,by simp[encF,hl],λρ ρ' F w hf i c r=> ?_⟩
  rw[aso]at hf
  cases i with
  | succ i=>exact hr' ρ ρ' F w hf i c r
  | zero=>exact ZUT (hr ρ ρ' F w c (hf.mono λp hp=>List.mem_append_left _ hp) (hb _ _ _ _ r))
 | .t τ::ps,v::vs,m,K,r,h=>by
  cases v<;>simp only[decS]at h<;>try (cases h;done)
  rename_i cs
  split at h<;>try (cases h;done)
  rename_i d hd
  obtain⟨t,y,h,g',hl,hr'⟩:=ZDw h
  refine⟨(d,t),y,h,g',by simp[encF,hl],λρ ρ' F w hf i c r=> ?_⟩
  cases i with
  | succ i=>exact hr' ρ ρ' F w hf i c r
  | zero=>
   simp only[encF,get]
   have e:=ZF4 hd
   rw[e]
   refine ZOn (vs:=cs) rfl (λi v' hv=>⟨v',hv,λc=>ZOp (ZE7 τ d v' (by rw[e];exact al_mem_get hv)) c⟩) r
 | .agg ls::ps,v::vs,m,K,r,h=>by
  cases v<;>simp only[decS]at h<;>try (cases h;done)
  rename_i cs
  obtain⟨d,x,h,g,hn,hr⟩:=ZKz h
  obtain⟨t,y,h,g',hl,hr'⟩:=ZDw h
  have aso:m++(x++y)=m++x++y:=(List.append_assoc _ _ _).symm
  refine⟨(d,t),x++y,by rw[aso];exact h,by rw[aso];exact g.append g' λp hp=>List.mem_append_left _ hp,by simp[encF,hl],λρ ρ' F w hf i c r=> ?_⟩
  rw[aso]at hf
  cases i with
  | succ i=>exact hr' ρ ρ' F w hf i c r
  | zero=>exact ZOn hn (hr ρ ρ' F w (hf.mono λp hp=>List.mem_append_left _ hp)) r
 | .box cid ls::ps,v::vs,m,K,r,h=>by
  obtain⟨id,rfl⟩: ∃id,v= .lptr id 0:=by
   cases v with
   | lptr id off=>
    cases off with
    | zero=>exact⟨id,rfl⟩
    | succ n=>simp[decS]at h
   | _=>simp[decS]at h
  simp only[decS]at h
  split at h<;>try (cases h;done)
  rename_i cs hlk
  obtain⟨d,x,h,g,hn,hr⟩:=ZKz h
  obtain⟨t,y,h,g',hl,hr'⟩:=ZDw h
  have g0:Got st (m++[(cid,.id id)]++x) ([(cid,.id id)]++x) ([(cid,.box (ZBw ls d))]++ZDL ls d):=by
   refine⟨by simp[g.keys],λc b hc=> ?_,λc n hc=> ?_⟩
   ·rcases List.mem_append.mp hc with hc | hc
    ·simp at hc;obtain⟨rfl,rfl⟩:=hc
     exact⟨.id id,by simp,ZOo hlk hn hr⟩
    ·obtain⟨s,hs,j⟩:=g.blk c b hc
     exact⟨s,by simp[hs],j⟩
   ·rcases List.mem_append.mp hc with hc | hc
    ·simp at hc;rw[hc.2,hlk];simp
    ·exact g.src c n hc
  have aso:m++(([(cid,.id id)]++x)++y)=m++[(cid,.id id)]++x++y:=by simp
  refine⟨(d,t),([(cid,.id id)]++x)++y,by rw[aso];exact h,by rw[aso];simpa[encB]using g0.append g' λp hp=>List.mem_append_left _ hp,by simp[encF,hl],λρ ρ' F w hf i c r=> ?_⟩
  rw[aso]at hf
  cases i with
  | succ i=>exact hr' ρ ρ' F w hf i c r
  | zero=>
   obtain⟨b,n,hρ,e⟩:=r
   exact⟨b,n,(hf cid (.id id) (by simp)).trans hρ,e⟩
 | .boxt cid τ::ps,v::vs,m,K,r,h=>by
  obtain⟨id,rfl⟩: ∃id,v= .lptr id 0:=by
   cases v with
   | lptr id off=>
    cases off with
    | zero=>exact⟨id,rfl⟩
    | succ n=>simp[decS]at h
   | _=>simp[decS]at h
  simp only[decS]at h
  split at h<;>try (cases h;done)
  rename_i cs hlk
  split at h<;>try (cases h;done)
  rename_i d hd
  obtain⟨t,y,h,g',hl,hr'⟩:=ZDw h
  have e:=ZF4 hd
  have g0:Got st (m++[(cid,.id id)]) [(cid,.id id)] [(cid,.box (τ.cells d))]:=Got.one (ZOo hlk (by rw[e]) λρ ρ' F w hf i v' hv=>⟨v',by rw[<-e];exact hv,λc=>ZOp (ZE7 τ d v' (al_mem_get hv)) c⟩) (λn hn=>by cases hn;rw[hlk];simp)
  have aso:m++([(cid,.id id)]++y)=m++[(cid,.id id)]++y:=(List.append_assoc _ _ _).symm
  refine⟨(d,t),[(cid,.id id)]++y,by rw[aso];exact h,by rw[aso];simpa[encB]using g0.append g' λp hp=>List.mem_append_left _ hp,by simp[encF,hl],λρ ρ' F w hf i c r=> ?_⟩
  rw[aso]at hf
  cases i with
  | succ i=>exact hr' ρ ρ' F w hf i c r
  | zero=>
   obtain⟨b,n,hρ,e⟩:=r
   exact⟨b,n,(hf cid (.id id) (by simp)).trans hρ,e⟩
 | .fn g ls::ps,v::vs,m,K,r,h=>by
  obtain⟨g',cs,rfl⟩: ∃g' cs,v= .fn g' [.sptr cs]:=by
   cases v with
   | fn g' cap=>
    cases cap with
    | nil=>simp[decS]at h
    | cons x xs=>
     cases xs with
     | cons _ _=>cases x<;>simp[decS]at h
     | nil=>cases x<;>first | exact⟨_,_,rfl⟩ | simp[decS]at h
   | _=>simp[decS]at h
  simp only[decS]at h
  cases hg:Nat.beq g' g<;>simp only[hg,al_cond_true,al_cond_false]at h
  ·cases h
  have:=ZAb hg
  subst this
  simp only[al_bind_iff]at h
  obtain⟨d,hd,h⟩:=h
  have e:=ZHJ hd
  obtain⟨t,y,h,g1,hl,hr'⟩:=ZDw h
  refine⟨(d,t),y,h,g1,by simp[encF,hl],λρ ρ' F w hf i c r=> ?_⟩
  cases i with
  | succ i=>exact hr' ρ ρ' F w hf i c r
  | zero=>
   simp only[encF,get]
   rw[<-e]
   exact ZUV r
 | .sp ls::ps,v::vs,m,K,r,h=>by
  obtain⟨cs,rfl⟩: ∃cs,v= .sptr cs:=by
   cases v with
   | sptr cs=>exact⟨_,rfl⟩
   | _=>simp[decS]at h
  simp only[decS,al_bind_iff]at h
  obtain⟨d,hd,h⟩:=h
  have e:=ZHJ hd
  obtain⟨t,y,h,g1,hl,hr'⟩:=ZDw h
  refine⟨(d,t),y,h,g1,by simp[encF,hl],λρ ρ' F w hf i c r=> ?_⟩
  cases i with
  | succ i=>exact hr' ρ ρ' F w hf i c r
  | zero=>
   simp only[encF,get]
   rw[<-e]
   exact r
theorem ZOq{c:Nat} : ∀ {m:Mp},ZHI c m=false-> ∀s,(c,s)∉m
 | [],_,s,h=>by simp at h
 | (k,t)::r,hk,s,h=>by
  simp only[ZHI]at hk
  cases hb:Nat.beq k c<;>simp[hb]at hk
  rcases List.mem_cons.mp h with e | h
  ·cases e;simp at hb
  ·exact ZOq hk s h
theorem ZK0{n:Nat} : ∀ {m:Mp},ZGA n m=false-> ∀c,(c,Orig.id n)∉m
 | [],_,s,h=>by simp at h
 | (k,t)::r,hk,s,h=>by
  simp only[ZGA]at hk
  cases hb:t.is n<;>simp[hb]at hk
  rcases List.mem_cons.mp h with e | h
  ·cases e;simp[Orig.is]at hb
  ·exact ZK0 hk s h
theorem ZK1{p:Nat} : ∀ {m:Mp},ZEY p m=true->(∀c s s',(c,s)∈m->(c,s')∈m->s=s')/\(∀c c' n,(c,Orig.id n)∈m->(c',Orig.id n)∈m->c=c')/\(∀c s,(c,s)∈m->c<p->s= .id c)
 | [],_=>⟨λc s s' h=>by simp at h,λc c' n h=>by simp at h,λc s h=>by simp at h⟩
 | (k,t)::r,h=>by
  simp only[ZEY]at h
  cases h1:ZHI k r<;>simp only[h1,al_cond_true,al_cond_false]at h<;>try (cases h;done)
  obtain⟨h2,h⟩:(∀n,t= .id n->ZGA n r=false)/\cond (cond (Nat.blt k p) (t.is k) true) (ZEY p r) false=true:=by
   cases t with
   | nil t=>exact⟨λn hn=>(by cases hn),h⟩
   | id n=>
    cases h2:ZGA n r<;>simp only[h2,al_cond_true,al_cond_false]at h
    ·exact⟨λn' hn=>(by cases hn;exact h2),h⟩
    ·cases h
  cases h3:cond (Nat.blt k p) (t.is k) true<;>simp only[h3,al_cond_true,al_cond_false]at h<;>try (cases h;done)
  obtain⟨a,b,c⟩:=ZK1 h
  have hk:=ZOq h1
  refine⟨λx s s' hs hs'=> ?_,λx x' n hs hs'=> ?_,λx s hs hlt=> ?_⟩
  ·rcases List.mem_cons.mp hs with e | g
   ·cases e
    rcases List.mem_cons.mp hs' with e | g'
    ·cases e;rfl
    ·exact absurd g' (hk _)
   ·rcases List.mem_cons.mp hs' with e | g'
    ·cases e;exact absurd g (hk _)
    ·exact a x s s' g g'
  ·rcases List.mem_cons.mp hs with e | g
   ·cases e
    rcases List.mem_cons.mp hs' with e | g'
    ·cases e;rfl
    ·exact absurd g' (ZK0 (h2 n rfl) _)
   ·rcases List.mem_cons.mp hs' with e | g'
    ·cases e;exact absurd g (ZK0 (h2 n rfl) _)
    ·exact b x x' n g g'
  ·rcases List.mem_cons.mp hs with e | g
   ·cases e
    rw[show Nat.blt k p=true by simpa[Nat.blt_eq]using hlt,al_cond_true]at h3
    cases t with
    | id n=>simp only[Orig.is]at h3;rw[ZAb h3]
    | nil t=>cases h3
   ·exact c x s g hlt
theorem ZOr{σ:ZAI}{c:Nat}{b:Blk}(h:look σ c=some b):(c,b)∈σ:=by
 induction σ with
 | nil=>simp[look]at h
 | cons p r ih=>
  obtain⟨i,b'⟩:=p
  simp only[look]at h
  cases hb:Nat.beq i c<;>simp only[hb,al_cond_true,al_cond_false]at h
  ·exact List.mem_cons_of_mem _ (ih h)
  ·cases h;have:=ZAb hb;subst this;simp
theorem ZUW{σ:ZAI}{c:Nat}(h:c∈σ.map Prod.fst):look σ c≠none:=by
 induction σ with
 | nil=>simp at h
 | cons p r ih=>
  obtain⟨i,b'⟩:=p
  simp only[look]
  cases hb:Nat.beq i c
  ·simp only[al_cond_false]
   refine ih ?_
   simp only[List.map_cons,List.mem_cons]at h
   rcases h with h | h
   ·subst h;simp at hb
   ·exact h
  ·simp
def renR(ρ:Rho)(m:Mp):Rho:=λc=>by
 classical
 exact if h: ∃s,(c,s)∈m then(Classical.choose h).loc ρ else none
theorem ZK2{p:Nat}{ρ:Rho}{m:Mp}(hm:ZEY p m=true){c:Nat}{s:Orig}(h:(c,s)∈m):renR ρ m c=s.loc ρ:=by
 classical
 have he: ∃s,(c,s)∈m:=⟨s,h⟩
 unfold renR
 rw[dif_pos he,(ZK1 hm).1 c _ s (Classical.choose_spec he) h]
theorem ZHK{p:Nat}{ρ:Rho}{m:Mp}(hm:ZEY p m=true){c:Nat}{l:Loc}(h:renR ρ m c=some l): ∃s,(c,s)∈m/\s.loc ρ=some l:=by
 classical
 by_cases he: ∃s,(c,s)∈m
 ·obtain⟨s,hs⟩:=he
  exact⟨s,hs,by rw[<-ZK2 hm hs];exact h⟩
 ·unfold renR at h;rw[dif_neg he]at h;cases h
theorem ZK3{ρ:Rho}{s:Orig}{l:Loc}{b:Nat}(h:s.loc ρ=some l)(hb:l.block=some b): ∃n,s= .id n/\ρ n=some l:=by
 cases s with
 | id n=>exact⟨n,rfl,h⟩
 | nil t=>cases h;simp[Loc.block]at hb
structure Kept(p:Nat)(ρ:Rho)(F:Nat->Prop)(s:St)(w:World)(ρ':Rho)(F':Nat->Prop)(s':St):Prop where
 core:Core ρ' F' s'.st w
 dom:Dom ρ' s'.st
 fr: ∀t x,RelT ρ F w (get s.fr t) x->RelT ρ' F' w (get s'.fr t) x
 mb: ∀b,ρ'.M b->ρ.M b
 stb: ∀b,F' b->F b\/ρ.M b
 par: ∀j,j<p->look s'.st j≠none->ρ' j=ρ j/\look s.st j≠none
 len:s'.fr.length=s.fr.length
theorem ZOs{R:Type}{p:Nat}{ps:List SP}{s:St}{K:ZAL ps->Option R}{r:R}(h:decK p ps s K=some r):
  ∃t,K t=some r/\ ∀ρ F w,Core ρ F s.st w->Dom ρ s.st-> ∃ρ' F',Kept p ρ F s w ρ' F' (enc ps t):=by
 unfold decK at h
 obtain⟨s1,h,i1,_,hfz⟩:=ZKh h
 obtain⟨t,m,h,g,hl,hr⟩:=ZDw h
 simp only[List.nil_append]at h
 cases hm:ZEY p m<;>simp only[hm,al_cond_true,al_cond_false]at h
 ·cases h
 obtain⟨m1,m2,m3⟩:=ZK1 hm
 refine⟨t,h,λρ F w HC DM=> ?_⟩
 obtain⟨ρ1,F1,fz,_⟩:=hfz ρ F w HC (ZF HC DM)
 have fit:Fit ρ1 (renR ρ1 m) m:=λc s hs=>ZK2 hm hs
 have M1: ∀b,(renR ρ1 m).M b-> ∃n l,ρ1 n=some l/\l.block=some b:=by
  rintro b ⟨c,l,hc,hb⟩
  obtain⟨s,hs,e⟩:=ZHK hm hc
  obtain⟨n,rfl,e⟩:=ZK3 e hb
  exact⟨n,l,e,hb⟩
 have M2: ∀b,(renR ρ1 m).M b->ρ.M b:=λb hb=>by
  obtain⟨n,l,h1,h2⟩:=M1 b hb
  exact⟨n,l,fz.ids n l h1,h2⟩
 refine⟨renR ρ1 m,F1,⟨λc loc blk h1 h2=> ?_,λi j li lj b hi hj hbi hbj=> ?_,λb hb=> ?_,fz.core.glob⟩,λc l h1=> ?_,λi c h=>hr ρ1 _ F1 w fit i _ (fz.fr i _ h),M2,fz.stab',λj hj hk=> ?_,hl.trans fz.len⟩
 ·obtain⟨s,hs,j⟩:=g.blk c blk (ZOr h2)
  obtain⟨s',hs',e⟩:=ZHK hm h1
  have:=m1 c s s' hs hs'
  subst this
  exact j ρ1 _ F1 w fit fz.core.heap loc e
 ·obtain⟨si,hsi,ei⟩:=ZHK hm hi
  obtain⟨sj,hsj,ej⟩:=ZHK hm hj
  obtain⟨n,rfl,ei⟩:=ZK3 ei hbi
  obtain⟨k,rfl,ej⟩:=ZK3 ej hbj
  have:=fz.core.inj n k li lj b ei ej hbi hbj
  subst this
  exact m2 i j n hsi hsj
 ·refine⟨(fz.core.stable b hb).1,λhb'=>(fz.core.stable b hb).2 ?_⟩
  obtain⟨n,l,h1,h2⟩:=M1 b hb'
  exact⟨n,l,h1,h2⟩
 ·obtain⟨s,hs,e⟩:=ZHK hm h1
  exact ZUW (σ:=encB ps t) (by rw[<-g.keys];exact List.mem_map.2 ⟨_,hs,rfl⟩)
 ·have hmem:j∈m.map Prod.fst:=by
   rw[g.keys]
   obtain⟨b,hb⟩:=ZBn hk
   exact List.mem_map.2 ⟨_,ZOr hb,rfl⟩
  obtain⟨⟨c,s⟩,hs,rfl⟩:=List.mem_map.1 hmem
  have e:=m3 c s hs hj
  subst e
  rw[ZK2 hm hs]
  have hne:=g.src c c hs
  have hni: ¬(look _ c=none\/c∈ZBe (ZFB _ ps _)):=λh=>hne ((i1 c).2 h)
  simp only[Orig.loc]
  exact⟨fz.keep c λh=>hni (.inr h),λh=>hni (.inl h)⟩
theorem ZK4{R:Type}{ps:List SP}{s:St}{K:ZAL ps->Option R}{r:R}(h:decK 100 ps s K=some r):
  ∃t,K t=some r/\ ∀C a w,SR C s a w->SR C (enc ps t) a w:=by
 obtain⟨t,h,hr⟩:=ZOs h
 refine⟨t,h,λC a w sr=> ?_⟩
 obtain⟨ρ,F,HC,DM,B,hs⟩:=sr.ex
 obtain⟨ρ',F',k⟩:=hr ρ F w HC DM
 refine⟨sr.defers,by rw[k.len];exact sr.len,ρ',F',k.core,k.dom,⟨B.chg,λb hb hlt=>B.mb b (k.mb b hb) hlt,λb hb hlt=> ?_,λj l hj hl0 hk=> ?_⟩,λt=>k.fr t _ (hs t)⟩
 ·rcases k.stb b hb with h | h
  ·exact B.stb b h hlt
  ·exact .inr (B.mb b h hlt)
 ·obtain⟨e,h⟩:=k.par j hj hk
  rw[e];exact B.par j l hj hl0 h
end Ev
end
section
namespace Ev
open Go
def LOK{R:Type}(E:Env)(T:Tab)(ann:Nat->Bool)(L:LEnv R)(kr:St->Option R):Code->Prop
 | .block id (.loop c)=>(∃(ps:List SP) (f:ZAL ps->(ZAL ps->Option R)->(ZAL ps->Option R)->Option R),L id=some (ZA2 ps f)/\ ∀(X:Nat->St->Option R) (rec K:ZAL ps->Option R) (t:ZAL ps),ev E T ann L kr c (λi s=>cond (Nat.beq i id) (decK 100 ps s K) (X i s)) (λs=>decK 100 ps s rec) (enc ps t)=f t rec K)/\LOK E T ann L kr c
 | .block _ c=>LOK E T ann L kr c
 | .seq a b=>LOK E T ann L kr a/\LOK E T ann L kr b
 | .cond _ a b=>LOK E T ann L kr a/\LOK E T ann L kr b
 | _=>True
structure Outs{R:Type}(C:Ctx)(r:R)(X:Nat->St->Option R)(K kr:St->Option R)(Q:Exit->Act->World->Prop):Prop where
 nrm: ∀s a w,K s=some r->SR C s a w->Q .normal a w
 ex: ∀i s a w,X i s=some r->SR C s a w->Q (.exit i) a w
 rt: ∀s a w,kr s=some r->SR C s a w->Q .ret a w
theorem ZUX{s:St}{a:Act}{w:World}{ρ:Rho}{F:Nat->Prop}{c:Operand}{t:Bool}(h:opd s.fr c= .bool t)(hf: ∀t,RelT ρ F w (get s.fr t) (a.tmps.getD t undef)):a.eval c= .bool t:=by
 have r:=ZCa (ρ:=ρ) (F:=F) (w:=w) (fr:=s.fr) (a:=a) c λt _=>hf t
 rw[h]at r
 exact r
theorem ZUY{R:Type}{E:Env}{T:Tab}{ann:Nat->Bool}{L:LEnv R}{kr:St->Option R}{id:Nat}{c:Code}(hc: ¬ ∃b,c= .loop b){X:Nat->St->Option R}{K:St->Option R}{s:St} :
  ev E T ann L kr (.block id c) X K s=ev E T ann L kr c (λi s=>cond (Nat.beq i id) (K s) (X i s)) K s:=by
 cases c<;>first | rfl | exact absurd ⟨_,rfl⟩ hc
theorem ZUZ{R:Type}{E:Env}{T:Tab}{ann:Nat->Bool}{L:LEnv R}{kr:St->Option R}{id:Nat}{c:Code}(hc: ¬ ∃b,c= .loop b)(h:LOK E T ann L kr (.block id c)):LOK E T ann L kr c:=by
 cases c<;>first | exact h | exact absurd ⟨_,rfl⟩ hc
theorem ZFC{R:Type}{P:Program}{E:Env}{T:Tab}(hT:ZBW P T)(hE:EnvOK P E)(hm:P.follows .mixedOrders=true){ann:Nat->Bool}{L:LEnv R}{kr:St->Option R}{r:R}{C:Ctx} :
  (c:Code)->(X:Nat->St->Option R)->(K:St->Option R)->(s:St)->LOK E T ann L kr c->ev E T ann L kr c X K s=some r->(Q:Exit->Act->World->Prop)->Outs C r X K kr Q->(a:Act)->(w:World)->SR C s a w->c.wp P Q a w
 | .skip,X,K,s,hL,h,Q,O,a,w,hs=>wp_skip (O.nrm s a w (by simpa[ev]using h) hs)
 | .region id ops d,X,K,s,hL,h,Q,O,a,w,hs=>ZUS hT hE hm h (λs' a w hk h=>O.nrm s' a w hk h) hs
 | .seq c d,X,K,s,hL,h,Q,O,a,w,hs=>by
  simp only[ev]at h
  simp only[LOK]at hL
  refine wp_seq (ZFC hT hE hm c X _ s hL.1 h (Exit.then (d.wp P Q) Q) ⟨λs' a w hk hs'=> ?_,O.ex,O.rt⟩ a w hs)
  exact ZFC hT hE hm d X K s' hL.2 hk Q O a w hs'
 | .cond c x y,X,K,s,hL,h,Q,O,a,w,hs=>by
  simp only[ev]at h
  simp only[LOK]at hL
  split at h<;>try (cases h;done)
  rename_i t ht
  obtain⟨ρ,F,HC,DM,B,hf⟩:=hs.ex
  refine wp_cond (t:=t) (ZUX ht hf) ?_
  cases t with
  | true=>exact ZFC hT hE hm x X K s hL.1 h Q O a w hs
  | false=>exact ZFC hT hE hm y X K s hL.2 h Q O a w hs
 | .exit id,X,K,s,hL,h,Q,O,a,w,hs=>wp_exit (O.ex id s a w (by simpa[ev]using h) hs)
 | .ret,X,K,s,hL,h,Q,O,a,w,hs=>wp_ret (O.rt s a w (by simpa[ev]using h) hs)
 | .block id d,X,K,s,hL,h,Q,O,a,w,hs=>by
  by_cases hd: ∃c,d= .loop c
  ·obtain⟨c,rfl⟩:=hd
   simp only[LOK]at hL
   obtain⟨⟨ps,f,hl,hf⟩,hL⟩:=hL
   simp only[ev,hl,ZA2]at h
   obtain⟨t,h,hsr⟩:=ZK4 h
   replace hs:=hsr C a w hs
   refine wp_block (wp_loop_rounds fuel ?_)
   clear hl
   generalize fuel=n at h⊢
   clear hsr
   induction n generalizing t a w with
   | zero=>simp[ZAD]at h
   | succ n ih=>
    simp only[ZAD]at h
    rw[<-hf X]at h
    rw[rounds_succ]
    refine ZFC hT hE hm c _ _ _ hL h (Exit.then (Code.rounds P c (Exit.inBlock id Q) n) (Exit.inBlock id Q)) ⟨λs' a' w' hk hs'=> ?_,λi s' a' w' hx hs'=> ?_,λs' a' w' hk hs'=>O.rt s' a' w' hk hs'⟩ a w hs
    ·obtain⟨t',hk,hsr'⟩:=ZK4 hk
     exact ih a' w' t' (hsr' C a' w' hs') hk
    ·cases hb:Nat.beq i id
     ·rw[hb,al_cond_false]at hx
      have:i≠id:=λe=>by subst e;simp at hb
      show(if i=id then _ else _)
      rw[al_if_neg this]
      exact O.ex i s' a' w' hx hs'
     ·rw[hb,al_cond_true]at hx
      obtain⟨t',hk,hsr'⟩:=ZK4 hx
      have:=ZAb hb
      show(if i=id then _ else _)
      rw[al_if_pos this]
      exact O.nrm _ a' w' hk (hsr' C a' w' hs')
  ·rw[ZUY hd]at h
   refine wp_block (ZFC hT hE hm d _ K s (ZUZ hd hL) h (Exit.inBlock id Q) ⟨λs' a' w' hk hs'=>O.nrm s' a' w' hk hs',λi s' a' w' hx hs'=> ?_,λs' a' w' hk hs'=>O.rt s' a' w' hk hs'⟩ a w hs)
   show(if i=id then _ else _)
   cases hb:Nat.beq i id
   ·rw[hb,al_cond_false]at hx
    have:i≠id:=λe=>by subst e;simp at hb
    rw[al_if_neg this]
    exact O.ex i s' a' w' hx hs'
   ·rw[hb,al_cond_true]at hx
    have:=ZAb hb
    rw[al_if_pos this]
    exact O.nrm _ a' w' hx hs'
 | .loop _,X,K,s,hL,h,Q,O,a,w,hs=>by simp[ev]at h
 | .rangeFunc _ _ _ _,X,K,s,hL,h,Q,O,a,w,hs=>by simp[ev]at h
 | .scope _,X,K,s,hL,h,Q,O,a,w,hs=>by simp[ev]at h
 | .label _,X,K,s,hL,h,Q,O,a,w,hs=>by simp[ev]at h
 | .goto _,X,K,s,hL,h,Q,O,a,w,hs=>by simp[ev]at h
 | .refuse _,X,K,s,hL,h,Q,O,a,w,hs=>by simp[ev]at h
end Ev
end
section
namespace Ev
open Go
def LP.lf:LP->Lf
 | .int _=> .c | .bool=> .c | .str=> .c | .r t=> .r t | .o _ t=> .m t | .al _ t=> .m t
def SP.sh:SP->Sh
 | .no=> .one .c
 | .one l=> .one l.lf
 | .t τ=> .agg (List.replicate τ.width .c)
 | .agg ls=> .agg (ls.map LP.lf)
 | .box _ _=> .one .p
 | .boxt _ _=> .one .p
 | .fn _ _=> .one .f
 | .sp _=> .one .s
def oS:List LP->List SP
 | []=>[]
 | .o c t::ls=> .one (.o c t)::oS ls
 | _::ls=>oS ls
def oV:List LP->List V
 | []=>[]
 | .o c _::ls=> .own c::oV ls
 | _::ls=>oV ls
def muts:List SP->List SP
 | []=>[]
 | .one (.o c t)::ps=> .one (.o c t)::muts ps
 | .box c ls::ps=> .box c ls::muts ps
 | .boxt c t::ps=> .boxt c t::muts ps
 | .agg ls::ps=>oS ls++muts ps
 | _::ps=>muts ps
def ZCQ:List SP->List V
 | []=>[]
 | .one (.o c _)::ps=> .own c::ZCQ ps
 | .box c _::ps=> .lptr c 0::ZCQ ps
 | .boxt c _::ps=> .lptr c 0::ZCQ ps
 | .agg ls::ps=>oV ls++ZCQ ps
 | _::ps=>ZCQ ps
def decV:(l:LP)->V->Option l.den
 | .int k,.int k' n=>cond (decide (k=k')) (some n) none
 | .bool,.bool b=>some b
 | .str,.str s=>some s
 | .r t,.lst t' l=>ZBl t' t l
 | _,_=>none
def ZGB:(ls:List LP)->List V->Option (dens ls)
 | [],[]=>some ()
 | l::ls,v::vs=>(decV l v).bind λd=>(ZGB ls vs).bind λt=>some (d,t)
 | _,_=>none
def decO:(l:LP)->V->Nat->List Blk->Option (l.den×Nat×List Blk)
 | .o c t,v,n,bs=>match v,bs with
  | .own j,.rows t' l::bs=>cond (Nat.beq j n && Nat.beq c n) ((ZBl t' t l).bind λd=>some (d,n+1,bs)) none
  | _,_=>none
 | .int k,v,n,bs=>(decV (.int k) v).bind λd=>some (d,n,bs)
 | .bool,v,n,bs=>(decV .bool v).bind λd=>some (d,n,bs)
 | .str,v,n,bs=>(decV .str v).bind λd=>some (d,n,bs)
 | .r τ,v,n,bs=>(decV (.r τ) v).bind λd=>some (d,n,bs)
 | .al _ _,_,_,_=>none
def ZFD:(ls:List LP)->List V->Nat->List Blk->Option (dens ls×Nat×List Blk)
 | [],[],n,bs=>some ((),n,bs)
 | l::ls,v::vs,n,bs=>(decO l v n bs).bind λx=>(ZFD ls vs x.2.1 x.2.2).bind λy=>some ((x.1,y.1),y.2.1,y.2.2)
 | _,_,_,_=>none
def decE:(ps:List SP)->List V->Nat->List Blk->Option (ZAL ps)
 | [],vs,_,bs=>match vs,bs with
  | [],[]=>some ()
  | _,_=>none
 | .no::ps,_,_,_=>none
 | .one l::ps,vs,n,bs=>match vs with
  | v::vs=>(decO l v n bs).bind λx=>(decE ps vs x.2.1 x.2.2).bind λt=>some (x.1,t)
  | []=>none
 | .t τ::ps,vs,n,bs=>match vs with
  | .agg cs::vs=>(τ.ofCells cs).bind λd=>(decE ps vs n bs).bind λt=>some (d,t)
  | _=>none
 | .agg ls::ps,vs,n,bs=>match vs with
  | .agg cs::vs=>(ZFD ls cs n bs).bind λd=>(decE ps vs d.2.1 d.2.2).bind λt=>some (d.1,t)
  | _=>none
 | .box c ls::ps,vs,n,bs=>match vs,bs with
  | .lptr j 0::vs,.box cs::bs=>cond (Nat.beq j n && Nat.beq c n) ((ZGB ls cs).bind λd=>(decE ps vs (n+1) bs).bind λt=>some (d,t)) none
  | _,_=>none
 | .boxt c τ::ps,vs,n,bs=>match vs,bs with
  | .lptr j 0::vs,.box cs::bs=>cond (Nat.beq j n && Nat.beq c n) ((τ.ofCells cs).bind λd=>(decE ps vs (n+1) bs).bind λt=>some (d,t)) none
  | _,_=>none
 | .fn g ls::ps,vs,n,bs=>match vs with
  | .fn g' [.sptr cs]::vs=>cond (Nat.beq g' g) ((ZDv ls cs).bind λd=>(decE ps vs n bs).bind λt=>some (d,t)) none
  | _=>none
 | .sp ls::ps,vs,n,bs=>match vs with
  | .sptr cs::vs=>(ZDv ls cs).bind λd=>(decE ps vs n bs).bind λt=>some (d,t)
  | _=>none
def mkE(ps rs:List SP)(sh:Bool)(f:ZAL ps->Option (ZAL (muts ps++rs))):Entry:=
 {pars:=ps.map SP.sh,res:=rs.map SP.sh,shares:=sh,muts:=match muts ps with | []=>false | _=>true,
  sem:=λR av bs K=>(decE ps av 0 bs).bind λa=>(f a).bind λx=>K (pack ((encF (muts ps++rs) x).drop (muts ps).length)) ((encB (muts ps++rs) x).map Prod.snd)}
def LP.cid:LP->Option Nat
 | .o c _=>some c
 | _=>none
def cids:List SP->List Nat
 | []=>[]
 | .one (.o c _)::ps=>c::cids ps
 | .agg ls::ps=>ls.filterMap LP.cid++cids ps
 | .box c ls::ps=>c::ls.filterMap LP.cid++cids ps
 | .boxt c _::ps=>c::cids ps
 | _::ps=>cids ps
def retK(T:Tab)(ps rs:List SP)(rv:List ResultVar)(s:St):Option (ZAL (muts ps++rs)):=
 ZFu T s rv λvs=>decK (cids ps).length (muts ps++rs) ⟨ZCQ ps++vs,s.st⟩ some
def runF(E:Env)(T:Tab)(ann:Nat->Bool)(ps rs:List SP)(fn:Func)(L:LEnv (ZAL (muts ps++rs)))(a:ZAL ps):Option (ZAL (muts ps++rs)):=
 match fn.body with
 | some c=>ev E T ann L (retK T ps rs fn.results.toList) c (λ_ _=>none) (retK T ps rs fn.results.toList) ⟨encF ps a++List.replicate (fn.ntmps-ps.length) .undef,encB ps a⟩
 | none=>none
def seqN:Nat->List Nat->Bool
 | _,[]=>true
 | n,c::cs=>Nat.beq c n && seqN (n+1) cs
end Ev
end
section
namespace Ev
open Go
theorem ZOt{l:LP}{v:V}{d:l.den}(h:decV l v=some d):v=encC l d/\blkC l d=[]:=by
 cases l with
 | int k=>
  cases v<;>simp only[decV]at h<;>try (cases h;done)
  rename_i k' n
  by_cases e:k=k'
  ·subst e;simp at h;subst h;exact⟨rfl,rfl⟩
  ·simp[e]at h
 | bool=>cases v<;>simp only[decV]at h<;>first | (cases h;done) | (cases h;exact⟨rfl,rfl⟩)
 | str=>cases v<;>simp only[decV]at h<;>first | (cases h;done) | (cases h;exact⟨rfl,rfl⟩)
 | r t=>
  cases v<;>simp only[decV]at h<;>try (cases h;done)
  obtain⟨e,h⟩:=ZCE h
  subst e;subst h;exact⟨rfl,rfl⟩
 | o c t=>cases v<;>simp only[decV]at h<;>cases h
 | al c t=>cases v<;>simp only[decV]at h<;>cases h
theorem ZOu: ∀ {ls:List LP} {vs:List V} {d:dens ls},ZGB ls vs=some d->vs=ZBw ls d/\ZDL ls d=[]
 | [],[],d,h=>⟨rfl,rfl⟩
 | l::ls,v::vs,d,h=>by
  simp only[ZGB,al_bind_iff]at h
  obtain⟨a,h1,b,h2,h⟩:=h
  cases h
  obtain⟨e1,e2⟩:=ZOt h1
  obtain⟨e3,e4⟩:=ZOu h2
  simp[ZBw,ZDL,<-e1,e2,<-e3,e4]
 | [],_::_,d,h=>by simp[ZGB]at h
 | _::_,[],d,h=>by simp[ZGB]at h
theorem ZK5{a b n:Nat}(h:(Nat.beq a n && Nat.beq b n)=true):a=n/\b=n:=by
 rw[ZAJ]at h
 exact⟨ZAb h.1,ZAb h.2⟩
theorem ZOv{l:LP}{v:V}{n:Nat}{bs:List Blk}{x:l.den×Nat×List Blk}(h:decO l v n bs=some x):v=encC l x.1/\ ∀σ,ZBA x.2.1 x.2.2=σ->ZBA n bs=blkC l x.1++σ:=by
 cases l with
 | o c t=>
  simp only[decO]at h
  split at h<;>try (cases h;done)
  rename_i j t' l bs
  cases hb:(Nat.beq j n && Nat.beq c n)<;>simp only[hb,al_cond_true,al_cond_false]at h
  ·cases h
  obtain⟨rfl,rfl⟩:=ZK5 hb
  simp only[al_bind_iff]at h
  obtain⟨d,h1,h⟩:=h
  cases h
  obtain⟨e,h1⟩:=ZCE h1
  subst e;subst h1
  exact⟨rfl,λσ e=>by subst e;rfl⟩
 | al c t=>simp only[decO]at h;cases h
 | _=>
  simp only[decO,al_bind_iff]at h
  obtain⟨d,h1,h⟩:=h
  cases h
  obtain⟨e1,e2⟩:=ZOt h1
  exact⟨e1,λσ e=>by rw[e2];exact e⟩
theorem ZOw: ∀ {ls:List LP} {vs:List V} {n:Nat} {bs:List Blk} {x:dens ls×Nat×List Blk},ZFD ls vs n bs=some x->vs=ZBw ls x.1/\ ∀σ,ZBA x.2.1 x.2.2=σ->ZBA n bs=ZDL ls x.1++σ
 | [],[],n,bs,x,h=>by
  simp only[ZFD]at h
  cases h
  exact⟨rfl,λσ e=>e⟩
 | l::ls,v::vs,n,bs,x,h=>by
  simp only[ZFD,al_bind_iff]at h
  obtain⟨a,h1,b,h2,h⟩:=h
  cases h
  obtain⟨e1,e2⟩:=ZOv h1
  obtain⟨e3,e4⟩:=ZOw h2
  refine⟨by simp only[ZBw];rw[<-e1,<-e3],λσ e=> ?_⟩
  simp only[ZDL,List.append_assoc]
  exact e2 _ (e4 σ e)
 | [],_::_,n,bs,x,h=>by simp[ZFD]at h
 | _::_,[],n,bs,x,h=>by simp[ZFD]at h
theorem ZOx: ∀ {ps:List SP} {vs:List V} {n:Nat} {bs:List Blk} {d:ZAL ps},decE ps vs n bs=some d->vs=encF ps d/\ZBA n bs=encB ps d/\vs.length=ps.length:=by
 intro ps
 induction ps with
 | nil=>
  intro vs n bs d h
  cases vs<;>cases bs<;>first | exact⟨rfl,rfl,rfl⟩ | (simp[decE]at h)
 | cons p ps ih=>
  intro vs n bs d h
  cases p with
  | no=>simp[decE]at h
  | one l=>
   simp only[decE]at h
   split at h<;>try (cases h;done)
   simp only[al_bind_iff]at h
   obtain⟨x,h1,t,h2,h⟩:=h
   cases h
   obtain⟨e1,e2⟩:=ZOv h1
   obtain⟨e3,e4,e5⟩:=ih h2
   exact⟨by rw[e1,e3];rfl,e2 _ e4,by simp[e5]⟩
  | t τ=>
   simp only[decE]at h
   split at h<;>try (cases h;done)
   simp only[al_bind_iff]at h
   obtain⟨x,h1,t,h2,h⟩:=h
   cases h
   obtain⟨e3,e4,e5⟩:=ih h2
   exact⟨by simp only[encF];rw[ZF4 h1,e3],e4,by simp[e5]⟩
  | agg ls=>
   simp only[decE]at h
   split at h<;>try (cases h;done)
   simp only[al_bind_iff]at h
   obtain⟨x,h1,t,h2,h⟩:=h
   cases h
   obtain⟨e1,e2⟩:=ZOw h1
   obtain⟨e3,e4,e5⟩:=ih h2
   exact⟨by simp only[encF];rw[<-e1,e3],e2 _ e4,by simp[e5]⟩
  | box c ls=>
   simp only[decE]at h
   split at h<;>try (cases h;done)
   rename_i j vs cs bs
   cases hb:(Nat.beq j n && Nat.beq c n)<;>simp only[hb,al_cond_true,al_cond_false]at h
   ·cases h
   obtain⟨rfl,rfl⟩:=ZK5 hb
   simp only[al_bind_iff]at h
   obtain⟨x,h1,t,h2,h⟩:=h
   cases h
   obtain⟨e3,e4,e5⟩:=ih h2
   obtain⟨e1,e2⟩:=ZOu h1
   refine⟨by simp only[encF];rw[e3],?_,by simp[e5]⟩
   simp only[encB,e2,ZBA,<-e1]
   rw[e4];rfl
  | boxt c τ=>
   simp only[decE]at h
   split at h<;>try (cases h;done)
   rename_i j vs cs bs
   cases hb:(Nat.beq j n && Nat.beq c n)<;>simp only[hb,al_cond_true,al_cond_false]at h
   ·cases h
   obtain⟨rfl,rfl⟩:=ZK5 hb
   simp only[al_bind_iff]at h
   obtain⟨x,h1,t,h2,h⟩:=h
   cases h
   obtain⟨e3,e4,e5⟩:=ih h2
   refine⟨by simp only[encF];rw[e3],?_,by simp[e5]⟩
   simp only[encB,ZBA,ZF4 h1]
   rw[e4]
  | fn g ls=>
   simp only[decE]at h
   split at h<;>try (cases h;done)
   rename_i g' cs vs
   cases hg:Nat.beq g' g<;>simp only[hg,al_cond_true,al_cond_false]at h
   ·cases h
   have:=ZAb hg
   subst this
   simp only[al_bind_iff]at h
   obtain⟨x,h1,t,h2,h⟩:=h
   cases h
   obtain⟨e3,e4,e5⟩:=ih h2
   have e1:=ZHJ h1
   exact⟨by simp only[encF];rw[<-e1,e3],e4,by simp[e5]⟩
  | sp ls=>
   simp only[decE]at h
   split at h<;>try (cases h;done)
   simp only[al_bind_iff]at h
   obtain⟨x,h1,t,h2,h⟩:=h
   cases h
   obtain⟨e3,e4,e5⟩:=ih h2
   have e1:=ZHJ h1
   exact⟨by simp only[encF];rw[<-e1,e3],e4,by simp[e5]⟩
theorem ZOy{l:LP}{d:l.den} :(blkC l d).map Prod.fst=match l with | .o c _=>[c] | _=>[]:=by
 cases l<;>rfl
theorem ZK6: ∀ {ls:List LP} {d:dens ls},(ZDL ls d).map Prod.fst=ls.filterMap LP.cid
 | [],d=>rfl
 | l::ls,d=>by
  simp only[ZDL,List.map_append,ZOy,ZK6,List.filterMap_cons]
  cases l<;>rfl
theorem ZDM: ∀ {ps:List SP} {d:ZAL ps},(encB ps d).map Prod.fst=cids ps
 | [],d=>rfl
 | .no::ps,d=>ZDM (ps:=ps)
 | .one l::ps,d=>by
  simp only[encB,List.map_append,ZOy,ZDM (ps:=ps)]
  cases l<;>rfl
 | .t τ::ps,d=>ZDM (ps:=ps)
 | .agg ls::ps,d=>by simp only[encB,List.map_append,ZK6,ZDM (ps:=ps),cids]
 | .box c ls::ps,d=>by simp only[encB,List.map_append,List.map_cons,ZK6,ZDM (ps:=ps),cids]
 | .boxt c τ::ps,d=>by simp only[encB,List.map_cons,ZDM (ps:=ps),cids]
 | .fn _ _::ps,d=>ZDM (ps:=ps)
 | .sp _::ps,d=>ZDM (ps:=ps)
theorem ZOz: ∀ {σ:ZAI} {n:Nat},seqN n (σ.map Prod.fst)=true->ZBA n (σ.map Prod.snd)=σ
 | [],n,_=>rfl
 | (i,b)::σ,n,h=>by
  simp only[List.map_cons,seqN,ZAJ]at h
  have:=ZAb h.1
  subst this
  simp only[List.map_cons,ZBA,ZOz h.2]
theorem ZDx: ∀ {ps:List SP} {d:ZAL ps},(encF ps d).length=ps.length
 | [],d=>rfl
 | .no::ps,d=>by simp only[encF,al_len_cons,ZDx]
 | .one l::ps,d=>by simp only[encF,al_len_cons,ZDx]
 | .t τ::ps,d=>by simp only[encF,al_len_cons,ZDx]
 | .agg ls::ps,d=>by simp only[encF,al_len_cons,ZDx]
 | .box c ls::ps,d=>by simp only[encF,al_len_cons,ZDx]
 | .boxt c τ::ps,d=>by simp only[encF,al_len_cons,ZDx]
 | .fn _ _::ps,d=>by simp only[encF,al_len_cons,ZDx]
 | .sp _::ps,d=>by simp only[encF,al_len_cons,ZDx]
theorem ZK7{ρ:Rho}{F:Nat->Prop}{w:World}{c:Value} : ∀ {ps:List SP} {d:ZAL ps} {i:Nat},RelT ρ F w (get (encF ps d) i) c->RelA ρ F w (get (encF ps d) i) c
 | [],d,i,h=>by cases i<;>exact h
 | p::ps,d,i+1,h=>by
  cases p<;>exact ZK7 (ps:=ps) (i:=i) h
 | p::ps,d,0,h=>by
  cases p with
  | one l=>cases l<;>exact h
  | _=>exact h
theorem ZO0: ∀ {ls:List LP},(oV ls).length=(oS ls).length
 | []=>rfl
 | l::ls=>by cases l<;>simp only[oV,oS,al_len_cons,ZO0 (ls:=ls)]
theorem ZDe: ∀ {ps:List SP},(ZCQ ps).length=(muts ps).length
 | []=>rfl
 | .no::ps=>ZDe (ps:=ps)
 | .one l::ps=>by cases l<;>simp only[ZCQ,muts,al_len_cons,ZDe (ps:=ps)]
 | .t _::ps=>ZDe (ps:=ps)
 | .agg ls::ps=>by simp only[ZCQ,muts,al_len_append,ZO0,ZDe (ps:=ps)]
 | .box _ _::ps=>by simp only[ZCQ,muts,al_len_cons,ZDe (ps:=ps)]
 | .boxt _ _::ps=>by simp only[ZCQ,muts,al_len_cons,ZDe (ps:=ps)]
 | .fn _ _::ps=>ZDe (ps:=ps)
 | .sp _::ps=>ZDe (ps:=ps)
def resG(tmps:Array Value):ResultVar->Sem Value
 | .tmp t=>pure (tmps.getD t undef)
 | .cell a t=>do loadVar t (<-asAddr (tmps.getD a undef))
def ZEZ(cs:List Value):Value:=if h:cs.toArray.size=1 then cs.toArray[0]else .tuple cs.toArray
theorem ZUa{fn:Func}{tmps:Array Value}{P:Program}{w:World}{cs:List Value}(h:(fn.results.toList.mapM (resG tmps)).run P w= .ok cs w):(results fn tmps).run P w= .ok (ZEZ cs) w:=by
 have e:(fn.results.mapM (resG tmps))=List.toArray<$>fn.results.toList.mapM (resG tmps):=by
  rw[<-List.mapM_toArray]
 have e2:results fn tmps=(do let vs<-fn.results.mapM (resG tmps);pure (if h:vs.size=1 then vs[0]else .tuple vs)):=by
  unfold results
  congr 1
 rw[e2,e]
 simp[h,ZEZ]
theorem ZK8{R:Type}{P:Program}{T:Tab}(hT:ZBW P T){s:St} : ∀ {rv:List ResultVar} {K:List V->Option R} {r:R},ZFu T s rv K=some r-> ∃vs,K vs=some r/\vs.length=rv.length/\
  ∀ρ F w (tmps:Array Value),Core ρ F s.st w->(∀t,RelT ρ F w (get s.fr t) (tmps.getD t undef))-> ∃cs:List Value,(rv.mapM (resG tmps)).run P w= .ok cs w/\cs.length=vs.length/\ ∀(i:Nat) v,vs[i]?=some v-> ∃c,cs[i]?=some c/\RelT ρ F w v c
 | [],K,r,h=>⟨[],h,rfl,λρ F w tmps _ _=>⟨[],by simp,rfl,λi v hv=>by simp at hv⟩⟩
 | .tmp t::rs,K,r,h=>by
  simp only[ZFu]at h
  obtain⟨vs,hk,hl,hr⟩:=ZK8 hT h
  refine⟨_,hk,by simp[hl],λρ F w tmps H hf=> ?_⟩
  obtain⟨cs,h1,h2,h3⟩:=hr ρ F w tmps H hf
  refine⟨tmps.getD t undef::cs,by simp[resG,h1],by simp[h2],λi v hv=> ?_⟩
  cases i with
  | zero=>simp at hv;subst hv;exact⟨_,rfl,hf t⟩
  | succ i=>simpa using h3 i v (by simpa using hv)
 | .cell a t::rs,K,r,h=>by
  simp only[ZFu]at h
  split at h<;>try (cases h;done)
  rename_i ti hti
  have hptr: ∀ρ F w c,RelT ρ F w (get s.fr a) c-> ∃ad,c= .pointer (some ad):=by
   intro ρ F w c r
   unfold ZGr at h
   split at h<;>rename_i hx
   ·rw[hx]at r;obtain⟨b,s,e,_⟩:=r;exact⟨_,e⟩
   ·rw[hx]at r;obtain⟨b,s,_,e⟩:=r;exact⟨_,e⟩
   ·rw[hx]at r;obtain⟨t,b,s,len,cap,_,_,e⟩:=r;exact⟨_,e⟩
   ·cases h
  obtain⟨x,hk,hx⟩:=ZNX (P:=P) (hT _ _ hti).1.size (hT _ _ hti).1.agg h
  obtain⟨vs,hk,hl,hr⟩:=ZK8 hT hk
  refine⟨_,hk,by simp[hl],λρ F w tmps H hf=> ?_⟩
  obtain⟨cs,h1,h2,h3⟩:=hr ρ F w tmps H hf
  obtain⟨c,hc,rc⟩:=hx ρ F w _ H (hf a)
  obtain⟨ad,had⟩:=hptr ρ F w _ (hf a)
  have hg:(resG tmps (.cell a t)).run P w= .ok c w:=by
   show(do loadVar t (<-asAddr (tmps.getD a undef)):Sem Value).run P w=_
   rw[had]at hc⊢
   simpa[Instr.loadAt,Instr.sureAddr,asAddr]using hc
  refine⟨c::cs,by simp[hg,h1],by simp[h2],λi v hv=> ?_⟩
  cases i with
  | zero=>simp at hv;subst hv;exact⟨_,rfl,rc⟩
  | succ i=>simpa using h3 i v (by simpa using hv)
theorem ZO1{ρ:Rho}{F:Nat->Prop}{w:World}{vs:List V}{cs:List Value}(hl:vs.length=cs.length)
  (h: ∀(i:Nat) c,cs[i]?=some c-> ∃v,vs[i]?=some v/\RelT ρ F w v c/\RelA ρ F w v c):RelT ρ F w (pack vs) (ZEZ cs):=by
 by_cases hn:cs.length=1
 ·match cs,hn with
  | [c],_=>
   obtain⟨v,hv,r,_⟩:=h 0 c rfl
   match vs,hl,hv with
   | [x],_,hv=>simp at hv;subst hv;exact r
 ·have hp:pack vs= .tup vs:=by
   match vs,hl with
   | [],_=>rfl
   | [x],hl=>exact absurd (by simpa using hl.symm) hn
   | _::_::_,_=>rfl
  have hq:ZEZ cs= .tuple cs.toArray:=by
   unfold ZEZ
   rw[dif_neg (by simpa using hn)]
  rw[hp,hq]
  refine⟨_,rfl,by simp[hl],λi v hv=> ?_⟩
  have hi:i<cs.length:=by have:=(al_get_iff.mp hv).1;omega
  obtain⟨v',hv',_,r⟩:=h i cs[i] (by simp)
  rw[hv]at hv';cases hv'
  exact⟨_,by simp,r⟩
theorem ZK9{l:List V}{i:Nat}{v:V}(h:l[i]?=some v):get l i=v:=by
 induction l generalizing i with
 | nil=>simp at h
 | cons x l ih=>
  cases i with
  | zero=>simpa[get]using h
  | succ i=>exact ih (by simpa using h)
theorem ZO2{l m:List V}{i:Nat} :get (l++m) (l.length+i)=get m i:=by
 induction l with
 | nil=>simp
 | cons x l ih=>rw[al_len_cons,show l.length+1+i=(l.length+i)+1 by omega];exact ih
theorem ZUb{n i:Nat} :get (List.replicate n V.undef) i= .undef:=by
 induction n generalizing i with
 | zero=>rfl
 | succ n ih=>cases i with | zero=>rfl | succ i=>exact ih
theorem ZUc{ps rs:List SP}{fn:Func}{P:Program}{T:Tab}(hT:ZBW P T){s:St}{x:ZAL (muts ps++rs)}(h:retK T ps rs fn.results.toList s=some x)(hq:seqN 0 (cids (muts ps++rs))=true)
  (hc:(cids ps).length<=(cids (muts ps++rs)).length) (hm:(cids ps).length<=100)
  {w0:World} {F0:Nat->Prop} {ρ0:Rho} (h0: ∀id l,ρ0 id=some l->id<(cids ps).length) {a:Act} {w:World} (hs:SR ⟨w0,F0,ρ0⟩ s a w):
  a.defers=[]/\ ∃c,(results fn a.tmps).run P w= .ok c w/\ ∃ρ1 F1,Core ρ1 F1 (ZBA 0 ((encB (muts ps++rs) x).map Prod.snd)) w/\(∀id l,ρ0 id=some l->ρ1 id=some l)/\
   (∀id l,ρ1 id=some l->id<((encB (muts ps++rs) x).map Prod.snd).length)/\RelT ρ1 F1 w (pack ((encF (muts ps++rs) x).drop (muts ps).length)) c/\Chg ρ0.M w0 w/\
   (∀b,ρ1.M b->ρ0.M b\/w0.heap.size<=b)/\(∀b,F1 b->F0 b\/w0.heap.size<=b):=by
 refine⟨hs.defers,?_⟩
 unfold retK at h
 obtain⟨vs,h,hvl,hvs⟩:=ZK8 hT h
 obtain⟨y,e,hk⟩:=ZOs h
 cases e
 obtain⟨ρ,F,HC,DM,B,hf⟩:=hs.ex
 obtain⟨ρ1,F1,k⟩:=hk ρ F w HC DM
 have hst:ZBA 0 ((encB (muts ps++rs) x).map Prod.snd)=encB (muts ps++rs) x:=ZOz (by rw[ZDM];exact hq)
 have hlen:(encB (muts ps++rs) x).length=(cids (muts ps++rs)).length:=by rw[<-ZDM (d:=x),List.length_map]
 obtain⟨cs,hr,hcl,hcs⟩:=hvs ρ F w a.tmps HC hf
 have sub: ∀id l,ρ0 id=some l->ρ1 id=some l:=λid l hl=>by
  have hid:=h0 id l hl
  have hne:look (encB (muts ps++rs) x) id≠none:=by
   rw[<-hst,ZHC]
   simp;omega
  obtain⟨e,hne'⟩:=k.par id hid hne
  rw[e]
  exact B.par id l (by omega) hl hne'
 refine⟨ZEZ cs,ZUa hr,ρ1,F1,by rw[hst];exact k.core,sub,λid l hl=> ?_,?_,B.chg,λb hb=> ?_,λb hb=> ?_⟩
 ·have:=k.dom id l hl
  have h2:look (ZBA 0 ((encB (muts ps++rs) x).map Prod.snd)) id≠none:=by rw[hst];exact this
  rw[ZHC]at h2
  cases hx:((encB (muts ps++rs) x).map Prod.snd)[id]? with
  | none=>exact absurd hx h2
  | some b=>exact(al_get_iff.mp hx).1
 ·have hl:(encF (muts ps++rs) x).length=(ZCQ ps).length+vs.length:=by
   have:=k.len
   simpa[enc]using this
  refine ZO1 (by rw[List.length_drop,hl,ZDe];omega) (λi c hc=> ?_)
  have hi:i<vs.length:=by have:=(al_get_iff.mp hc).1;omega
  have hv:(encF (muts ps++rs) x)[(ZCQ ps).length+i]?=some ((encF (muts ps++rs) x)[(ZCQ ps).length+i]'(by omega)):=by simp
  refine⟨_,by rw[List.getElem?_drop,<-ZDe];exact hv,?_⟩
  obtain⟨c',hc',rc⟩:=hcs i vs[i] (by simp)
  rw[hc]at hc';cases hc'
  have r:=k.fr ((ZCQ ps).length+i) c (by
   rw[ZO2]
   rw[ZK9 (v:=vs[i]) (by simp)]
   exact rc)
  have r':=ZK7 r
  simp only[enc]at r r'
  rw[ZK9 hv]at r r'
  exact⟨r,r'⟩
 ·by_cases hlt:b<w0.heap.size
  ·exact .inl (B.mb b (k.mb b hb) hlt)
  ·exact .inr (by omega)
 ·by_cases hlt:b<w0.heap.size
  ·left
   have key:ρ0.M b->F0 b:=λ⟨id,l,hl,hb'⟩=>absurd ⟨id,l,sub id l hl,hb'⟩ (k.core.stable b hb).2
   rcases k.stb b hb with h | h
   ·rcases B.stb b h hlt with h | h
    ·exact h
    ·exact key h
   ·exact key (B.mb b h hlt)
  ·exact .inr (by omega)
theorem ZUd{P:Program}{E:Env}{T:Tab}(hT:ZBW P T)(hE:EnvOK P E)(hm:P.follows .mixedOrders=true){ann:Nat->Bool}{f:Nat}{fn:Func}{c:Code}{ps rs:List SP}{sh:Bool}
  {L:LEnv (ZAL (muts ps++rs))} {G:ZAL ps->Option (ZAL (muts ps++rs))} (hf:P.funcs[f]?=some fn) (hb:fn.body=some c)
  (hq:(seqN 0 (cids (muts ps++rs)) && Nat.ble (cids ps).length (cids (muts ps++rs)).length && Nat.ble (cids ps).length 100)=true)
  (hL:LOK E T ann L (retK T ps rs fn.results.toList) c) (h: ∀a,runF E T ann ps rs fn L a=G a):ZKf P f (mkE ps rs sh G):=by
 intro R av bs K r hk
 simp only[mkE,al_bind_iff]at hk
 obtain⟨a,h1,x,h2,hk⟩:=hk
 refine⟨_,_,hk,?_⟩
 obtain⟨e1,e2,e3⟩:=ZOx h1
 rw[<-h a]at h2
 unfold runF at h2
 rw[hb]at h2
 simp only at h2
 simp only[ZAJ]at hq
 obtain⟨⟨q1,q2⟩,q3⟩:=hq
 intro w F0 ρ0 ca HC hid hsz hv
 have hbl:bs.length=(cids ps).length:=by
  rw[<-ZDM (d:=a),<-e2,List.length_map]
  have: ∀(bs:List Blk) n,(ZBA n bs).length=bs.length:=by
   intro bs;induction bs with
   | nil=>intro n;rfl
   | cons b bs ih=>intro n;simp[ZBA,ih]
  rw[this]
 refine calls_of_wp hf hb ?_
 have h0: ∀id l,ρ0 id=some l->id<(cids ps).length:=λid l hl=>by rw[<-hbl];exact hid id l hl
 have hret: ∀s a' w',retK T ps rs fn.results.toList s=some x->SR ⟨w,F0,ρ0⟩ s a' w'->bodyPost P fn (λen w'=> ∃c ρ1 F1,en= .returned c/\Core ρ1 F1 (ZBA 0 ((encB (muts ps++rs) x).map Prod.snd)) w'/\(∀id l,ρ0 id=some l->ρ1 id=some l)/\
   (∀id l,ρ1 id=some l->id<((encB (muts ps++rs) x).map Prod.snd).length)/\RelT ρ1 F1 w' (pack ((encF (muts ps++rs) x).drop (muts ps).length)) c/\Chg ρ0.M w w'/\(∀b,ρ1.M b->ρ0.M b\/w.heap.size<=b)/\(∀b,F1 b->F0 b\/w.heap.size<=b)) .ret a' w':=by
  intro s a' w' hr hs
  obtain⟨g1,c,g2,ρ1,F1,g3⟩:=ZUc (P:=P) hT hr q1 (by simpa using q2) (by simpa using q3) h0 hs
  exact⟨g1,c,g2,c,ρ1,F1,rfl,g3⟩
 refine ZFC hT hE hm (r:=x) (C:=⟨w,F0,ρ0⟩) c _ _ _ hL h2 _ ⟨λs a' w' hr hs=>hret s a' w' hr hs,λi s a' w' hx=>(by cases hx),λs a' w' hr hs=>hret s a' w' hr hs⟩ _ _ ?_
 refine⟨rfl,?_,ρ0,F0,by rw[<-e2];exact HC,λid l hl=> ?_,⟨Chg.refl _ _,λb h _=>h,λb h _=> .inl h,λj l _ h _=>h⟩,λt=> ?_⟩
 ·simp only[al_len_append,List.length_replicate,ZDx,Array.size_append,Array.size_replicate]
  omega
 ·simp only
  rw[<-e2,ZHC]
  have:=hid id l hl
  simp;omega
 ·simp only
  rw[<-e1]
  by_cases ht:t<av.length
  ·have hg:get (av++List.replicate (fn.ntmps-ps.length) V.undef) t=av[t]:=ZK9 (by rw[List.getElem?_append_left ht];simp)
   obtain⟨c,hc,r⟩:=hv t av[t] (by simp)
   have hlt:t<ca.size:=by omega
   have hgd:(ca++Array.replicate (fn.ntmps-ca.size) undef).getD t undef=c:=by
    simp[Array.getElem?_append_left hlt,hc]
   rw[hg,hgd]
   have hrel:=ZK7 (ps:=ps) (d:=a) (i:=t) (ρ:=ρ0) (F:=F0) (w:=w) (c:=c)
   generalize hz:av[t]=z at r
   cases z<;>first | exact r | exact r.elim
  ·obtain⟨k,rfl⟩: ∃k,t=av.length+k:=⟨t-av.length,by omega⟩
   rw[ZO2,ZUb]
   trivial
end Ev
end
section
namespace Ev
open Go
structure OK(P:Program)(f:Nat)(e:Entry):Prop where
 ent:ZKf P f e
 fn: ∃fn,P.funcs[f]?=some fn/\fn.body.isNone=false/\fn.name≠ "runtime.NumGoroutine"
def envL:List (Nat×Entry)->Env
 | [],_=>none
 | (i,e)::r,n=>cond (Nat.beq i n) (some e) (envL r n)
def OKs(P:Program):List (Nat×Entry)->Prop
 | []=>True
 | (i,e)::r=>OK P i e/\OKs P r
theorem OKs.nil{P:Program} :OKs P []:=trivial
theorem OKs.cons{P:Program}{i:Nat}{e:Entry}{r:List (Nat×Entry)}(h:OK P i e)(k:OKs P r):OKs P ((i,e)::r):=⟨h,k⟩
theorem ZL{P:Program} : ∀ {l:List (Nat×Entry)},OKs P l-> ∀f e,envL l f=some e->OK P f e
 | [],_,f,e,h=>by simp[envL]at h
 | (i,x)::r,h,f,e,he=>by
  simp only[envL]at he
  cases hb:Nat.beq i f<;>simp only[hb,al_cond_true,al_cond_false]at he
  ·exact ZL h.2 f e he
  ·cases he;have:=ZAb hb;subst this;exact h.1
theorem ZUe{P:Program}{l:List (Nat×Entry)}(h:OKs P l):EnvOK P (envL l):=⟨λf e he=>(ZL h f e he).ent,λf e he=>(ZL h f e he).fn⟩
def lenv{R:Type} :List (Nat×(St->(St->Option R)->Option R))->LEnv R
 | [],_=>none
 | (i,l)::r,n=>cond (Nat.beq i n) (some l) (lenv r n)
def ZCG:Code->List (Nat×Code)
 | .block id (.loop c)=>(id,c)::ZCG c
 | .block _ c=>ZCG c
 | .seq a b=>ZCG a++ZCG b
 | .cond _ a b=>ZCG a++ZCG b
 | _=>[]
def ZBB(fn:Func)(k:Nat):Code:=match fn.body with
 | some c=>match (ZCG c)[k]? with
  | some p=>p.2
  | none=> .skip
 | none=> .skip
def ZUf{R:Type}(E:Env)(T:Tab)(ann:Nat->Bool)(L:LEnv R)(kr:St->Option R)(id:Nat)(c:Code):Prop:=
 ∃(ps:List SP) (f:ZAL ps->(ZAL ps->Option R)->(ZAL ps->Option R)->Option R),L id=some (ZA2 ps f)/\
  ∀(X:Nat->St->Option R) (rec K:ZAL ps->Option R) (t:ZAL ps),ev E T ann L kr c (λi s=>cond (Nat.beq i id) (decK 100 ps s K) (X i s)) (λs=>decK 100 ps s rec) (enc ps t)=f t rec K
def ZCk{R:Type}(E:Env)(T:Tab)(ann:Nat->Bool)(L:LEnv R)(kr:St->Option R):List (Nat×Code)->Prop
 | []=>True
 | (id,c)::r=>ZUf E T ann L kr id c/\ZCk E T ann L kr r
section
variable {R:Type} {E:Env} {T:Tab} {ann:Nat->Bool} {L:LEnv R} {kr:St->Option R}
theorem ZCk.nil:ZCk E T ann L kr []:=trivial
theorem ZCk.cons{id:Nat}{c:Code}{r:List (Nat×Code)}(ps:List SP)(f:ZAL ps->(ZAL ps->Option R)->(ZAL ps->Option R)->Option R)(h:L id=some (ZA2 ps f))
  (k: ∀(X:Nat->St->Option R) (rec K:ZAL ps->Option R) (t:ZAL ps),ev E T ann L kr c (λi s=>cond (Nat.beq i id) (decK 100 ps s K) (X i s)) (λs=>decK 100 ps s rec) (enc ps t)=f t rec K)
  (m:ZCk E T ann L kr r):ZCk E T ann L kr ((id,c)::r):=⟨⟨ps,f,h,k⟩,m⟩
theorem ZIj{a b:List (Nat×Code)}(h:ZCk E T ann L kr (a++b)):ZCk E T ann L kr a/\ZCk E T ann L kr b:=by
 induction a with
 | nil=>exact⟨trivial,h⟩
 | cons p a ih=>obtain⟨i,c⟩:=p;exact⟨⟨h.1,(ih h.2).1⟩,(ih h.2).2⟩
theorem ZFE:(c:Code)->ZCk E T ann L kr (ZCG c)->LOK E T ann L kr c
 | .skip,_=>trivial
 | .region ..,_=>trivial
 | .seq a b,h=>⟨ZFE a (ZIj h).1,ZFE b (ZIj h).2⟩
 | .cond _ a b,h=>⟨ZFE a (ZIj h).1,ZFE b (ZIj h).2⟩
 | .exit _,_=>trivial
 | .ret,_=>trivial
 | .block id c,h=>by
  by_cases hc: ∃b,c= .loop b
  ·obtain⟨b,rfl⟩:=hc
   exact⟨h.1,ZFE b h.2⟩
  ·have e:ZCG (.block id c)=ZCG c:=by cases c<;>first | rfl | exact absurd ⟨_,rfl⟩ hc
   have e2:LOK E T ann L kr (.block id c)=LOK E T ann L kr c:=by cases c<;>first | rfl | exact absurd ⟨_,rfl⟩ hc
   rw[e]at h
   rw[e2]
   exact ZFE c h
 | .loop _,_=>trivial
 | .rangeFunc _ _ _ _,_=>trivial
 | .scope _,_=>trivial
 | .label _,_=>trivial
 | .goto _,_=>trivial
 | .refuse _,_=>trivial
end
theorem ZUg{P:Program}{E:Env}{T:Tab}(hT:ZBW P T)(hE:EnvOK P E)(hm:P.follows .mixedOrders=true){ann:Nat->Bool}{f:Nat}{fn:Func}{c:Code}{ps rs:List SP}{sh:Bool}
  {L:LEnv (ZAL (muts ps++rs))} {G:ZAL ps->Option (ZAL (muts ps++rs))} (hf:P.funcs[f]?=some fn) (hb:fn.body=some c)
  (hq:(seqN 0 (cids (muts ps++rs)) && Nat.ble (cids ps).length (cids (muts ps++rs)).length && Nat.ble (cids ps).length 100)=true)
  (hn:decide (fn.name= "runtime.NumGoroutine")=false)
  {ls:List (Nat×Code)} (hl:ZCG c=ls) (hL:ZCk E T ann L (retK T ps rs fn.results.toList) ls) (h: ∀a,runF E T ann ps rs fn L a=G a):OK P f (mkE ps rs sh G):=
 ⟨ZUd hT hE hm hf hb hq (ZFE c (by rw[hl];exact hL)) h,fn,hf,by rw[hb];rfl,of_decide_eq_false hn⟩
def ZDf(fn:Func):Code:=match fn.body with
 | some c=>c
 | none=> .skip
def w64(n:Int):Int:=IntKind.wrap .i64 n
def ZUh:Tab->Bool
 | []=>true
 | (_,ti)::r=>cond ti.flat false (ZUh r)
end Ev
end
section
namespace Ev
open Go
def eqFs(P:Program)(rec:TypeId->Option (List V)):Nat->List Field->Option (List V)
 | _,[]=>some []
 | off,f::fs=>cond (decide (f.name= "_")) none (cond (Nat.beq f.offset off) ((rec f.type).bind λz=>cond (ZEP P f.type z.length) ((eqFs P rec (off+z.length) fs).map λr=>z++r) none) none)
def eqZ(P:Program):Nat->TypeId->Option (List V)
 | 0,_=>none
 | n+1,t=>match P.underlying t with
  | some (.int k)=>some [.int k 0]
  | some .bool=>some [.bool false]
  | some .string=>some [.str []]
  | some (.struct fs)=>cond (P.stoodInHeld t) none (eqFs P (eqZ P n) 0 fs.toList)
  | _=>none
def Made(P:Program)(t:TypeId)(us:List V)(c:Value):Prop:= ∃ag,ZCD P t ag/\match ag with
 | true=> ∃xs:Array Value,c= .agg xs/\xs.toList=us.map sv
 | false=> ∃u,us=[u]/\c=sv u
theorem ZLA: ∀ {zs us:List V},fits zs us=true->us.length=zs.length
 | [],[],_=>rfl
 | [],_::_,h=>by simp[fits]at h
 | z::zs,[],h=>by cases z<;>simp[fits]at h
 | z::zs,u::us,h=>by
  have:fits zs us=true:=by
   cases z<;>cases u<;>simp only[fits,ZAJ]at h<;>first | exact h.2 | exact h | cases h
  simp[ZLA this]
theorem ZLB: ∀ {z r us:List V},fits (z++r) us=true-> ∃u1 u2,us=u1++u2/\fits z u1=true/\fits r u2=true
 | [],r,us,h=>⟨[],us,rfl,rfl,h⟩
 | x::z,r,[],h=>by cases x<;>simp[fits]at h
 | x::z,r,u::us,h=>by
  have:fits (z++r) us=true:=by
   cases x<;>cases u<;>simp only[List.cons_append,fits,ZAJ]at h<;>first | exact h.2 | exact h | cases h
  obtain⟨u1,u2,rfl,h1,h2⟩:=ZLB this
  refine⟨u::u1,u2,rfl,?_,h2⟩
  cases x<;>cases u<;>simp only[List.cons_append,fits,ZAJ]at h⊢ <;>first | exact⟨h.1,h1⟩ | exact h1 | cases h
theorem ZHL: ∀ {a b c:List V},fits a b=true->fits b c=true->fits a c=true
 | [],[],c,_,h=>h
 | [],_::_,_,h,_=>by simp[fits]at h
 | x::a,[],_,h,_=>by cases x<;>simp[fits]at h
 | x::a,y::b,[],_,h=>by cases y<;>simp[fits]at h
 | x::a,y::b,z::c,h,k=>by
  cases x<;>cases y<;>simp only[fits,ZAJ,ZAX]at h<;>try (cases h;done)
  all_goals
   cases z<;>simp only[fits,ZAJ,ZAX]at k⊢ <;>try (cases k;done)
  ·exact⟨h.1.trans k.1,ZHL h.2 k.2⟩
  ·exact ZHL h k
  ·exact ZHL h k
theorem ZLC: ∀ {u1 v1 u2 v2:List V} {b:Bool},u1.length=v1.length->eqV (u1++u2) (v1++v2)=some b-> ∃b1 b2,eqV u1 v1=some b1/\eqV u2 v2=some b2/\b=(b1 && b2)
 | [],[],u2,v2,b,_,h=>⟨true,b,rfl,h,by simp⟩
 | [],_::_,_,_,_,h,_=>by simp at h
 | _::_,[],_,_,_,h,_=>by simp at h
 | x::u1,y::v1,u2,v2,b,hl,h=>by
  cases x<;>cases y<;>simp only[List.cons_append,eqV]at h⊢ <;>try (cases h;done)
  ·rename_i k a k' a'
   cases hk:decide (k=k')<;>simp only[hk,al_cond_true,al_cond_false]at h⊢
   ·cases h
   ·simp only[al_bind_iff]at h
    obtain⟨t,ht,h⟩:=h
    obtain⟨b1,b2,h1,h2,rfl⟩:=ZLC (by simpa using hl) ht
    cases h
    exact⟨_,b2,by rw[h1];rfl,h2,by rw[Bool.and_assoc]⟩
  all_goals
   simp only[al_bind_iff]at h
   obtain⟨t,ht,h⟩:=h
   obtain⟨b1,b2,h1,h2,rfl⟩:=ZLC (by simpa using hl) ht
   cases h
   exact⟨_,b2,by rw[h1];rfl,h2,by rw[Bool.and_assoc]⟩
section
variable {P:Program}
theorem ZUi{n:Nat}{t:TypeId}{z:List V}(h:eqZ P n t=some z): ∃ag,ZCD P t ag/\(ag=false->z.length=1):=by
 cases n with
 | zero=>simp[eqZ]at h
 | succ n=>
  unfold eqZ at h
  split at h<;>try (cases h;done)
  ·rename_i k hu;cases h;exact⟨false,⟨_,hu,rfl⟩,λ_=>rfl⟩
  ·rename_i hu;cases h;exact⟨false,⟨_,hu,rfl⟩,λ_=>rfl⟩
  ·rename_i hu;cases h;exact⟨false,⟨_,hu,rfl⟩,λ_=>rfl⟩
  ·rename_i fs hu;exact⟨true,⟨_,hu,rfl⟩,λh=>by cases h⟩
theorem ZO3{t:TypeId}{z:List V}{n:Nat}(hz:eqZ P n t=some z)(hs:ZBV P t z.length){xs:Array Value}{off:Nat}{u1 u2:List V}(hx:xs.toList.drop off=(u1++u2).map sv)(hl:u1.length=z.length)(w:World):
  ∃c,(part t xs off).run P w= .ok c w/\Made P t u1 c:=by
 obtain⟨ag,ha,h1⟩:=ZUi hz
 cases ag with
 | true=>
  refine⟨.agg (xs.extract off (off+z.length)),by simp only[part,Sem.run_bind,ZE8 ha,Result.andThen_ok,if_true,ZBj hs,Sem.run_pure],true,ha,_,rfl,?_⟩
  rw[Array.toList_extract]
  simp only[List.extract_eq_take_drop,hx]
  rw[<-hl]
  simp
 | false=>
  have:=h1 rfl
  rw[this]at hl
  obtain⟨u,rfl⟩:=List.length_eq_one_iff.mp hl
  have hc:xs[off]?=some (sv u):=by
   have:=congrArg (λl=>l[0]?) hx
   simpa using this
  exact⟨sv u,by simp[part,Sem.run_bind,ZE8 ha,hc],false,ha,u,rfl,rfl⟩
theorem ZO4{n d:Nat}(ih: ∀(t:TypeId) (z:List V),eqZ P n t=some z-> ∀(c c':Value) (us vs:List V) (b:Bool) (w:World),Made P t us c->Made P t vs c'->fits z us=true->fits z vs=true->eqV us vs=some b->(Op.equalIn d t c c').run P w= .ok b w)
  {xs ys:Array Value} (w:World): ∀(fs:List Field) (off:Nat) (z us vs:List V) (b:Bool),eqFs P (eqZ P n) off fs=some z->xs.toList.drop off=us.map sv->ys.toList.drop off=vs.map sv->fits z us=true->fits z vs=true->eqV us vs=some b->
   (Op.eqFields d xs ys fs).run P w= .ok b w
 | [],off,z,us,vs,b,h,hx,hy,f1,f2,he=>by
  simp[eqFs]at h;subst h
  cases us<;>cases vs<;>simp[fits]at f1 f2
  simp[eqV]at he;subst he
  simp[Op.eqFields]
 | f::fs,off,z,us,vs,b,h,hx,hy,f1,f2,he=>by
  simp only[eqFs]at h
  cases hn:decide (f.name= "_")<;>simp only[hn,al_cond_true,al_cond_false]at h
  rotate_left
  ·cases h
  cases ho:Nat.beq f.offset off<;>simp only[ho,al_cond_true,al_cond_false]at h
  ·cases h
  simp only[al_bind_iff]at h
  obtain⟨z1,hz1,h⟩:=h
  cases hs:ZEP P f.type z1.length<;>simp only[hs,al_cond_true,al_cond_false]at h
  ·cases h
  simp only[Option.map_eq_some_iff]at h
  obtain⟨z2,hz2,rfl⟩:=h
  obtain⟨u1,u2,rfl,g1,g2⟩:=ZLB f1
  obtain⟨v1,v2,rfl,k1,k2⟩:=ZLB f2
  have l1:=ZLA g1
  have l2:=ZLA k1
  obtain⟨b1,b2,e1,e2,rfl⟩:=ZLC (by omega) he
  have hoff:=ZAb ho
  obtain⟨c,hc,mc⟩:=ZO3 hz1 (ZFy hs) hx l1 w
  obtain⟨c',hc',mc'⟩:=ZO3 hz1 (ZFy hs) hy l2 w
  have main:=ih f.type z1 hz1 c c' u1 v1 b1 w mc mc' g1 k1 e1
  have rest:=ZO4 ih w fs (off+z1.length) z2 u2 v2 b2 hz2 (by rw[<-List.drop_drop,hx,<-l1];simp) (by rw[<-List.drop_drop,hy,<-l2];simp) g2 k2 e2
  have hne:f.name≠ "_" :=of_decide_eq_false hn
  simp only[Op.eqFields,hne,ne_eq,not_false_eq_true,if_true,Sem.run_bind,hoff,hc,hc',Result.andThen_ok,main]
  cases b1 with
  | true=>simpa using rest
  | false=>simp
theorem ZO5: ∀(n:Nat) (t:TypeId) (z:List V),eqZ P n t=some z-> ∀(d:Nat),n<=d-> ∀(c c':Value) (us vs:List V) (b:Bool) (w:World),Made P t us c->Made P t vs c'->fits z us=true->fits z vs=true->eqV us vs=some b->(Op.equalIn d t c c').run P w= .ok b w
 | 0,t,z,h,_,_,_,_,_,_,_,_,_,_,_,_,_=>by simp[eqZ]at h
 | n+1,t,z,h,d,hd,c,c',us,vs,b,w,m1,m2,f1,f2,he=>by
  obtain⟨d,rfl⟩: ∃k,d=k+1:=⟨d-1,by omega⟩
  have one: ∀ {desc:TypeDesc} {us:List V} {c:Value},P.underlying t=some desc->aggD desc=false->Made P t us c-> ∃u,us=[u]/\c=sv u:=by
   intro desc us c hu ha ⟨ag,⟨d',hu',e⟩,m⟩
   rw[hu]at hu';cases hu'
   rw[ha]at e;subst e;exact m
  have agg: ∀ {desc:TypeDesc} {us:List V} {c:Value},P.underlying t=some desc->aggD desc=true->Made P t us c-> ∃xs:Array Value,c= .agg xs/\xs.toList=us.map sv:=by
   intro desc us c hu ha ⟨ag,⟨d',hu',e⟩,m⟩
   rw[hu]at hu';cases hu'
   rw[ha]at e;subst e;exact m
  unfold eqZ at h
  split at h<;>try (cases h;done)
  ·rename_i k hu
   cases h
   obtain⟨u,rfl,rfl⟩:=one hu rfl m1
   obtain⟨v,rfl,rfl⟩:=one hu rfl m2
   cases u<;>simp[fits]at f1
   cases v<;>simp[fits]at f2
   subst f1;subst f2
   simp[eqV]at he;subst he
   simp only[sv]
   rw[run_equalIn_int (k':=k) (h:=hu)]
   rfl
  ·rename_i hu
   cases h
   obtain⟨u,rfl,rfl⟩:=one hu rfl m1
   obtain⟨v,rfl,rfl⟩:=one hu rfl m2
   cases u<;>simp[fits]at f1
   cases v<;>simp[fits]at f2
   simp[eqV]at he;subst he
   simp only[sv]
   rw[run_equalIn_bool' (h:=hu)]
   rename_i x y;cases x<;>cases y<;>rfl
  ·rename_i hu
   cases h
   obtain⟨u,rfl,rfl⟩:=one hu rfl m1
   obtain⟨v,rfl,rfl⟩:=one hu rfl m2
   cases u<;>simp[fits]at f1
   cases v<;>simp[fits]at f2
   simp[eqV]at he;subst he
   simp only[sv]
   rw[run_equalIn_string (h:=hu),ByteArray.toList_eq,ByteArray.toList_eq]
   rename_i x y
   by_cases hxy:x=y<;>simp[hxy]
  ·rename_i fs hu
   cases hp:P.stoodInHeld t<;>simp only[hp,al_cond_true,al_cond_false]at h
   rotate_left
   ·cases h
   obtain⟨xs,rfl,hx⟩:=agg hu rfl m1
   obtain⟨ys,rfl,hy⟩:=agg hu rfl m2
   have hf:P.fieldsOf t=fs:=by simp[Program.fieldsOf,hu]
   rw[run_equalIn_struct w d t xs ys (by rw[hf];exact hu) hp,hf]
   exact ZO4 (λt z hz c c' us vs b w=>ZO5 n t z hz d (by omega) c c' us vs b w) w fs.toList 0 z us vs b h (by simpa using hx) (by simpa using hy) f1 f2 he
theorem ZUj{t:TypeId}{z zs:List V}(h:eqZ P 8 t=some z)(hz:fits z zs=true)(ha:ZCD P t true)(hg:P.eqGuardType P.depth t=false):ZKL P t zs:=by
 intro xs ys us vs b w hx hy f1 f2 he
 exact⟨ZO5 8 t z h Op.maxDepth (by simp[Op.maxDepth]) _ _ us vs b w ⟨true,ha,xs,rfl,hx⟩ ⟨true,ha,ys,rfl,hy⟩ (ZHL hz f1) (ZHL hz f2) he,λop x y=>run_eqGuard_agg w op t x y xs ys hg⟩
def ZO6(P:Program)(t:TypeId)(zs:List V):Bool:=match eqZ P 8 t with
 | some z=>fits z zs && aggB P t true && !P.eqGuardType P.depth t
 | none=>false
def ZIk(P:Program):Tab->Bool
 | []=>true
 | (t,ti)::r=>cond ti.flat (ZO6 P t ti.zero) true && ZIk P r
theorem ZO7: ∀ {T:Tab},ZIk P T=true-> ∀t ti,T.get t=some ti->ti.flat=true->ZKL P t ti.zero
 | [],_,t,ti,h,_=>by simp[Tab.get]at h
 | (i,x)::r,hb,t,ti,h,hf=>by
  simp only[ZIk,ZAJ]at hb
  simp only[Tab.get]at h
  cases he:Nat.beq i t<;>simp[he]at h
  ·exact ZO7 hb.2 t ti h hf
  ·subst h
   have:=ZAb he
   subst this
   have h1:=hb.1
   rw[hf,al_cond_true]at h1
   unfold ZO6 at h1
   split at h1
   ·rename_i z hz
    simp only[ZAJ,Bool.not_eq_true']at h1
    exact ZUj hz h1.1.1 (ZG4 h1.1.2) h1.2
   ·cases h1
theorem ZIl{T:Tab}(h:tabB P T=true)(k:ZIk P T=true):ZBW P T:=λt ti ht=>⟨ZNS h t ti ht,ZO7 k t ti ht⟩
end
abbrev ShD:=List Device×List Cue×List Gust×Int×Unit
abbrev CuD:=List Int×Int×Int×Unit
end Ev
end
end
noncomputable section
section
namespace Ev
open Go
theorem ZAC{n:Int}(h1: -9223372036854775808<=n:=by first | omega | (simp;omega))(h2:n<9223372036854775808:=by first | omega | (simp;omega)):w64 n=n:=by
 simp[w64,IntKind.wrap,IntKind.signed,IntKind.bits]
 split<;>omega
theorem ZBT{R:Type}{c:Prop}[Decidable c]{K:Option R}(h:c):okIf c K=K:=al_if_pos h
theorem ZAB{R:Type}{n:Nat}{K:Option R}(h:n<=1099511627776:=by first | omega | (simp;omega) | simp | decide):capK n K=K:=al_if_pos h
theorem ZAF{R α:Type}{l:List α}{i:Nat}{x:α}{K:α->Option R}(h:l[i]?=some x):rdL l (i:Int) K=K x:=by
 unfold rdL
 rw[al_if_pos]
 simp[h]
theorem ZIm{α:Type}{c:Prop}[Decidable c]{a b:α} :cond (decide c) a b=if c then a else b:=by
 by_cases h:c<;>simp[h]
theorem ZA{α:Type}{c:Prop}[Decidable c]{a b:α}(h:c:=by first | omega | (simp;omega) | simp | decide):cond (decide c) a b=a:=by rw[ZIm,al_if_pos h]
theorem ZAA{α:Type}{c:Prop}[Decidable c]{a b:α}(h: ¬c:=by first | omega | (simp;omega) | simp | decide):cond (decide c) a b=b:=by rw[ZIm,al_if_neg h]
theorem ZGC(a b:Int):mx a b=if a<b then b else a:=by
 unfold mx;simp only[gt_iff_lt]
theorem ZDy(a b:Int):mn a b=if b<a then b else a:=rfl
theorem ZAS{R T:Type}{f:T->(T->Option R)->(T->Option R)->Option R}{n:Nat}{t:T}{K:T->Option R} :ZAD f (n+1) t K=f t (λt=>ZAD f n t K) K:=rfl
theorem ZO8{R T:Type}{f g:T->(T->Option R)->(T->Option R)->Option R}{K K':T->Option R}(Inv:T->Prop)
  (h: ∀t rec rec',Inv t->(∀t',Inv t'->rec t'=rec' t')->f t rec K=g t rec' K'): ∀(n:Nat) (t:T),Inv t->ZAD f n t K=ZAD g n t K'
 | 0,t,_=>rfl
 | n+1,t,ht=>by
  rw[ZAS,ZAS]
  exact h t _ _ ht λt' ht'=>ZO8 Inv h n t' ht'
theorem ZO9{R T:Type}{f:T->(T->Option R)->(T->Option R)->Option R}{K:T->Option R}{n:Nat}{Inv:Nat->T->Prop}{Out:Option R->Prop}{Brk:T->Prop}
  (hs: ∀i t,i<n->Inv i t->(∃t',Inv (i+1) t'/\ ∀rec K,f t rec K=rec t')\/(∃r,Out r/\ ∀rec K,f t rec K=r)\/(∃t',Brk t'/\ ∀rec K,f t rec K=K t'))
  (he: ∀t,Inv n t->(∃r,Out r/\ ∀rec K,f t rec K=r)\/(∃t',Brk t'/\ ∀rec K,f t rec K=K t')): ∀(d i m:Nat) (t:T),i+d=n->d<m->Inv i t->
   (∃r,Out r/\ZAD f m t K=r)\/ ∃t',Brk t'/\ZAD f m t K=K t'
 | 0,i,m,t,hd,hm,inv=>by
  obtain⟨m,rfl⟩: ∃k,m=k+1:=⟨m-1,by omega⟩
  have:i=n:=by omega
  subst this
  rw[ZAS]
  rcases he t inv with ⟨r,hr,h⟩ | ⟨t',hb,h⟩
  ·exact .inl ⟨r,hr,h _ _⟩
  ·exact .inr ⟨t',hb,h _ _⟩
 | d+1,i,m,t,hd,hm,inv=>by
  obtain⟨m,rfl⟩: ∃k,m=k+1:=⟨m-1,by omega⟩
  rw[ZAS]
  rcases hs i t (by omega) inv with ⟨t',hi,h⟩ | ⟨r,hr,h⟩ | ⟨t',hb,h⟩
  ·rw[h]
   exact ZO9 hs he d (i+1) m t' (by omega) (by omega) hi
  ·exact .inl ⟨r,hr,h _ _⟩
  ·exact .inr ⟨t',hb,h _ _⟩
theorem ZHM{R T:Type}{f:T->(T->Option R)->(T->Option R)->Option R}{K:T->Option R}{t:T}(n:Nat)(Inv:Nat->T->Prop)(Out:Option R->Prop)(Brk:T->Prop)(hn:n<=18446744073709551616)(inv:Inv 0 t)
  (hs: ∀i t,i<n->Inv i t->(∃t',Inv (i+1) t'/\ ∀rec K,f t rec K=rec t')\/(∃r,Out r/\ ∀rec K,f t rec K=r)\/(∃t',Brk t'/\ ∀rec K,f t rec K=K t'))
  (he: ∀t,Inv n t->(∃r,Out r/\ ∀rec K,f t rec K=r)\/(∃t',Brk t'/\ ∀rec K,f t rec K=K t')):
   (∃r,Out r/\ZAD f fuel t K=r)\/ ∃t',Brk t'/\ZAD f fuel t K=K t':=
 ZO9 hs he n 0 fuel t (by omega) (by rw[ZBx];omega) inv
theorem ZFF{R T:Type}{f:T->(T->Option R)->(T->Option R)->Option R}{K:T->Option R}{t:T}(n:Nat)(Inv:Nat->T->Prop)(hn:n<=18446744073709551616)(inv:Inv 0 t)
  (hs: ∀i t,i<n->Inv i t-> ∃t',Inv (i+1) t'/\ ∀rec K,f t rec K=rec t') (he: ∀t,Inv n t-> ∀rec K,f t rec K=K t): ∃t',Inv n t'/\ZAD f fuel t K=K t':=by
 rcases ZHM (f:=f) (K:=K) n Inv (λ_=>False) (Inv n) hn inv (λi t hi h=> .inl (hs i t hi h)) (λt h=> .inr ⟨t,h,he t h⟩)with ⟨r,h,_⟩ | h
 ·exact h.elim
 ·exact h
end Ev
end
section
namespace Ev
open Go Go.RowKit
theorem ZUk{P:Program}{f:Nat}{e:Entry}(ok:OK P f e){av:List V}{res:V}{out:List Blk}(h:e.sem (V×List Blk) av [] (λv b=>some (v,b))=some (res,out)){w:World}(hg:Glob (λb=>b<w.heap.size) w){ca:Array Value}
  (hs:ca.size=av.length) (hv: ∀(i:Nat) v,av[i]?=some v-> ∃c,ca[i]?=some c/\RelA (λ_=>none) (λb=>b<w.heap.size) w v c):
  Calls P f ca w λen w'=> ∃c ρ F,en= .returned c/\RelT ρ F w' res c/\Below w.heap.size w w':=by
 obtain⟨res',out',hk,hE⟩:=ok.ent _ av [] _ _ h
 cases hk
 have no: ∀b,¬Rho.M (λ_=>none) b:=λb ⟨_,_,h,_⟩=>by cases h
 refine(hE w _ (λ_=>none) ca ⟨λid loc blk h=>(by cases h),λi j li lj b h=>(by cases h),λb hb=>⟨hb,no b⟩,hg⟩ (λid l h=>(by cases h)) hs hv).mono λen w' ⟨c,ρ1,F1,he,_,_,_,hr,hc,_,_⟩=> ?_
 exact⟨c,ρ1,F1,he,hr,hc.os,hc.tape,hc.output,hc.size,λk hk=>hc.block k hk (no k)⟩
theorem Zaq{P:Program}{f:Nat}{e:Entry}(ok:OK P f e){av:List V}{out:List Blk}(h:e.sem (V×List Blk) av [] (λv b=>some (v,b))=some (.bool true,out)){w:World}(hg:Glob (λb=>b<w.heap.size) w){ca:Array Value}
  (hs:ca.size=av.length) (hv: ∀(i:Nat) v,av[i]?=some v-> ∃c,ca[i]?=some c/\RelA (λ_=>none) (λb=>b<w.heap.size) w v c):
  Calls P f ca w λen w'=>en= .returned (.bool true)/\Below w.heap.size w w':=
 (ZUk ok h hg hs hv).mono λen w' ⟨c,ρ,F,he,hr,hb⟩=>⟨by rw[he];exact congrArg _ hr,hb⟩
theorem ZUl{w:World}{v:V}{c:Value}(h:RelA (λ_=>none) (λb=>b<w.heap.size) w v c):
  ∀(i:Nat) u,[v][i]?=some u-> ∃c', #[c][i]?=some c'/\RelA (λ_=>none) (λb=>b<w.heap.size) w u c':=by
 intro i u hu
 cases i with
 | zero=>simp at hu;subst hu;exact⟨c,rfl,h⟩
 | succ i=>simp at hu
theorem ZP{ps rs:List SP}{sh:Bool}{f:ZAL ps->Option (ZAL (muts ps++rs))}{av:List V}{a:ZAL ps}{x:ZAL (muts ps++rs)}(hd:decE ps av 0 []=some a)(hf:f a=some x):
  (mkE ps rs sh f).sem (V×List Blk) av [] (λv b=>some (v,b))=some (pack ((encF (muts ps++rs) x).drop (muts ps).length),(encB (muts ps++rs) x).map Prod.snd):=by
 simp[mkE,hd,hf]
def ZIn(w:World)(vs:List V)(cs:List Value):Prop:= ∀(i:Nat) u,vs[i]?=some u-> ∃c',cs[i]?=some c'/\RelA (λ_=>none) (λb=>b<w.heap.size) w u c'
theorem ZUm{w:World} :ZIn w [] []:=λi u h=>by simp at h
theorem ZPA{w:World}{v:V}{c:Value}{vs:List V}{cs:List Value}(h:RelA (λ_=>none) (λb=>b<w.heap.size) w v c)(k:ZIn w vs cs):ZIn w (v::vs) (c::cs):=by
 intro i u hu
 cases i with
 | zero=>simp at hu;subst hu;exact⟨c,rfl,h⟩
 | succ i=>simpa using k i u (by simpa using hu)
theorem ZUn{w:World}{vs:List V}{cs:List Value}(h:ZIn w vs cs): ∀(i:Nat) u,vs[i]?=some u-> ∃c',cs.toArray[i]?=some c'/\RelA (λ_=>none) (λb=>b<w.heap.size) w u c':=by
 intro i u hu
 obtain⟨c,hc,r⟩:=h i u hu
 exact⟨c,by simpa using hc,r⟩
end Ev
end
section
namespace Ev
open Go
theorem no_M(b:Nat): ¬Rho.M (λ_=>none) b:=λ⟨_,_,h,_⟩=>by cases h
theorem ZPB{ρ:Rho}{F:Nat->Prop}{w:World}{v:V}{c:Value}(hp:v.plain=true):RelA ρ F w v c↔c=sv v:=by
 rcases ZDa hp with ⟨k,n,rfl⟩ | ⟨b,rfl⟩ | ⟨s,rfl⟩<;>simp[RelA,RelC,RelB,sv]
theorem ZUo{ρ:Rho}{F:Nat->Prop}{w:World}{v:V}{c:Value}(hp:v.plain=true):RelT ρ F w v c↔c=sv v:=by
 rcases ZDa hp with ⟨k,n,rfl⟩ | ⟨b,rfl⟩ | ⟨s,rfl⟩<;>simp[RelT,RelA,RelC,RelB,sv]
theorem ZPC{ρ:Rho}{F:Nat->Prop}{w:World}{vs:List V}{ca:Array Value}(hs:ca.size=vs.length)(hp:allB V.plain vs=true)
  (h: ∀(i:Nat) v,vs[i]?=some v-> ∃c,ca[i]?=some c/\RelA ρ F w v c):ca=(vs.map sv).toArray:=by
 apply Array.ext_getElem?
 intro i
 cases hv:vs[i]? with
 | none=>
  have:vs.length<=i:=List.getElem?_eq_none_iff.mp hv
  rw[Array.getElem?_eq_none (by omega)]
  simp[hv]
 | some v=>
  obtain⟨c,hc,r⟩:=h i v hv
  rw[hc,(ZPB (ZCB hp v (al_mem_get hv))).1 r]
  simp[hv]
theorem ZLD{F:Nat->Prop}{w w':World}(hs: ∀b,F b->b<w.heap.size)(hg:Glob F w)(k:Chg (λ_=>False) w w'):Core (λ_=>none) F [] w':=
 ⟨λid loc blk h=>(by cases h),λi j li lj b h=>(by cases h),λb hb=>⟨Nat.lt_of_lt_of_le (hs b hb) k.size,no_M b⟩,hg.keep (λ_ h=>h) λb hb=>k.block b (hs b hb) (λe=>e)⟩
theorem ZUp{ρ:Rho}{F:Nat->Prop}{w:World}{vs:List V}{cs:List Value}(hl:cs.length=vs.length)
  (h: ∀(i:Nat) v,vs[i]?=some v-> ∃c,cs[i]?=some c/\RelT ρ F w v c/\RelA ρ F w v c):RelT ρ F w (pack vs) (ZEZ cs):=
 ZO1 hl.symm λi c hc=>by
  have hi:i<vs.length:=by have:=(al_get_iff.mp hc).1;omega
  obtain⟨c',hc',r⟩:=h i vs[i] (by simp[hi])
  rw[hc]at hc';cases hc'
  exact⟨vs[i],by simp[hi],r⟩
theorem ZGD{P:Program}{f:Nat}{fn:Func}{ps rs:List SP}{sh:Bool}{G:ZAL ps->Option (ZAL (muts ps++rs))}(hf:P.funcs[f]?=some fn)(hb:fn.body.isNone=false)(hn:fn.name≠ "runtime.NumGoroutine")
  (hk: ∀a,encB ps a=[])
  (h: ∀a x,G a=some x-> ∀w F,Glob F w->(∀b,F b->b<w.heap.size)-> ∀ca:Array Value,ca.size=(encF ps a).length->(∀(i:Nat) v,(encF ps a)[i]?=some v-> ∃c,ca[i]?=some c/\RelA (λ_=>none) F w v c)->
   Calls P f ca w λen w'=> ∃c ρ1,en= .returned c/\Core ρ1 F (ZBA 0 ((encB (muts ps++rs) x).map Prod.snd)) w'/\(∀id l,ρ1 id=some l->id<((encB (muts ps++rs) x).map Prod.snd).length)/\
    RelT ρ1 F w' (pack ((encF (muts ps++rs) x).drop (muts ps).length)) c/\Chg (λ_=>False) w w'/\(∀b,ρ1.M b->w.heap.size<=b)):OK P f (mkE ps rs sh G):=by
 refine⟨λR av bs K r hs=> ?_,fn,hf,hb,hn⟩
 simp only[mkE,al_bind_iff]at hs
 obtain⟨a,h1,x,h2,hs⟩:=hs
 obtain⟨e1,e2,_⟩:=ZOx h1
 have hbs:bs=[]:=by
  rw[hk a]at e2
  cases bs with
  | nil=>rfl
  | cons b bs=>simp[ZBA]at e2
 subst hbs
 refine⟨_,_,hs,?_⟩
 intro w F0 ρ0 ca HC hid hsz hv
 have hρ:ρ0=λ_=>none:=by
  funext id
  cases hx:ρ0 id with
  | none=>rfl
  | some l=>exact absurd (hid id l hx) (by simp)
 subst hρ
 rw[e1]at hsz hv
 refine(h a x h2 w F0 HC.glob (λb hb=>(HC.stable b hb).1) ca hsz hv).mono ?_
 rintro en w' ⟨c,ρ1,he,hc,hd,hr,hk,hm⟩
 exact⟨c,ρ1,F0,he,hc,λid l hx=>(by cases hx),hd,hr,hk.mono λ_ h=>h.elim,λb hb=> .inr (hm b hb),λb hb=> .inl hb⟩
theorem ZIo{P:Program}{f:Nat}{fn:Func}{ps rs:List SP}{sh:Bool}{G:ZAL ps->Option (ZAL (muts ps++rs))}(hf:P.funcs[f]?=some fn)(hb:fn.body.isNone=false)(hn:fn.name≠ "runtime.NumGoroutine")
  (hk: ∀a,encB ps a=[]) (hp: ∀a,allB V.plain (encF ps a)=true) (hr: ∀x,encB (muts ps++rs) x=[]/\allB V.plain ((encF (muts ps++rs) x).drop (muts ps).length)=true)
  (h: ∀a x,G a=some x-> ∀w F,Glob F w->(∀b,F b->b<w.heap.size)->
   Calls P f ((encF ps a).map sv).toArray w λen w'=>en= .returned (ZEZ (((encF (muts ps++rs) x).drop (muts ps).length).map sv))/\Chg (λ_=>False) w w'):OK P f (mkE ps rs sh G):=by
 refine ZGD hf hb hn hk λa x hx w F hg hs ca hsz hv=> ?_
 rw[ZPC hsz (hp a) hv]
 refine(h a x hx w F hg hs).mono ?_
 rintro en w' ⟨rfl,k⟩
 obtain⟨h1,h2⟩:=hr x
 refine⟨_,λ_=>none,rfl,by rw[h1];exact ZLD hs hg k,λid l h=>(by cases h),?_,k,λb hb=>(no_M b hb).elim⟩
 refine ZUp (List.length_map _) λi v hv=> ?_
 have hp:=ZCB h2 v (al_mem_get hv)
 exact⟨sv v,by rw[List.getElem?_map,hv];rfl,(ZUo hp).2 rfl,(ZPB hp).2 rfl⟩
structure Fresh(τ:Ty)(w w':World)(l:List τ.den)(a:Option Addr)(cap:Nat):Prop where
 len:l.length<=cap
 at_:cap=0\/ ∃b s arr,a=some ⟨b,s,none⟩/\w.heap.size<=b/\RowB w' b arr/\s+cap*τ.width<=arr.size/\At w' b s (flat τ l)
theorem Fresh.core{τ:Ty}{w w':World}{l:List τ.den}{a:Option Addr}{cap:Nat}(H:Fresh τ w w' l a cap){F:Nat->Prop}(hs: ∀b,F b->b<w.heap.size)(hg:Glob F w)(k:Chg (λ_=>False) w w'):
  Core (Rho.set (λ_=>none) 0 (.row τ a l.length cap)) F (ZBA 0 [.rows τ l]) w'/\(∀id x,Rho.set (λ_=>none) 0 (.row τ a l.length cap) id=some x->id<1)/\
   RelT (Rho.set (λ_=>none) 0 (.row τ a l.length cap)) F w' (.own 0) (.slice a l.length cap)/\RelA (Rho.set (λ_=>none) 0 (.row τ a l.length cap)) F w' (.own 0) (.slice a l.length cap)/\ ∀b,(Rho.set (λ_=>none) 0 (.row τ a l.length cap)).M b->w.heap.size<=b:=by
 have hid: ∀id x,Rho.set (λ_=>none) 0 (.row τ a l.length cap) id=some x->id=0/\x= .row τ a l.length cap:=by
  intro id x h
  by_cases e:id=0
  ·subst e;rw[Rho.set_same]at h;cases h;exact⟨rfl,rfl⟩
  ·rw[Rho.set_other _ _ e]at h;cases h
 have hM: ∀b,(Rho.set (λ_=>none) 0 (.row τ a l.length cap)).M b->w.heap.size<=b:=by
  rintro b ⟨id,x,h,hb⟩
  obtain⟨_,rfl⟩:=hid id x h
  rcases H.at_ with h0 | ⟨b',s,arr,rfl,hb',_⟩
  ·subst h0;cases a<;>simp[Loc.block]at hb
  ·simp only[Loc.block]at hb
   split at hb
   ·cases hb
   ·cases hb;exact hb'
 refine⟨⟨λid loc blk h1 h2=> ?_,λi j li lj b h1 h2 _ _=>(hid i li h1).1.trans (hid j lj h2).1.symm,λb hb=>⟨Nat.lt_of_lt_of_le (hs b hb) k.size,λh=> ?_⟩,hg.keep (λ_ h=>h) λb hb=>k.block b (hs b hb) (λe=>e)⟩,
  λid x h=>(by rw[(hid id x h).1];omega),⟨τ,a,_,cap,Rho.set_same _ _ _,rfl⟩,⟨τ,a,_,cap,Rho.set_same _ _ _,rfl⟩,hM⟩
 ·obtain⟨rfl,rfl⟩:=hid id loc h1
  simp[ZBA,look]at h2
  subst h2
  refine⟨rfl,rfl,H.len,H.at_.imp id ?_⟩
  rintro ⟨b,s,arr,e,_,h3,h4,h5⟩
  exact⟨b,s,arr,e,h3,h4,h5⟩
 ·have:=hM b h
  have:=hs b hb
  omega
end Ev
end
section
namespace Ev
open Go
inductive CK | int (k:IntKind) | bool | str | sl (τ:Ty)
 deriving DecidableEq
def Ty.kinds:Ty->List CK
 | .int=>[.int .i64] | .u8=>[.int .u8] | .bool=>[.bool] | .str=>[.str]
 | .place=>[.int .i64,.int .i64] | .box=>[.int .i64,.int .i64,.int .i64,.int .i64]
 | .jet=>[.int .i64,.int .i64,.int .i64,.int .i64,.int .i64] | .gust=>[.int .i64,.int .i64,.int .i64]
 | .device=>[.str,.int .i64,.str,.int .i64,.int .i64,.int .i64,.int .i64,.int .i64]
 | .cue=>[.int .i64,.str,.int .i64,.int .i64] | .run=>[.int .i64,.int .i64]
 | .block=>[.int .i64,.int .i64,.int .i64,.int .i64,.int .i64,.int .i64,.int .i64,.int .i64]
 | .drop=>[.str,.int .i64,.int .i64,.int .i64,.int .i64]
 | .throw=>[.str,.int .i64,.int .i64,.int .i64,.int .i64,.int .i64,.int .i64]
def V.wf:V->Prop
 | .int k n=>k.min<=n/\n<=k.max
 | .str s=>s.length<=maxLen
 | _=>True
def Wf(τ:Ty)(d:τ.den):Prop:= ∀v∈τ.cells d,v.wf
def KOK(w:World):CK->Value->Prop
 | .int k,c=> ∃n,c= .int k n/\k.min<=n/\n<=k.max
 | .bool,c=> ∃b,c= .bool b
 | .str,c=> ∃s:Str,c= .string ⟨⟨s⟩⟩/\s.length<=maxLen
 | .sl τ,c=> ∃l:List τ.den,RelB (λ_=>none) (λb=>b<w.heap.size) w (.lst τ l) c/\(∀d∈l,Wf τ d)/\l.length<=maxLen
def ZBo(w:World):List CK->List Value->Prop
 | [],[]=>True
 | k::ks,c::cs=>KOK w k c/\ZBo w ks cs
 | _,_=>False
theorem ZBo.append{w:World} : ∀ {a b:List CK} {x y:List Value},ZBo w a x->ZBo w b y->ZBo w (a++b) (x++y)
 | [],b,[],y,_,h=>h
 | k::a,b,c::x,y,h,g=>⟨h.1,ZBo.append h.2 g⟩
 | [],_,_::_,_,h,_=>h.elim
 | _::_,_,[],_,h,_=>h.elim
theorem ZAY{w:World}{k:CK}{ks:List CK}{cs:List Value}(h:ZBo w (k::ks) cs): ∃c r,cs=c::r/\KOK w k c/\ZBo w ks r:=by
 cases cs with
 | nil=>exact h.elim
 | cons c r=>exact⟨c,r,rfl,h.1,h.2⟩
theorem ZCb{w:World}{cs:List Value}(h:ZBo w [] cs):cs=[]:=by
 cases cs with
 | nil=>rfl
 | cons c r=>exact h.elim
theorem ZUq{w:World}(τ:Ty){cs:List Value}(h:ZBo w τ.kinds cs): ∃d:τ.den,cs=(τ.cells d).map sv/\Wf τ d:=by
 cases τ with
 | int=>
  simp only[Ty.kinds]at h
  have h0:=h
  clear h
  obtain⟨c0,r0,e0,hc0,h1⟩:=ZAY h0
  subst e0
  obtain⟨x0,rfl,w0⟩:=hc0
  cases ZCb h1
  refine⟨x0,rfl,λv hv=> ?_⟩
  simp only[Ty.cells,List.mem_cons,List.not_mem_nil,or_false]at hv
  subst hv;exact w0
 | u8=>
  simp only[Ty.kinds]at h
  have h0:=h
  clear h
  obtain⟨c0,r0,e0,hc0,h1⟩:=ZAY h0
  subst e0
  obtain⟨x0,rfl,w0⟩:=hc0
  cases ZCb h1
  refine⟨x0,rfl,λv hv=> ?_⟩
  simp only[Ty.cells,List.mem_cons,List.not_mem_nil,or_false]at hv
  subst hv;exact w0
 | bool=>
  simp only[Ty.kinds]at h
  have h0:=h
  clear h
  obtain⟨c0,r0,e0,hc0,h1⟩:=ZAY h0
  subst e0
  obtain⟨x0,rfl⟩:=hc0
  cases ZCb h1
  refine⟨x0,rfl,λv hv=> ?_⟩
  simp only[Ty.cells,List.mem_cons,List.not_mem_nil,or_false]at hv
  subst hv;exact trivial
 | str=>
  simp only[Ty.kinds]at h
  have h0:=h
  clear h
  obtain⟨c0,r0,e0,hc0,h1⟩:=ZAY h0
  subst e0
  obtain⟨x0,rfl,w0⟩:=hc0
  cases ZCb h1
  refine⟨x0,rfl,λv hv=> ?_⟩
  simp only[Ty.cells,List.mem_cons,List.not_mem_nil,or_false]at hv
  subst hv;exact w0
 | place=>
  simp only[Ty.kinds]at h
  have h0:=h
  clear h
  obtain⟨c0,r0,e0,hc0,h1⟩:=ZAY h0
  subst e0
  obtain⟨x0,rfl,w0⟩:=hc0
  obtain⟨c1,r1,e1,hc1,h2⟩:=ZAY h1
  subst e1
  obtain⟨x1,rfl,w1⟩:=hc1
  cases ZCb h2
  refine⟨⟨x0,x1⟩,rfl,λv hv=> ?_⟩
  simp only[Ty.cells,List.mem_cons,List.not_mem_nil,or_false]at hv
  rcases hv with rfl | rfl<;>assumption
 | box=>
  simp only[Ty.kinds]at h
  have h0:=h
  clear h
  obtain⟨c0,r0,e0,hc0,h1⟩:=ZAY h0
  subst e0
  obtain⟨x0,rfl,w0⟩:=hc0
  obtain⟨c1,r1,e1,hc1,h2⟩:=ZAY h1
  subst e1
  obtain⟨x1,rfl,w1⟩:=hc1
  obtain⟨c2,r2,e2,hc2,h3⟩:=ZAY h2
  subst e2
  obtain⟨x2,rfl,w2⟩:=hc2
  obtain⟨c3,r3,e3,hc3,h4⟩:=ZAY h3
  subst e3
  obtain⟨x3,rfl,w3⟩:=hc3
  cases ZCb h4
  refine⟨⟨⟨x0,x1⟩,⟨x2,x3⟩⟩,rfl,λv hv=> ?_⟩
  simp only[Ty.cells,List.mem_cons,List.not_mem_nil,or_false]at hv
  rcases hv with rfl | rfl | rfl | rfl<;>assumption
 | jet=>
  simp only[Ty.kinds]at h
  have h0:=h
  clear h
  obtain⟨c0,r0,e0,hc0,h1⟩:=ZAY h0
  subst e0
  obtain⟨x0,rfl,w0⟩:=hc0
  obtain⟨c1,r1,e1,hc1,h2⟩:=ZAY h1
  subst e1
  obtain⟨x1,rfl,w1⟩:=hc1
  obtain⟨c2,r2,e2,hc2,h3⟩:=ZAY h2
  subst e2
  obtain⟨x2,rfl,w2⟩:=hc2
  obtain⟨c3,r3,e3,hc3,h4⟩:=ZAY h3
  subst e3
  obtain⟨x3,rfl,w3⟩:=hc3
  obtain⟨c4,r4,e4,hc4,h5⟩:=ZAY h4
  subst e4
  obtain⟨x4,rfl,w4⟩:=hc4
  cases ZCb h5
  refine⟨⟨⟨x0,x1⟩,x2,x3,x4⟩,rfl,λv hv=> ?_⟩
  simp only[Ty.cells,List.mem_cons,List.not_mem_nil,or_false]at hv
  rcases hv with rfl | rfl | rfl | rfl | rfl<;>assumption
 | gust=>
  simp only[Ty.kinds]at h
  have h0:=h
  clear h
  obtain⟨c0,r0,e0,hc0,h1⟩:=ZAY h0
  subst e0
  obtain⟨x0,rfl,w0⟩:=hc0
  obtain⟨c1,r1,e1,hc1,h2⟩:=ZAY h1
  subst e1
  obtain⟨x1,rfl,w1⟩:=hc1
  obtain⟨c2,r2,e2,hc2,h3⟩:=ZAY h2
  subst e2
  obtain⟨x2,rfl,w2⟩:=hc2
  cases ZCb h3
  refine⟨⟨x0,⟨x1,x2⟩⟩,rfl,λv hv=> ?_⟩
  simp only[Ty.cells,List.mem_cons,List.not_mem_nil,or_false]at hv
  rcases hv with rfl | rfl | rfl<;>assumption
 | device=>
  simp only[Ty.kinds]at h
  have h0:=h
  clear h
  obtain⟨c0,r0,e0,hc0,h1⟩:=ZAY h0
  subst e0
  obtain⟨x0,rfl,w0⟩:=hc0
  obtain⟨c1,r1,e1,hc1,h2⟩:=ZAY h1
  subst e1
  obtain⟨x1,rfl,w1⟩:=hc1
  obtain⟨c2,r2,e2,hc2,h3⟩:=ZAY h2
  subst e2
  obtain⟨x2,rfl,w2⟩:=hc2
  obtain⟨c3,r3,e3,hc3,h4⟩:=ZAY h3
  subst e3
  obtain⟨x3,rfl,w3⟩:=hc3
  obtain⟨c4,r4,e4,hc4,h5⟩:=ZAY h4
  subst e4
  obtain⟨x4,rfl,w4⟩:=hc4
  obtain⟨c5,r5,e5,hc5,h6⟩:=ZAY h5
  subst e5
  obtain⟨x5,rfl,w5⟩:=hc5
  obtain⟨c6,r6,e6,hc6,h7⟩:=ZAY h6
  subst e6
  obtain⟨x6,rfl,w6⟩:=hc6
  obtain⟨c7,r7,e7,hc7,h8⟩:=ZAY h7
  subst e7
  obtain⟨x7,rfl,w7⟩:=hc7
  cases ZCb h8
  refine⟨⟨x0,x1,x2,⟨x3,x4⟩,x5,x6,x7⟩,rfl,λv hv=> ?_⟩
  simp only[Ty.cells,List.mem_cons,List.not_mem_nil,or_false]at hv
  rcases hv with rfl | rfl | rfl | rfl | rfl | rfl | rfl | rfl<;>assumption
 | cue=>
  simp only[Ty.kinds]at h
  have h0:=h
  clear h
  obtain⟨c0,r0,e0,hc0,h1⟩:=ZAY h0
  subst e0
  obtain⟨x0,rfl,w0⟩:=hc0
  obtain⟨c1,r1,e1,hc1,h2⟩:=ZAY h1
  subst e1
  obtain⟨x1,rfl,w1⟩:=hc1
  obtain⟨c2,r2,e2,hc2,h3⟩:=ZAY h2
  subst e2
  obtain⟨x2,rfl,w2⟩:=hc2
  obtain⟨c3,r3,e3,hc3,h4⟩:=ZAY h3
  subst e3
  obtain⟨x3,rfl,w3⟩:=hc3
  cases ZCb h4
  refine⟨⟨x0,x1,x2,x3⟩,rfl,λv hv=> ?_⟩
  simp only[Ty.cells,List.mem_cons,List.not_mem_nil,or_false]at hv
  rcases hv with rfl | rfl | rfl | rfl<;>assumption
 | run=>
  simp only[Ty.kinds]at h
  have h0:=h
  clear h
  obtain⟨c0,r0,e0,hc0,h1⟩:=ZAY h0
  subst e0
  obtain⟨x0,rfl,w0⟩:=hc0
  obtain⟨c1,r1,e1,hc1,h2⟩:=ZAY h1
  subst e1
  obtain⟨x1,rfl,w1⟩:=hc1
  cases ZCb h2
  refine⟨⟨x0,x1⟩,rfl,λv hv=> ?_⟩
  simp only[Ty.cells,List.mem_cons,List.not_mem_nil,or_false]at hv
  rcases hv with rfl | rfl<;>assumption
 | block=>
  simp only[Ty.kinds]at h
  have h0:=h
  clear h
  obtain⟨c0,r0,e0,hc0,h1⟩:=ZAY h0
  subst e0
  obtain⟨x0,rfl,w0⟩:=hc0
  obtain⟨c1,r1,e1,hc1,h2⟩:=ZAY h1
  subst e1
  obtain⟨x1,rfl,w1⟩:=hc1
  obtain⟨c2,r2,e2,hc2,h3⟩:=ZAY h2
  subst e2
  obtain⟨x2,rfl,w2⟩:=hc2
  obtain⟨c3,r3,e3,hc3,h4⟩:=ZAY h3
  subst e3
  obtain⟨x3,rfl,w3⟩:=hc3
  obtain⟨c4,r4,e4,hc4,h5⟩:=ZAY h4
  subst e4
  obtain⟨x4,rfl,w4⟩:=hc4
  obtain⟨c5,r5,e5,hc5,h6⟩:=ZAY h5
  subst e5
  obtain⟨x5,rfl,w5⟩:=hc5
  obtain⟨c6,r6,e6,hc6,h7⟩:=ZAY h6
  subst e6
  obtain⟨x6,rfl,w6⟩:=hc6
  obtain⟨c7,r7,e7,hc7,h8⟩:=ZAY h7
  subst e7
  obtain⟨x7,rfl,w7⟩:=hc7
  cases ZCb h8
  refine⟨⟨x0,x1,x2,x3,x4,x5,x6,x7⟩,rfl,λv hv=> ?_⟩
  simp only[Ty.cells,List.mem_cons,List.not_mem_nil,or_false]at hv
  rcases hv with rfl | rfl | rfl | rfl | rfl | rfl | rfl | rfl<;>assumption
 | drop=>
  simp only[Ty.kinds]at h
  have h0:=h
  clear h
  obtain⟨c0,r0,e0,hc0,h1⟩:=ZAY h0
  subst e0
  obtain⟨x0,rfl,w0⟩:=hc0
  obtain⟨c1,r1,e1,hc1,h2⟩:=ZAY h1
  subst e1
  obtain⟨x1,rfl,w1⟩:=hc1
  obtain⟨c2,r2,e2,hc2,h3⟩:=ZAY h2
  subst e2
  obtain⟨x2,rfl,w2⟩:=hc2
  obtain⟨c3,r3,e3,hc3,h4⟩:=ZAY h3
  subst e3
  obtain⟨x3,rfl,w3⟩:=hc3
  obtain⟨c4,r4,e4,hc4,h5⟩:=ZAY h4
  subst e4
  obtain⟨x4,rfl,w4⟩:=hc4
  cases ZCb h5
  refine⟨⟨x0,x1,⟨x2,x3⟩,x4⟩,rfl,λv hv=> ?_⟩
  simp only[Ty.cells,List.mem_cons,List.not_mem_nil,or_false]at hv
  rcases hv with rfl | rfl | rfl | rfl | rfl<;>assumption
 | throw=>
  simp only[Ty.kinds]at h
  have h0:=h
  clear h
  obtain⟨c0,r0,e0,hc0,h1⟩:=ZAY h0
  subst e0
  obtain⟨x0,rfl,w0⟩:=hc0
  obtain⟨c1,r1,e1,hc1,h2⟩:=ZAY h1
  subst e1
  obtain⟨x1,rfl,w1⟩:=hc1
  obtain⟨c2,r2,e2,hc2,h3⟩:=ZAY h2
  subst e2
  obtain⟨x2,rfl,w2⟩:=hc2
  obtain⟨c3,r3,e3,hc3,h4⟩:=ZAY h3
  subst e3
  obtain⟨x3,rfl,w3⟩:=hc3
  obtain⟨c4,r4,e4,hc4,h5⟩:=ZAY h4
  subst e4
  obtain⟨x4,rfl,w4⟩:=hc4
  obtain⟨c5,r5,e5,hc5,h6⟩:=ZAY h5
  subst e5
  obtain⟨x5,rfl,w5⟩:=hc5
  obtain⟨c6,r6,e6,hc6,h7⟩:=ZAY h6
  subst e6
  obtain⟨x6,rfl,w6⟩:=hc6
  cases ZCb h7
  refine⟨⟨x0,x1,⟨⟨x2,x3⟩,x4,x5,x6⟩⟩,rfl,λv hv=> ?_⟩
  simp only[Ty.cells,List.mem_cons,List.not_mem_nil,or_false]at hv
  rcases hv with rfl | rfl | rfl | rfl | rfl | rfl | rfl<;>assumption
theorem pick{α:Type}{p:Nat->α->Prop} : ∀(len:Nat),(∀i,i<len-> ∃d,p i d)-> ∃ds:List α,ds.length=len/\ ∀(i:Nat) d,ds[i]?=some d->p i d
 | 0,_=>⟨[],rfl,λi d h=>by simp at h⟩
 | k+1,each=>by
  obtain⟨ds,h1,h2⟩:=pick k λi hi=>each i (by omega)
  obtain⟨d,h3⟩:=each k (by omega)
  refine⟨ds++[d],by simp[h1],λi d' hd=> ?_⟩
  by_cases hi:i<ds.length
  ·rw[List.getElem?_append_left hi]at hd;exact h2 i d' hd
  ·have hi':i=ds.length:=by
    have:=(al_get_iff.mp hd).1
    simp at this;omega
   subst hi'
   simp at hd;subst hd
   rw[h1];exact h3
def ZHN(P:Program)(rec:TypeId->Option (List CK)):Nat->List Field->Option (List CK)
 | _,[]=>some []
 | off,f::fs=>cond (Nat.beq f.offset off) ((rec f.type).bind λks=>cond (Nat.beq (P.cellsOf f.type) ks.length) ((ZHN P rec (off+ks.length) fs).map λr=>ks++r) none) none
def ZEa:Nat->List CK->List CK
 | 0,_=>[]
 | n+1,ks=>ks++ZEa n ks
def ZDN(P:Program)(se:TypeId->Option Ty):Nat->TypeId->Option (List CK)
 | 0,_=>none
 | n+1,t=>match P.underlying t with
  | some (.int k)=>some [.int k]
  | some .bool=>some [.bool]
  | some .string=>some [.str]
  | some (.slice e)=>(se e).map λτ=>[.sl τ]
  | some (.struct fs)=>(ZHN P (ZDN P se n) 0 fs.toList).bind λks=>cond (Nat.beq (P.cellsOf t) ks.length) (some ks) none
  | some (.array m e)=>(ZDN P se n e).bind λks=>cond (Nat.beq (P.cellsOf e) ks.length && Nat.beq (P.cellsOf t) (ZEa m ks).length) (some (ZEa m ks)) none
  | _=>none
section
variable {H:Type} {enc:TypeId×Value->H} {P:Program} {w:World} {base:Nat} {spare:Nat->Bool} {held:Bool}
theorem ZPD{se:TypeId->Option Ty}{n:Nat}(ih: ∀(t:TypeId) (ks:List CK) (fuel:Nat) (cs:List Value) (x:DataW H×List MemPlace),ZDN P se n t=some ks->DataW.trod enc P w base spare held fuel t cs=some x->ZBo w ks cs):
  ∀(fs:List Field) (off:Nat) (ks:List CK) (cs:List Value) (fuel:Nat),ZHN P (ZDN P se n) off fs=some ks->cs.length=off+ks.length->
   (∀f∈fs,∃x,DataW.trod enc P w base spare held fuel f.type ((cs.drop f.offset).take (P.cellsOf f.type))=some x)->ZBo w ks (cs.drop off)
 | [],off,ks,cs,fuel,h,hl,_=>by
  simp[ZHN]at h;subst h
  simp at hl
  rw[List.drop_eq_nil_of_le (by omega)];trivial
 | f::fs,off,ks,cs,fuel,h,hl,hf=>by
  simp only[ZHN]at h
  cases hb:Nat.beq f.offset off<;>simp only[hb,al_cond_true,al_cond_false]at h
  ·cases h
  have ho:=ZAb hb
  simp only[al_bind_iff]at h
  obtain⟨k1,h1,h⟩:=h
  cases hb2:Nat.beq (P.cellsOf f.type) k1.length<;>simp only[hb2,al_cond_true,al_cond_false]at h
  ·cases h
  have hc:=ZAb hb2
  simp only[Option.map_eq_some_iff]at h
  obtain⟨k2,h2,h⟩:=h
  subst h
  simp only[al_len_append]at hl
  obtain⟨x,hx⟩:=hf f (by simp)
  have a:=ih f.type k1 fuel _ x h1 hx
  have b:=ZPD ih fs (off+k1.length) k2 cs fuel h2 (by omega) λg hg=>hf g (by simp[hg])
  rw[ho,hc]at a
  have e:cs.drop off=(cs.drop off).take k1.length++cs.drop (off+k1.length):=by
   rw[<-List.drop_drop,List.take_append_drop]
  rw[e]
  exact a.append b
theorem ZPE{w:World}{ks:List CK}{c:Nat}(hc:c=ks.length): ∀(m:Nat) (cs:List Value),cs.length=(ZEa m ks).length->(∀i,i<m->ZBo w ks ((cs.drop (i*c)).take c))->ZBo w (ZEa m ks) cs
 | 0,cs,hl,_=>by simp[ZEa]at hl;subst hl;trivial
 | m+1,cs,hl,h=>by
  simp only[ZEa,al_len_append]at hl⊢
  have a:=h 0 (by omega)
  rw[Nat.zero_mul,List.drop_zero]at a
  have b:=ZPE hc m (cs.drop c) (by simp;omega) λi hi=>by
   have:=h (i+1) (by omega)
   rw[List.drop_drop,show c+i*c=(i+1)*c by rw[Nat.add_mul,Nat.one_mul,Nat.add_comm]]
   exact this
  have:=a.append b
  rwa[List.take_append_drop]at this
def SeOK(P:Program)(se:TypeId->Option Ty):Prop:= ∀e τ,se e=some τ->ZDN P (λ_=>none) 6 e=some τ.kinds/\P.cellsOf e=τ.width
theorem ZPF(τ:Ty): ∀(ds:List τ.den) (i:Nat) (v:Value),(flat τ ds)[i]?=some v-> ∃d,ds[i/τ.width]?=some d/\((τ.cells d).map sv)[i % τ.width]?=some v
 | [],i,v,h=>by simp[ZDs]at h
 | d::ds,i,v,h=>by
  rw[ZCP]at h
  have hw:=ZF1 τ
  by_cases hi:i<τ.width
  ·rw[List.getElem?_append_left (by simp[ZBb,hi])]at h
   rw[Nat.div_eq_of_lt hi,Nat.mod_eq_of_lt hi]
   exact⟨d,rfl,h⟩
  ·rw[List.getElem?_append_right (by simp[ZBb];omega)]at h
   obtain⟨d',h1,h2⟩:=ZPF τ ds (i-τ.width) v (by simpa[ZBb]using h)
   have e:i=i-τ.width+τ.width:=by omega
   refine⟨d',?_,?_⟩
   ·rw[e,Nat.add_div_right _ hw];exact h1
   ·rw[e,Nat.add_mod_right];exact h2
theorem ZUr{e:TypeId}{τ:Ty}(hk: ∀(fuel:Nat) (cs:List Value) (x:DataW H×List MemPlace),DataW.trod enc P w base spare held fuel e cs=some x->ZBo w τ.kinds cs)(hc:P.cellsOf e=τ.width)
  {t:TypeId} (ht:P.underlying t=some (.slice e)) {fuel:Nat} {cs:List Value} {x:DataW H×List MemPlace} (h:DataW.trod enc P w base spare held fuel t cs=some x):ZBo w [.sl τ] cs:=by
 rcases DataW.trod_slice ht h with ⟨rfl,_⟩ | ⟨a,len,cap,elems,rest,n,_,rfl,_,_,hl,hm,hlen,hel,_⟩
 ·exact⟨⟨[],⟨none,0,rfl,Nat.le_refl _,.inl rfl⟩,λd hd=>by simp at hd,by simp⟩,trivial⟩
 ·refine⟨?_,trivial⟩
  have each: ∀i,i<len-> ∃d:τ.den,Wf τ d/\ ∀j v,((τ.cells d).map sv)[j]?=some v->w.cell? ((a.add (i*τ.width)).add j)=some v:=by
   intro i hi
   have:=hel i hi
   rw[al_get_get (by omega)]at this
   simp only[al_bind_iff]at this
   obtain⟨cs',h1,h2⟩:=this
   rw[hc]at h1
   obtain⟨d,hd,hw⟩:=ZUq τ (hk _ _ _ h2)
   refine⟨d,hw,λj v hv=> ?_⟩
   obtain⟨_,g2,g3⟩:=World.cells?_some h1
   have hj:j<cs'.length:=by rw[hd];exact(al_get_iff.mp hv).1
   have:=g3 j (by omega)
   rw[this,hd,hv]
  obtain⟨ds,hdl,hds⟩:=pick len each
  refine⟨ds,⟨some a,cap,by rw[hdl],by omega,?_⟩,λd hd=> ?_,by omega⟩
  ·by_cases h0:ds=[]
   ·exact .inl h0
   ·right
    have hpos:0<ds.length:=List.length_pos_iff.mpr h0
    have hw:=ZF1 τ
    obtain⟨_,g⟩:=hds 0 ds[0] (by simp)
    have hcl:0<((τ.cells ds[0]).map sv).length:=by simp[ZBb];exact hw
    have h1:=g 0 _ (al_get_get hcl)
    have h1':w.cell? a=some ((τ.cells ds[0]).map sv)[0]:=by simpa[Addr.add]using h1
    have hsp:a.spot=none:=by
     unfold World.cell? at h1'
     cases hs:a.spot with
     | none=>rfl
     | some k=>simp[hs]at h1';split at h1'<;>simp at h1'
    have hb:a.block<w.heap.size:=by
     unfold World.cell? at h1'
     rcases Nat.lt_or_ge a.block w.heap.size with h | h
     ·exact h
     ·simp[Array.getElem?_eq_none h]at h1'
    obtain⟨b,s,sp⟩:=a
    simp only at hsp hb;subst hsp
    refine⟨b,s,rfl,hb,λi v hv=> ?_⟩
    obtain⟨d,hd,hv'⟩:=ZPF τ ds i v hv
    have:=(hds _ _ hd).2 _ _ hv'
    rw[ZBE,ZBE]at this
    rw[<-this,show s+i/τ.width*τ.width+i % τ.width=s+i by
     have:=Nat.div_add_mod i τ.width
     rw[Nat.mul_comm]at this
     omega]
  ·obtain⟨i,hi⟩:=List.mem_iff_getElem?.mp hd
   exact(hds i d hi).1
theorem ZLE{se:TypeId->Option Ty}(hse: ∀e τ,se e=some τ->P.cellsOf e=τ.width/\ ∀(fuel:Nat) (cs:List Value) (x:DataW H×List MemPlace),DataW.trod enc P w base spare held fuel e cs=some x->ZBo w τ.kinds cs):
  ∀(n:Nat) (t:TypeId) (ks:List CK) (fuel:Nat) (cs:List Value) (x:DataW H×List MemPlace),ZDN P se n t=some ks->DataW.trod enc P w base spare held fuel t cs=some x->ZBo w ks cs
 | 0,t,ks,fuel,cs,x,h,_=>by simp[ZDN]at h
 | n+1,t,ks,fuel,cs,x,h,ht=>by
  have ih:=ZLE hse n
  unfold ZDN at h
  split at h
  ·rename_i k hu
   cases h
   obtain⟨m,rfl,_,hw⟩:=DataW.trod_int hu ht
   simp[Lit.wf]at hw
   exact⟨⟨m,rfl,hw⟩,trivial⟩
  ·rename_i hu
   cases h
   obtain⟨b,rfl,_⟩:=DataW.trod_bool hu ht
   exact⟨⟨b,rfl⟩,trivial⟩
  ·rename_i hu
   cases h
   obtain⟨s,rfl,_,hs⟩:=DataW.trod_string hu ht
   exact⟨⟨s.data.toList,rfl,hs⟩,trivial⟩
  ·rename_i e hu
   simp only[Option.map_eq_some_iff]at h
   obtain⟨τ,hτ,rfl⟩:=h
   obtain⟨h1,h2⟩:=hse e τ hτ
   exact ZUr h2 h1 hu ht
  ·rename_i fs hu
   simp only[al_bind_iff]at h
   obtain⟨k1,h1,h⟩:=h
   cases hb:Nat.beq (P.cellsOf t) k1.length<;>simp only[hb,al_cond_true,al_cond_false]at h
   ·cases h
   cases h
   obtain⟨xs,m,_,_,hl,hxl,hx⟩:=DataW.trod_struct hu ht
   have:=ZPD (enc:=enc) (base:=base) (spare:=spare) (held:=held) ih fs.toList 0 ks cs m h1 (by rw[hl,ZAb hb];omega) λf hf=>by
    obtain⟨i,hi⟩:=List.mem_iff_getElem?.mp hf
    have hi':fs[i]?=some f:=by simpa using hi
    have:=hx i f hi'
    rw[al_get_get (by rw[hxl];exact(Array.getElem?_eq_some_iff.mp hi').1)]at this
    exact⟨_,this⟩
   simpa using this
  ·rename_i m e hu
   simp only[al_bind_iff]at h
   obtain⟨k1,h1,h⟩:=h
   cases hb:(Nat.beq (P.cellsOf e) k1.length && Nat.beq (P.cellsOf t) (ZEa m k1).length)<;>simp only[hb,al_cond_true,al_cond_false]at h
   ·cases h
   cases h
   rw[ZAJ]at hb
   obtain⟨xs,f,_,_,hl,hxl,hx⟩:=DataW.trod_array hu ht
   refine ZPE (ZAb hb.1) m cs (by rw[hl,ZAb hb.2]) λi hi=> ?_
   have:=hx i hi
   rw[al_get_get (by omega)]at this
   exact ih e k1 f _ _ h1 this
  ·cases h
theorem ZUs{se:TypeId->Option Ty}(hse:SeOK P se){n:Nat}{t:TypeId}{ks:List CK}{fuel:Nat}{cs:List Value}{x:DataW H×List MemPlace}(h:ZDN P se n t=some ks)(ht:DataW.trod enc P w base spare held fuel t cs=some x):ZBo w ks cs:=
 ZLE (λe τ he=>⟨(hse e τ he).2,λfuel cs x hx=>ZLE (se:=λ_=>none) (λ_ _ h=>by cases h) 6 e τ.kinds fuel cs x (hse e τ he).1 hx⟩) n t ks fuel cs x h ht
def seL:List (Nat×Ty)->TypeId->Option Ty
 | [],_=>none
 | (i,τ)::r,n=>cond (Nat.beq i n) (some τ) (seL r n)
def seB(P:Program):List (Nat×Ty)->Bool
 | []=>true
 | (e,τ)::r=>decide (ZDN P (λ_=>none) 6 e=some τ.kinds) && Nat.beq (P.cellsOf e) τ.width && seB P r
theorem ZPG: ∀ {l:List (Nat×Ty)},seB P l=true->SeOK P (seL l)
 | [],_,e,τ,h=>by simp[seL]at h
 | (i,t)::r,hb,e,τ,h=>by
  simp only[seB,ZAJ,ZAX]at hb
  simp only[seL]at h
  cases hi:Nat.beq i e<;>simp only[hi,al_cond_true,al_cond_false]at h
  ·exact ZPG hb.2 e τ h
  ·cases h
   have:=ZAb hi
   subst this
   exact⟨hb.1.1,ZAb hb.1.2⟩
theorem Zar{l:List (Nat×Ty)}(hse:seB P l=true){t:TypeId}{τ:Ty}{fuel:Nat}{c:Value}{x:DataW H×List MemPlace}(h:ZDN P (seL l) 4 t=some [.sl τ])
  (ht:DataW.trod enc P w base spare held fuel t [c]=some x): ∃ds:List τ.den,RelA (λ_=>none) (λb=>b<w.heap.size) w (.lst τ ds) c/\(∀d∈ds,Wf τ d)/\ds.length<=maxLen:=by
 obtain⟨⟨ds,h1,h2,h3⟩,_⟩:=ZUs (ZPG hse) h ht
 exact⟨ds,h1,h2,h3⟩
end
end Ev
end
end
