/- Laid together by program (what the claim does not reach is left out): OpsA. -/
import Derived.Test.YtoafhcjocdjkjaaGreatDoorZC00
import Derived.Laws.Cells
import Derived.Laws.Slices
import Derived.Laws.Unary
import Derived.Laws.Strings
import Derived.Deep.Slices
import Derived.Laws.MakeOwn
import Derived.Laws.BytesString
set_option linter.all false
set_option maxRecDepth 100000
open Go.Proofs.Tryz
noncomputable section
section
namespace Ev
open Go
theorem ZTB{calm:Prop}{dst:Nat}{ρ:Rho}{F:Nat->Prop}{s:St}{w:World}{v:V}{c:Value}(H:Core ρ F s.st w)(r:RelT ρ F w v c):
  Post calm dst ρ F s w v s ρ F w c where
 core:=H
 stp:=⟨Chg.refl _ _,λ_ h=> .inl h,λ_ h=> .inl h⟩
 val:=r
 fr _ _ h:=h
 len:=rfl
 dom h:=h
 low _ _ h:=h
 par _ _ _ h _:=h
 calm _:=⟨rfl,λ_ _ h=>h,λ_ _ h=> .inl h,λ_ _ h=>h,λ_ _ h=> .inl h,λ_ _=>rfl,λ_ h=>h⟩
 ext:=⟨λ_=>False,Ext.refl,λ_ h=>h.elim⟩
 kept id l h:=by
  cases hx:look s.st id with
  | none=>exact .inr ⟨rfl,h⟩
  | some b=>exact .inl (by simp)
 mem _ _ _ _ _ _:=rfl
def ZBM{P:Program}{calm:Prop}{o:Oper}{s:St}{v:V}
  (h: ∀(ρ:Rho) (F:Nat->Prop) (a:Act) (w:World),Core ρ F s.st w->(∀t,ZBU o t->RelT ρ F w (get s.fr t) (a.tmps.getD t undef))-> ∃c,(execOp a.eval o).run P w= .ok (.value c) w/\RelT ρ F w v c):OpOK P calm o s v s:=by
 intro ρ F a w H _ _ hr N Q hN
 obtain⟨c,hc,r⟩:=h ρ F a w H hr
 unfold Oper.wp
 rw[hc]
 exact hN c w ρ F (ZTB H r)
def ZTC{ρ:Rho}{F:Nat->Prop}{w:World}(c:Value):RelC ρ F w (match c with
  | .int k n=> .int k n
  | .bool b=> .bool b
  | .string s=> .str s.data.toList
  | .slice none 0 0=> .nils
  | _=> .undef) c:=by
 split<;>first | rfl | trivial
def ZTD{ρ:Rho}{F:Nat->Prop}{w:World}(c:Value):RelT ρ F w (ZJ9 c) c:=by
 unfold ZJ9
 split<;>try first | rfl | trivial
 rename_i cs
 refine⟨cs,rfl,by simp,λi v hv=> ?_⟩
 rw[List.getElem?_map,Array.getElem?_toList]at hv
 cases hc:cs[i]? with
 | none=>simp[hc]at hv
 | some x=>
  simp[hc]at hv
  subst hv
  exact⟨x,rfl,ZTC x⟩
def ZCa{ρ:Rho}{F:Nat->Prop}{w:World}{fr:List V}{a:Act}(x:Operand)(h: ∀t,x= .tmp t->RelT ρ F w (get fr t) (a.tmps.getD t undef)):
  RelT ρ F w (opd fr x) (a.eval x):=by
 cases x with
 | tmp t=>exact h t rfl
 | const v=>exact ZTD v
 | global g=>trivial
 | func f=>exact⟨#[],rfl,rfl,λi v hv=>by simp at hv⟩
def ZFz{R:Type}{fr:List V} : ∀ {xs:List Operand} {K:List V->Option R},opds fr xs K=K (xs.map (opd fr))
 | [],K=>rfl
 | x::xs,K=>by simp only[opds,ZFz,List.map_cons]
def ZTE{R:Type}{P:Program}{op:BinOp}{k:IntKind}{a b:Int}{K:V->Option R}{r:R}(h:intK op k a b K=some r):
  ∃v,K v=some r/\v.plain=true/\ ∀w,(match op with
   | .add | .sub | .mul=>Op.intArith op k a b
   | .quo | .rem=>Op.intDiv op k a b
   | .and | .or | .xor | .andNot=>Op.intBits op k a b
   | _=>Op.intCmp op a b).run P w= .ok (sv v) w/\op≠ .shl/\op≠ .shr:=by
 cases op<;>simp only[intK]at h<;>try (cases h;done)
 case quo | rem=>
  by_cases h0:b=0
  ·simp[h0]at h
  ·simp only[h0,decide_false,al_cond_false]at h
   exact⟨_,h,rfl,λw=>⟨by simp[Op.intDiv,h0,sv],by simp,by simp⟩⟩
 all_goals exact⟨_,h,rfl,λw=>⟨by first | rfl | (simp only[Op.intCmp,sv,ZCZ,Op.intBits];first | rfl | (congr 2;first | rfl | exact Bool.beq_eq_decide_eq _ _ | (simp only[bne];congr 1;exact Bool.beq_eq_decide_eq _ _))),by simp,by simp⟩⟩
def ZKO{ρ:Rho}{F:Nat->Prop}{w:World}{v:V}(h:v.plain=true):RelT ρ F w v (sv v):=by
 rcases ZDa h with ⟨k,n,rfl⟩ | ⟨b,rfl⟩ | ⟨s,rfl⟩<;>rfl
def ZTF{R:Type}(xs ys:List V)(K:Bool->Option R):eqK xs ys K=(eqV xs ys).bind K:=by
 fun_induction eqV xs ys generalizing K<;>simp_all [eqK,Option.bind_assoc]
def ZNT: ∀ {xs ys:List V} {b:Bool},eqV xs ys=some b->(∀v∈xs,v.plain=true)/\(∀v∈ys,v.plain=true)
 | [],[],_,_=>by simp
 | x::xs,y::ys,b,h=>by
  have:x.plain=true/\y.plain=true/\ ∃b',eqV xs ys=some b':=by
   cases x<;>cases y<;>simp only[eqV]at h<;>try (cases h;done)
   ·rename_i k a k' b'
    cases hk:decide (k=k')<;>rw[hk]at h
    ·cases h
    ·simp only[al_cond_true,al_bind_iff]at h
     obtain⟨t,ht,_⟩:=h
     exact⟨rfl,rfl,t,ht⟩
   all_goals
    simp only[al_bind_iff]at h
    obtain⟨t,ht,_⟩:=h
    exact⟨rfl,rfl,t,ht⟩
  obtain⟨h1,h2,b',h3⟩:=this
  have ih:=ZNT h3
  exact⟨λv hv=>by rcases List.mem_cons.mp hv with rfl | hv;exact h1;exact ih.1 v hv,λv hv=>by rcases List.mem_cons.mp hv with rfl | hv;exact h2;exact ih.2 v hv⟩
 | [],y::ys,_,h=>by cases y<;>simp[eqV]at h
 | x::xs,[],_,h=>by cases x<;>simp[eqV]at h
def ZNU{ρ:Rho}{F:Nat->Prop}{w:World}{cs:List V}{c:Value}(h:RelT ρ F w (.agg cs) c)(hp: ∀v∈cs,v.plain=true):
  ∃ca:Array Value,c= .agg ca/\ca.toList=cs.map sv:=by
 obtain⟨ca,e,hs,h⟩:=h
 refine⟨ca,e,List.ext_getElem? λi=> ?_⟩
 rw[List.getElem?_map,Array.getElem?_toList]
 cases hc:cs[i]? with
 | none=>
  have:cs.length<=i:=by simpa using hc
  simp;omega
 | some v=>
  obtain⟨c,hc',r⟩:=h i v hc
  have hv:=hp v (al_mem_get hc)
  have r':RelB ρ F w v c:=by rcases ZDa hv with ⟨k,n,rfl⟩ | ⟨b,rfl⟩ | ⟨s,rfl⟩<;>exact r
  rw[hc',(RelB.plain hv).mp r'];rfl
def ZTG{P:Program}{t:Nat}(hd:P.underlying t=some .bool)(a b:Bool)(w:World):(Op.equal t (.bool a) (.bool b)).run P w= .ok (a==b) w:=by
 show(Op.equalIn (9999+1) t (.bool a) (.bool b)).run P w=_
 unfold Op.equalIn
 simp[run_underlying hd]
def ZTH{R:Type}{P:Program}{T:Tab}(hT:ZBW P T){op:BinOp}{t:Nat}{x y:V}{K:V->Option R}{r:R}(h:binK T op t x y K=some r):
  ∃v,K v=some r/\ ∀ρ F w cx cy (ox oy:Operand),RelT ρ F w x cx->RelT ρ F w y cy->
   ∃c,(do eqGuard op t ox oy cx cy;binOp op t cx cy:Sem Value).run P w= .ok c w/\RelT ρ F w v c:=by
 unfold binK at h
 split at h
 ·rename_i k a k' b
  have sh: ∀op',(op=op')->(op'= .shl\/op'= .shr)-> ∀v:V,v.plain=true->(K v=some r)->(∀w,(Op.shift op k a k' b).run P w= .ok (sv v) w)->_:=λop' e ho v hp hk hrun=>
   (⟨v,hk,λρ F w cx cy ox oy (e1:cx=_) (e2:cy=_)=>⟨sv v,by
    subst e1;subst e2;rw[e]at hrun⊢
    rcases ho with rfl | rfl<;>simp[eqGuard,binOp,hrun],ZKO hp⟩⟩:
   ∃v,K v=some r/\ ∀ρ F w cx cy (ox oy:Operand),RelT ρ F w (.int k a) cx->RelT ρ F w (.int k' b) cy->
   ∃c,(do eqGuard op t ox oy cx cy;binOp op t cx cy:Sem Value).run P w= .ok c w/\RelT ρ F w v c)
  split at h
  ·by_cases hb:b<0
   ·simp[hb]at h
   ·simp only[hb,decide_false,al_cond_false]at h
    exact sh _ rfl (.inl rfl) _ rfl h λw=>by simp[Op.shift,hb,sv,ZNF]
  ·by_cases hb:b<0
   ·simp[hb]at h
   ·simp only[hb,decide_false,al_cond_false]at h
    exact sh _ rfl (.inr rfl) _ rfl h λw=>by simp[Op.shift,hb,sv,ZFo]
  ·rename_i op' hn1 hn2
   by_cases hk:k=k'
   ·simp only[hk,decide_true,al_cond_true]at h
    subst hk
    obtain⟨v,hv,hp,hrun⟩:=ZTE (P:=P) h
    refine⟨v,hv,λρ F w cx cy ox oy (e1:cx=_) (e2:cy=_)=>⟨sv v,?_,ZKO hp⟩⟩
    subst e1;subst e2
    have:=(hrun w).1
    cases op<;>first | exact absurd rfl hn1 | exact absurd rfl hn2 | (simp[eqGuard,binOp]at this⊢;exact this)
   ·simp[hk]at h
 ·rename_i a b
  have go: ∀v:V,v.plain=true->K v=some r->(∀w,(Op.stringOp op ⟨⟨a⟩⟩ ⟨⟨b⟩⟩).run P w= .ok (sv v) w)->op≠ .shl->op≠ .shr->_:=λv hp hk hrun h1 h2=>
   (⟨v,hk,λρ F w cx cy ox oy (e1:cx=_) (e2:cy=_)=>⟨sv v,by
    subst e1;subst e2
    have:=hrun w
    cases op<;>first | exact absurd rfl h1 | exact absurd rfl h2 | (simp[eqGuard,binOp]at this⊢;exact this),ZKO hp⟩⟩:
   ∃v,K v=some r/\ ∀ρ F w cx cy (ox oy:Operand),RelT ρ F w (.str a) cx->RelT ρ F w (.str b) cy->
   ∃c,(do eqGuard op t ox oy cx cy;binOp op t cx cy:Sem Value).run P w= .ok c w/\RelT ρ F w v c)
  have ta:(⟨⟨a⟩⟩:ByteArray).toList=a:=by simp[Go.ByteArray.toList_eq]
  have tb:(⟨⟨b⟩⟩:ByteArray).toList=b:=by simp[Go.ByteArray.toList_eq]
  have eqd:(a==b)=decide (a=b):=Bool.beq_eq_decide_eq _ _
  split at h<;>try (cases h;done)
  ·unfold capK at h
   split at h
   ·rename_i hl
    refine go _ rfl h (λw=> ?_) (by simp) (by simp)
    have: ¬((((⟨⟨a⟩⟩:ByteArray).size+(⟨⟨b⟩⟩:ByteArray).size:Nat):Int)>IntKind.i64.max):=by
     have e1:(⟨⟨a⟩⟩:ByteArray).size=a.length:=rfl
     have e2:(⟨⟨b⟩⟩:ByteArray).size=b.length:=rfl
     rw[e1,e2]
     have:IntKind.i64.max=9223372036854775807:=rfl
     unfold lim at hl;omega
    simp only[Op.stringOp,al_if_neg this]
    show Result.ok _ w=_
    congr 1
   ·cases h
  all_goals exact go _ rfl h (λw=>by simp only[Op.stringOp,ta,tb,eqd];rfl) (by simp) (by simp)
 ·rename_i a b
  split at h<;>try (cases h;done)
  rename_i ti hti
  obtain⟨⟨d,hd,hk,_⟩,_⟩:=(hT _ _ hti).1.kind,(hT _ _ hti).2
  have hd':P.underlying t=some .bool:=by
   cases d<;>first | exact hd | exact hk.elim
  split at h<;>try (cases h;done)
  all_goals
   refine⟨_,h,λρ F w cx cy ox oy (e1:cx=_) (e2:cy=_)=>⟨_,?_,rfl⟩⟩
   subst e1;subst e2
   simp[eqGuard,binOp,ZTG hd']
   cases a<;>cases b<;>rfl
 ·rename_i xs ys
  split at h<;>try (cases h;done)
  rename_i ti hti
  cases hf:(ti.flat && (fits ti.zero xs && fits ti.zero ys))<;>simp only[hf,al_cond_true,al_cond_false]at h
  ·cases h
  rw[ZAJ,ZAJ]at hf
  have hfl:=(hT _ _ hti).2 hf.1
  split at h<;>try (cases h;done)
  all_goals
   rw[ZTF,al_bind_iff]at h
   obtain⟨b,hb,h⟩:=h
   obtain⟨hp1,hp2⟩:=ZNT hb
   refine⟨_,h,λρ F w cx cy ox oy r1 r2=>⟨_,?_,rfl⟩⟩
   obtain⟨ca,rfl,e1⟩:=ZNU r1 hp1
   obtain⟨cb,rfl,e2⟩:=ZNU r2 hp2
   have:=hfl ca cb xs ys b w e1 e2 hf.2.1 hf.2.2 hb
   simp[this.2,binOp,this.1]
 ·cases h
end Ev
end
section
namespace Ev
open Go
def ZG5{R:Type} : ∀ {n:Nat} {cs:List V} {K:List V->Option R} {r:R},ZFm n cs K=some r->n<=cs.length/\K (cs.take n)=some r
 | 0,cs,K,r,h=>⟨Nat.zero_le _,h⟩
 | n+1,[],K,r,h=>by simp[ZFm]at h
 | n+1,x::xs,K,r,h=>by
  obtain⟨h1,h2⟩:=ZG5 (n:=n) h
  exact⟨by simpa using h1,h2⟩
def ZF0{R:Type} : ∀ {n:Nat} {cs:List V} {K:List V->Option R} {r:R},ZDq n cs K=some r->n<=cs.length/\K (cs.drop n)=some r
 | 0,cs,K,r,h=>⟨Nat.zero_le _,h⟩
 | n+1,[],K,r,h=>by simp[ZDq]at h
 | n+1,x::xs,K,r,h=>by
  obtain⟨h1,h2⟩:=ZF0 (n:=n) h
  exact⟨by simpa using h1,h2⟩
def ZKP{ρ:Rho}{F:Nat->Prop}{w:World}{v:V}{c:Value}(h:RelC ρ F w v c):RelT ρ F w v c:=by
 cases v<;>first | exact h | exact h.elim
def ZKQ{ρ:Rho}{F:Nat->Prop}{w:World}{v:V}{c:Value}(h:RelB ρ F w v c):RelC ρ F w v c:=by
 cases v<;>first | exact h | exact h.elim
def ZNV{ρ:Rho}{F:Nat->Prop}{w:World}{v:V}{c:Value}(h:RelA ρ F w v c):RelT ρ F w v c:=by
 cases v<;>first | exact h | exact h.elim
def ZCv(ρ:Rho)(F:Nat->Prop)(w:World)(b s:Nat)(cs:List V):Prop:=
 ∀(i:Nat) (v:V),cs[i]?=some v-> ∃c,w.cell? ⟨b,s+i,none⟩=some c/\RelC ρ F w v c
def ZCv.of_at{ρ:Rho}{F:Nat->Prop}{w:World}{b s:Nat}{cs:List V}(hp: ∀v∈cs,v.plain=true)(h:At w b s (cs.map sv)):ZCv ρ F w b s cs:=by
 intro i v hv
 refine⟨sv v,h i _ (by simp[hv]),ZKQ ((RelB.plain (hp v (al_mem_get hv))).mpr rfl)⟩
def ZCv.drop{ρ:Rho}{F:Nat->Prop}{w:World}{b s n:Nat}{cs:List V}(h:ZCv ρ F w b s cs):ZCv ρ F w b (s+n) (cs.drop n):=by
 intro i v hv
 obtain⟨c,hc,r⟩:=h (n+i) v (by simpa using hv)
 exact⟨c,by rw[<-hc,Nat.add_assoc],r⟩
def ZE7(t:Ty)(d:t.den): ∀v∈t.cells d,v.plain=true:=by
 cases t<;>simp[Ty.cells,V.plain]
def ZBb(t:Ty)(d:t.den):(t.cells d).length=t.width:=by
 cases t<;>rfl
def ZF1(t:Ty):0<t.width:=by cases t<;>decide
theorem ZDs(t:Ty):flat t []=[]:=rfl
theorem ZCP(t:Ty)(d:t.den)(l:List t.den):flat t (d::l)=(t.cells d).map sv++flat t l:=rfl
def ZEQ(t:Ty)(l m:List t.den):flat t (l++m)=flat t l++flat t m:=by simp[flat]
def ZAy(t:Ty)(l:List t.den):(flat t l).length=l.length*t.width:=by
 induction l with
 | nil=>simp[ZDs]
 | cons d l ih=>rw[ZCP,al_len_append,ih,List.length_map,ZBb,al_len_cons,Nat.succ_mul,Nat.add_comm]
def ZDD(t:Ty): ∀(l:List t.den) (i:Nat) (d:t.den),l[i]?=some d-> ∀j v,((t.cells d).map sv)[j]?=some v->(flat t l)[i*t.width+j]?=some v
 | [],i,d,h,_,_,_=>by simp at h
 | x::l,0,d,h,j,v,hv=>by
  simp at h;subst h
  have:j<((t.cells x).map sv).length:=(al_get_iff.mp hv).1
  rw[ZCP,Nat.zero_mul,Nat.zero_add,List.getElem?_append_left this];exact hv
 | x::l,i+1,d,h,j,v,hv=>by
  have ih:=ZDD t l i d (by simpa using h) j v hv
  rw[ZCP,List.getElem?_append_right (by simp[ZBb,Nat.succ_mul];omega)]
  rw[<-ih];congr 1
  simp[ZBb,Nat.succ_mul];omega
def At.row{w:World}{b s:Nat}{t:Ty}{l:List t.den}(h:At w b s (flat t l)){i:Nat}{d:t.den}(hd:l[i]?=some d):
  At w b (s+i*t.width) ((t.cells d).map sv):=by
 intro j v hv
 have:=h _ _ (ZDD t l i d hd j v hv)
 rw[<-this,Nat.add_assoc]
def At.append{w:World}{b s:Nat}{xs ys:List Value}(h:At w b s (xs++ys)):At w b s xs/\At w b (s+xs.length) ys:=by
 refine⟨λi v hv=>h i v ?_,λi v hv=> ?_⟩
 ·rw[List.getElem?_append_left (al_get_iff.mp hv).1];exact hv
 ·have:=h (xs.length+i) v (by rw[List.getElem?_append_right (by omega)];simpa using hv)
  rw[<-this,Nat.add_assoc]
def At.join{w:World}{b s:Nat}{xs ys:List Value}(h:At w b s xs)(k:At w b (s+xs.length) ys):At w b s (xs++ys):=by
 intro i v hv
 by_cases hi:i<xs.length
 ·rw[List.getElem?_append_left hi]at hv;exact h i v hv
 ·rw[List.getElem?_append_right (by omega)]at hv
  have:=k _ v hv
  rw[<-this];congr 2;omega
def ZER(t:Ty)(l:List t.den)(n:Nat):flat t l=flat t (l.take n)++flat t (l.drop n):=by rw[<-ZEQ,List.take_append_drop]
def At.take{w:World}{b s:Nat}{t:Ty}{l:List t.den}(h:At w b s (flat t l))(n:Nat):At w b s (flat t (l.take n)):=by
 rw[ZER t l n]at h;exact h.append.1
def At.drop{w:World}{b s:Nat}{t:Ty}{l:List t.den}(h:At w b s (flat t l)){n:Nat}(hn:n<=l.length):At w b (s+n*t.width) (flat t (l.drop n)):=by
 rw[ZER t l n]at h
 have:=h.append.2
 rwa[ZAy,al_len_take,Nat.min_eq_left hn]at this
def ZE8{P:Program}{t:Nat}{b:Bool}(h:ZCD P t b)(w:World):(isAgg t).run P w= .ok b w:=by
 obtain⟨d,hd,rfl⟩:=h
 simp only[isAgg,Sem.run_bind,run_underlying hd,Result.andThen_ok]
 cases d<;>rfl
def ZBj{P:Program}{t n:Nat}(h:ZBV P t n)(w:World):(Go.sizeOf t).run P w= .ok n w:=by
 obtain⟨i,hi,rfl⟩:=h
 simp[Go.sizeOf,typeInfo,hi]
def ZIP{P:Program}{t:Nat}{vs:List Value}(h:ZIM P t vs)(w:World): ∃z,(zeroValue t).run P w= .ok z w/\z.cells.toList=vs:=by
 obtain⟨i,z,hi,hz,e⟩:=h
 exact⟨z,by simp[zeroValue,typeInfo,hi,hz],e⟩
def ZTI{P:Program}{t n:Nat}(hs:ZBV P t n)(ha:ZCD P t true){w:World}{b s:Nat}{cs:List Value}(hl:cs.length=n)
  (h:At w b s cs):(loadVar t ⟨b,s,none⟩).run P w= .ok (.agg cs.toArray) w:=by
 have:=run_loadCells_list (P:=P) (w:=w) ⟨b,s,none⟩ cs (λj v hv=>by rw[ZBE];exact h j v hv)
 simp only[loadVar,Sem.run_bind,ZE8 ha,Result.andThen_ok,if_true,ZBj hs,<-hl,this,Sem.run_pure]
def ZTJ{P:Program}{t:Nat}(ha:ZCD P t false){w:World}{b s:Nat}{c:Value}(h:w.cell? ⟨b,s,none⟩=some c):
  (loadVar t ⟨b,s,none⟩).run P w= .ok c w:=by
 simp[loadVar,Sem.run_bind,ZE8 ha,h]
def ZCv.values{ρ:Rho}{F:Nat->Prop}{w:World}{b:Nat} : ∀ {cs:List V} {s:Nat},ZCv ρ F w b s cs->
  ∃vs:List Value,vs.length=cs.length/\At w b s vs/\ ∀(i:Nat) (v:V),cs[i]?=some v-> ∃c,vs[i]?=some c/\RelC ρ F w v c
 | [],s,_=>⟨[],rfl,λi v hv=>by simp at hv,λi v hv=>by simp at hv⟩
 | x::cs,s,h=>by
  obtain⟨vs,hl,hat,hr⟩:=ZCv.values (h.drop (n:=1):ZCv ρ F w b (s+1) cs)
  obtain⟨c,hc,r⟩:=h 0 x rfl
  refine⟨c::vs,by simp[hl],?_,?_⟩
  ·intro i v hv
   cases i with
   | zero=>simp at hv;subst hv;exact hc
   | succ i=>have:=hat i v (by simpa using hv);rw[<-this];congr 2;omega
  ·intro i v hv
   cases i with
   | zero=>simp at hv;subst hv;exact⟨c,rfl,r⟩
   | succ i=>simpa using hr i v (by simpa using hv)
def ZKR{R:Type}{P:Program}{t:Nat}{ti:TI}(hs:ZBV P t ti.size)(ha:ZCD P t ti.agg){cs:List V}{K:V->Option R}{r:R}(h:ZEJ ti cs K=some r):
  ∃v,K v=some r/\ ∀ρ F w b s,ZCv ρ F w b s cs-> ∃c,(loadVar t ⟨b,s,none⟩).run P w= .ok c w/\RelT ρ F w v c:=by
 unfold ZEJ at h
 cases hg:ti.agg with
 | true=>
  simp only[hg]at h ha
  obtain⟨hl,h⟩:=ZG5 h
  refine⟨_,h,λρ F w b s hc=> ?_⟩
  obtain⟨vs,hvl,hat,hr⟩:=hc.values
  refine⟨_,ZTI hs ha (cs:=vs.take ti.size) (by simp;omega) (λi v hv=>hat i v ?_),_,rfl,by simp;omega,λi v hv=> ?_⟩
  ·rw[List.getElem?_take]at hv;split at hv
   ·exact hv
   ·cases hv
  ·rw[List.getElem?_take]at hv;split at hv
   ·rename_i hi
    obtain⟨c,hc,r⟩:=hr i v hv
    exact⟨c,by simp[List.getElem?_take,hi,hc],r⟩
   ·cases hv
 | false=>
  simp only[hg]at h ha
  split at h
  ·rename_i v cs'
   refine⟨v,h,λρ F w b s hc=> ?_⟩
   obtain⟨c,hcell,r⟩:=hc 0 v rfl
   exact⟨c,ZTJ ha hcell,ZKP r⟩
  ·cases h
def ZNW{ρ:Rho}{F:Nat->Prop}{st:ZAI}{w:World}(H:Core ρ F st w){id b n:Nat}{cs:List V}(hρ:ρ id=some (.box b n))(hl:look st id=some (.box cs)):
  ZCv ρ F w b 0 cs:=by
 obtain⟨_,arr,hr,_,h⟩:=H.heap id _ _ hρ hl
 intro i v hv
 obtain⟨c,hc,r⟩:=h i v hv
 exact⟨c,by rw[Nat.zero_add,ZAs hr];exact hc,r⟩
def ZCi{ρ:Rho}{F:Nat->Prop}{st:ZAI}{w:World}(H:Core ρ F st w){id len cap:Nat}{t t':Ty}{a:Option Addr}{l:List t'.den}(hρ:ρ id=some (.row t a len cap))(hl:look st id=some (.rows t' l)):
  t'=t/\l.length=len/\len<=cap/\(l=[]\/ ∃b s,a=some ⟨b,s,none⟩/\At w b s (flat t' l)):=by
 obtain⟨ht,h1,h2,h3⟩:=H.heap id _ _ hρ hl
 refine⟨ht,h1,h2,?_⟩
 rcases h3 with h3 | ⟨b,s,arr,e,_,_,hat⟩
 ·left;exact List.eq_nil_of_length_eq_zero (by omega)
 ·exact .inr ⟨b,s,e,hat⟩
def ZNX{R:Type}{P:Program}{t:Nat}{ti:TI}(hs:ZBV P t ti.size)(ha:ZCD P t ti.agg){st:ZAI}{x:V}{K:V->Option R}{r:R}(h:ZGr ti st x K=some r):
  ∃v,K v=some r/\ ∀ρ F w cx,Core ρ F st w->RelT ρ F w x cx-> ∃c,(Instr.loadAt t cx).run P w= .ok c w/\RelT ρ F w v c:=by
 unfold ZGr at h
 split at h
 ·rename_i cs
  obtain⟨v,hv,k⟩:=ZKR hs ha h
  refine⟨v,hv,λρ F w cx H ⟨b,s,e,hf,hp,hat⟩=> ?_⟩
  subst e
  obtain⟨c,hc,r⟩:=k ρ F w b s (.of_at (ZCB hp) hat)
  exact⟨c,by simpa[Instr.loadAt,Instr.sureAddr]using hc,r⟩
 ·rename_i id off
  split at h
  ·rename_i cs hl
   obtain⟨hle,h⟩:=ZF0 h
   obtain⟨v,hv,k⟩:=ZKR hs ha h
   refine⟨v,hv,λρ F w cx H ⟨b,n,hρ,e⟩=> ?_⟩
   subst e
   obtain⟨c,hc,r⟩:=k ρ F w b off (by have:=(ZNW H hρ hl).drop (n:=off);rwa[Nat.zero_add]at this)
   exact⟨c,by simpa[Instr.loadAt,Instr.sureAddr]using hc,r⟩
  ·cases h
 ·rename_i id row col
  split at h
  ·rename_i t' l hl
   rw[al_bind_iff]at h
   obtain⟨d,hd,h⟩:=h
   obtain⟨hle,h⟩:=ZF0 h
   obtain⟨v,hv,k⟩:=ZKR hs ha h
   refine⟨v,hv,λρ F w cx H ⟨t0,b,s,len,cap,hρ,hrow,e⟩=> ?_⟩
   subst e
   obtain⟨ht,hlen,_,hat⟩:=ZCi H hρ hl
   subst ht
   rcases hat with hat | ⟨b',s',e,hat⟩
   ·subst hat;simp at hd
   ·cases e
    obtain⟨c,hc,r⟩:=k ρ F w b (s+row*t'.width+col) ((ZCv.of_at (ZE7 t' d) (hat.row hd)).drop (n:=col))
    exact⟨c,by simpa[Instr.loadAt,Instr.sureAddr,Nat.add_assoc]using hc,r⟩
  ·cases h
 ·cases h
end Ev
end
section
namespace Ev
open Go
def ZTK{R:Type}{P:Program}{t:Nat}{ti:TI}(hs:ZBV P t ti.size)(ha:ZCD P t ti.agg){off:Nat}{cs:List V}{K:V->Option R}{r:R}
  (h:ZDq off cs (λcs=>ZEJ ti cs K)=some r):
  ∃v,K v=some r/\ ∀ρ F w (ca:Array Value),ca.size=cs.length->(∀(i:Nat) (v:V),cs[i]?=some v-> ∃c,ca[i]?=some c/\RelC ρ F w v c)->
   ∃c,(part t ca off).run P w= .ok c w/\RelT ρ F w v c:=by
 obtain⟨hle,h⟩:=ZF0 h
 unfold ZEJ at h
 cases hg:ti.agg with
 | true=>
  simp only[hg]at h ha
  obtain⟨hl,h⟩:=ZG5 h
  refine⟨_,h,λρ F w ca hsz hc=> ?_⟩
  refine⟨.agg (ca.extract off (off+ti.size)),?_,_,rfl,?_,λi v hv=> ?_⟩
  ·simp only[part,Sem.run_bind,ZE8 ha,Result.andThen_ok,if_true,ZBj hs,Sem.run_pure]
  ·simp at hl⊢;omega
  ·rw[List.getElem?_take]at hv;split at hv
   ·rename_i hi
    rw[List.getElem?_drop]at hv
    obtain⟨c,hc,r⟩:=hc _ v hv
    refine⟨c,?_,r⟩
    rw[Array.getElem?_extract]
    simp at hl
    rw[al_if_pos];exact hc
   ·cases hv
 | false=>
  simp only[hg]at h ha
  split at h
  ·rename_i v cs' hd
   refine⟨v,h,λρ F w ca hsz hc=> ?_⟩
   have:cs[off]?=some v:=by
    have:=congrArg (λl=>l[0]?) hd
    simpa using this
   obtain⟨c,hc,r⟩:=hc off v this
   exact⟨c,by simp[part,Sem.run_bind,ZE8 ha,hc],ZKP r⟩
  ·cases h
def ZCE{a b:Ty}{l:List a.den}{l':List b.den}(h:ZBl a b l=some l'): ∃e:a=b,e▸l=l':=by
 cases a<;>cases b<;>simp only[ZBl]at h<;>first | (cases h;exact⟨rfl,rfl⟩) | cases h
def ZTL{R:Type}{P:Program}{t i off size:Nat}{ag:Bool}{ti:TI}(hT:TIok P t ti)(hf:ti.flds[i]?=some (off,size,ag))(hsz:size≠0)(hk:ti.kind= .struct)
  {x:V} {K:V->Option R} {r:R} (h:ZKB off x K=some r):
  ∃v,K v=some r/\ ∀ρ F w cx,RelT ρ F w x cx-> ∃c,(Instr.fieldAt t cx i).run P w= .ok c w/\RelT ρ F w v c:=by
 obtain⟨d,hd,hkd,hfl⟩:=hT.kind
 rw[hk]at hkd
 obtain⟨fs,rfl⟩: ∃fs,d= .struct fs:=by cases d<;>first | exact⟨_,rfl⟩ | exact hkd.elim
 obtain⟨f,hfi,ho,hs,_⟩:=hfl.2 i off size ag hf
 have run: ∀(w:World) (b s:Nat),(Instr.fieldAt t (.pointer (some ⟨b,s,none⟩)) i).run P w= .ok (.pointer (some ⟨b,s+off,none⟩)) w:=by
  intro w b s
  simp[Instr.fieldAt,Sem.run_bind,run_underlying hd,hfi,Instr.sureAddr,fieldPlace,ZBj hs,hsz,ho,ZBE]
 unfold ZKB at h
 split at h
 ·rename_i cs
  obtain⟨hle,h⟩:=ZF0 h
  refine⟨_,h,λρ F w cx ⟨b,s,e,hF,hp,hat⟩=>⟨_,by rw[e];exact run w b s,b,s+off,rfl,hF,?_,?_⟩⟩
  ·exact ZKI λv hv=>ZCB hp v (List.mem_of_mem_drop hv)
  ·intro j v hv
   have:=hat (off+j) v (by simpa using hv)
   rw[<-this,Nat.add_assoc]
 ·rename_i id o
  refine⟨_,h,λρ F w cx ⟨b,n,hρ,e⟩=>⟨_,by rw[e];exact run w b o,b,n,hρ,rfl⟩⟩
 ·rename_i id ro c
  refine⟨_,h,λρ F w cx ⟨t',b,s,len,cap,hρ,hr,e⟩=>⟨.pointer (some ⟨b,s+(ro*t'.width+c)+off,none⟩),by subst e;exact run w b _,t',b,s,len,cap,hρ,hr,by simp[Nat.add_assoc]⟩⟩
 ·cases h
def ZF2{R α:Type}{l:List α}{i:Int}{K:α->Option R}{r:R}(h:rdL l i K=some r): ∃n:Nat,i=n/\n<l.length/\ ∃d,l[n]?=some d/\K d=some r:=by
 unfold rdL at h
 split at h
 ·rename_i h0
  rw[al_bind_iff]at h
  obtain⟨d,hd,h⟩:=h
  exact⟨i.toNat,by omega,(al_get_iff.mp hd).1,d,hd,h⟩
 ·cases h
def ZE9{R:Type}{c:Prop}[Decidable c]{K:Option R}{r:R}(h:okIf c K=some r):c/\K=some r:=by
 unfold okIf at h;split at h
 ·exact⟨by assumption,h⟩
 ·cases h
def ZKS{P:Program}{t e n:Nat}(hd:P.underlying t=some (.slice e))(hs:ZBV P e n)(w:World)(b s len cap i:Nat)(hi:i<len):
  (Instr.indexAt t (.slice (some ⟨b,s,none⟩) len cap) (.int .i64 (i:Int))).run P w= .ok (.pointer (some ⟨b,s+i*n,none⟩)) w:=by
 have h1:(0<=(i:Int)/\(i:Int)<(len:Int)):=by omega
 simp[Instr.indexAt,asIntOf,Sem.run_bind,run_underlying hd,ZBj hs,hi,ZBE]
def ZKT{P:Program}{t e n m:Nat}(hd:P.underlying t=some (.array m e))(hs:ZBV P e n)(w:World)(b s i:Nat)(hi:i<m):
  (Instr.indexAt t (.pointer (some ⟨b,s,none⟩)) (.int .i64 (i:Int))).run P w= .ok (.pointer (some ⟨b,s+i*n,none⟩)) w:=by
 simp[Instr.indexAt,asIntOf,Sem.run_bind,run_underlying hd,ZBj hs,hi,ZBE,Instr.sureAddr]
def ZCj{P:Program}{t:Nat}{ti:TI}(hT:TIok P t ti){τ:Ty}(hk:ti.kind= .sl τ): ∃e,P.underlying t=some (.slice e)/\ZKK P e τ:=by
 obtain⟨d,hd,hkd,_⟩:=hT.kind
 rw[hk]at hkd
 cases d<;>first | exact⟨_,hd,hkd⟩ | exact hkd.elim
def ZG6{P:Program}{t n w:Nat}{a:Bool}{ti:TI}(hT:TIok P t ti)(hk:ti.kind= .arr n w a): ∃e,P.underlying t=some (.array n e)/\ZBV P e w/\ZCD P e a:=by
 obtain⟨d,hd,hkd,_⟩:=hT.kind
 rw[hk]at hkd
 cases d<;>try exact hkd.elim
 obtain⟨rfl,h1,h2⟩:=hkd
 exact⟨_,hd,h1,h2⟩
def ZKU{P:Program}{t:Nat}{ti:TI}(hT:TIok P t ti)(hk:ti.kind= .str):P.underlying t=some .string:=by
 obtain⟨d,hd,hkd,_⟩:=hT.kind
 rw[hk]at hkd
 cases d<;>first | exact hd | exact hkd.elim
def ZNY{R:Type}{cs:List V}{K:List Int->Option R}{r:R}(h:ZGq cs K=some r): ∃ns:List Int,cs=ns.map i64/\K ns=some r:=by
 fun_induction ZGq cs K with
 | case1 K=>exact⟨[],rfl,h⟩
 | case2 n vs K ih=>
  obtain⟨ns,e,h⟩:=ih h
  exact⟨n::ns,by rw[e];rfl,h⟩
 | case3=>cases h
def ZKV{R:Type}{i:Int}{r:R} : ∀ {n:Nat} {K:Nat->Option R},brK i n K=some r-> ∃j,j<n/\i=(j:Int)/\K j=some r
 | 0,K,h=>by simp[brK]at h
 | n+1,K,h=>by
  simp only[brK]at h
  cases hb:decide (i=(n:Int))<;>simp only[hb,al_cond_true,al_cond_false]at h
  ·obtain⟨j,h1,h2,h3⟩:=ZKV h
   exact⟨j,by omega,h2,h3⟩
  ·exact⟨n,by omega,of_decide_eq_true hb,h⟩
def ZTM{R:Type}{P:Program}{t:Nat}{ti:TI}(hT:TIok P t ti){st:ZAI}{x i:V}{K:V->Option R}{r:R}(h:ZKA ti st x i K=some r):
  ∃v,K v=some r/\ ∀ρ F w cx ci,Core ρ F st w->RelT ρ F w x cx->RelT ρ F w i ci-> ∃c,(Instr.indexAt t cx ci).run P w= .ok c w/\RelT ρ F w v c:=by
 unfold ZKA at h
 split at h
 ·rename_i τ t' l i hk
  obtain⟨e,hd,hs,_⟩:=ZCj hT hk
  split at h<;>try (cases h;done)
  rename_i l' hc
  obtain⟨rfl,rfl⟩:=ZCE hc
  obtain⟨n,rfl,hn,d,hld,h⟩:=ZF2 h
  refine⟨_,h,λρ F w cx ci H ⟨a,cap,e1,_,hh⟩ (e2:ci=_)=> ?_⟩
  subst e1;subst e2
  rcases hh with rfl | ⟨b,s,rfl,hF,hat⟩
  ·simp at hn
  ·exact⟨_,ZKS hd hs w b s _ cap n hn,b,s+n*t'.width,rfl,hF,ZKI (ZE7 t' d),hat.row hld⟩
 ·rename_i τ id i hk
  obtain⟨e,hd,hs,_⟩:=ZCj hT hk
  split at h<;>try (cases h;done)
  rename_i t' l hl
  split at h<;>try (cases h;done)
  rename_i l' hc
  obtain⟨rfl,rfl⟩:=ZCE hc
  obtain⟨n,rfl,hn,d,hld,h⟩:=ZF2 h
  refine⟨_,h,λρ F w cx ci H ⟨t0,a,len,cap,hρ,e1⟩ (e2:ci=_)=> ?_⟩
  subst e1;subst e2
  obtain⟨rfl,hlen,hcap,hat⟩:=ZCi H hρ hl
  simp only at hn
  rcases hat with rfl | ⟨b,s,rfl,hat⟩
  ·simp at hn
  ·exact⟨_,ZKS hd hs w b s len cap n (by omega),t',b,s,len,cap,hρ,by simp;omega,by simp⟩
 ·rename_i τ id lo hi i hk
  obtain⟨e,hd,hs,_⟩:=ZCj hT hk
  split at h<;>try (cases h;done)
  rename_i t' l hl
  split at h<;>try (cases h;done)
  rename_i l' hc
  obtain⟨rfl,rfl⟩:=ZCE hc
  obtain⟨n,rfl,hn,d,hld,h⟩:=ZF2 h
  refine⟨_,h,λρ F w cx ci H ⟨t0,a,len,cap,hρ,h1,h2,h3,e1⟩ (e2:ci=_)=> ?_⟩
  subst e1;subst e2
  obtain⟨rfl,hlen,hcap,hat⟩:=ZCi H hρ hl
  simp at hn
  rcases hat with rfl | ⟨b,s,rfl,hat⟩
  ·simp at hn
  ·rw[al_if_neg]
   refine⟨_,?_,t',b,s,len,cap,hρ,by simp;omega,rfl⟩
   have:=ZKS hd hs w b (s+lo*t'.width) (hi-lo) (cap-lo) n (by omega)
   simp only[Option.map_some,ZBE,this,ZAW,Nat.add_mul,Nat.add_zero,Nat.add_assoc]
 ·rename_i n cs i hk
  obtain⟨e,hd,hs,ha⟩:=ZG6 hT hk
  obtain⟨hle,h⟩:=ZG5 h
  obtain⟨ns,hns,h⟩:=ZNY h
  obtain⟨m,rfl,hm,d,hld,h⟩:=ZF2 h
  refine⟨_,h,λρ F w cx ci H ⟨b,s,e1,hF,hp,hat⟩ (e2:ci=_)=> ?_⟩
  subst e1;subst e2
  have hnl:ns.length=n:=by have:=congrArg List.length hns;simp at this;omega
  refine⟨_,ZKT hd hs w b s m (by omega),b,s+m*1,rfl,hF,rfl,λj v hv=> ?_⟩
  have:j=0:=by have:=(al_get_iff.mp hv).1;simp at this;omega
  subst this
  simp at hv;subst hv
  have:=hat m (sv (i64 d)) (by
   rw[List.getElem?_map]
   have:cs[m]?=some (i64 d):=by
    have h1:(cs.take n)[m]?=some (i64 d):=by rw[hns,List.getElem?_map,hld];rfl
    rw[List.getElem?_take]at h1;split at h1
    ·exact h1
    ·cases h1
   rw[this];rfl)
  simpa using this
 ·rename_i n wd a id off i hk
  obtain⟨e,hd,hs,ha⟩:=ZG6 hT hk
  obtain⟨m,hm,e,h'⟩:=ZKV h
  subst e
  refine⟨_,h',λρ F w cx ci H ⟨b,k,hρ,e1⟩ (e2:ci=_)=> ?_⟩
  subst e1;subst e2
  exact⟨_,ZKT hd hs w b off m hm,b,k,hρ,by simp⟩
 ·rename_i n wd a id row col i hk
  obtain⟨e,hd,hs,ha⟩:=ZG6 hT hk
  obtain⟨m,hm,e,h'⟩:=ZKV h
  subst e
  refine⟨_,h',λρ F w cx ci H ⟨t',b,s,len,cap,hρ,hr,e1⟩ (e2:ci=_)=> ?_⟩
  subst e1;subst e2
  exact⟨_,ZKT hd hs w b _ m hm,t',b,s,len,cap,hρ,hr,by simp[Nat.add_assoc]⟩
 ·cases h
def ZTN{R:Type}{P:Program}{t:Nat}{ti:TI}(hT:TIok P t ti){x i:V}{K:V->Option R}{r:R}(h:idxK ti x i K=some r):
  ∃v,K v=some r/\ ∀ρ F w cx ci,RelT ρ F w x cx->RelT ρ F w i ci-> ∃c,(Instr.index t cx ci).run P w= .ok c w/\RelT ρ F w v c:=by
 unfold idxK at h
 split at h
 ·rename_i s i hk
  have hd:=ZKU hT hk
  obtain⟨n,rfl,hn,d,hld,h⟩:=ZF2 h
  refine⟨_,h,λρ F w cx ci (e1:cx=_) (e2:ci=_)=>⟨_,?_,rfl⟩⟩
  subst e1;subst e2
  have:(⟨⟨s⟩⟩:ByteArray)[n]?=some d:=by
   have hs:n<(⟨⟨s⟩⟩:ByteArray).size:=hn
   have:=(al_get_iff.mp hld).2
   rw[getElem?_pos (⟨⟨s⟩⟩:ByteArray) n hs,<-this];rfl
  simp[Instr.index,asIntOf,Sem.run_bind,run_underlying hd,this]
 ·rename_i n cs i hk
  obtain⟨e,hd,hs,ha⟩:=ZG6 hT hk
  obtain⟨hle,h⟩:=ZG5 h
  obtain⟨ns,hns,h⟩:=ZNY h
  obtain⟨m,rfl,hm,d,hld,h⟩:=ZF2 h
  refine⟨_,h,λρ F w cx ci ⟨ca,e1,hsz,hca⟩ (e2:ci=_)=> ?_⟩
  subst e1;subst e2
  have hnl:ns.length=n:=by have:=congrArg List.length hns;simp at this;omega
  have hcs:cs[m]?=some (i64 d):=by
   have h1:(cs.take n)[m]?=some (i64 d):=by rw[hns,List.getElem?_map,hld];rfl
   rw[List.getElem?_take]at h1;split at h1
   ·exact h1
   ·cases h1
  obtain⟨c,hc,r⟩:=hca m _ hcs
  refine⟨c,?_,r⟩
  have hi2: ¬(n<=m):=by omega
  simp[Instr.index,asIntOf,Sem.run_bind,run_underlying hd,ZBj hs,hi2,part,ZE8 ha,hc]
 ·cases h
def ZTO{R:Type}{P:Program}{t:Nat}{ti:TI}(hT:TIok P t ti){st:ZAI}{x:V}{K:V->Option R}{r:R}(h:lenK ti st x K=some r):
  ∃v,K v=some r/\ ∀ρ F w cx ty,Core ρ F st w->RelT ρ F w x cx-> ∃c,(Builtin.len_ #[t] ty #[cx]).run P w= .ok c w/\RelT ρ F w v c:=by
 unfold lenK at h
 split at h
 ·rename_i n wd a hk
  obtain⟨e,hd,hs,ha⟩:=ZG6 hT hk
  exact⟨_,h,λρ F w cx ty H r=>⟨goInt n,by simp[Builtin.len_,run_underlying hd],rfl⟩⟩
 ·rename_i s hk
  have hd:=ZKU hT hk
  exact⟨_,h,λρ F w cx ty H (e:cx=_)=>⟨goInt s.length,by subst e;simp[Builtin.len_,run_underlying hd];rfl,rfl⟩⟩
 ·rename_i τ hk
  obtain⟨e,hd,_⟩:=ZCj hT hk
  exact⟨_,h,λρ F w cx ty H (e:cx=_)=>⟨goInt 0,by subst e;simp[Builtin.len_,run_underlying hd],rfl⟩⟩
 ·rename_i τ t' l hk
  obtain⟨e,hd,_⟩:=ZCj hT hk
  exact⟨_,h,λρ F w cx ty H ⟨a,cap,e,_⟩=>⟨goInt l.length,by subst e;simp[Builtin.len_,run_underlying hd],rfl⟩⟩
 ·rename_i τ id hk
  obtain⟨e,hd,_⟩:=ZCj hT hk
  split at h<;>try (cases h;done)
  rename_i t' l hl
  refine⟨_,h,λρ F w cx ty H ⟨t0,a,len,cap,hρ,e⟩=> ?_⟩
  obtain⟨rfl,hlen,_⟩:=ZCi H hρ hl
  exact⟨goInt l.length,by subst e;simp[Builtin.len_,run_underlying hd,hlen],rfl⟩
 ·rename_i τ id lo hi hk
  obtain⟨e,hd,_⟩:=ZCj hT hk
  exact⟨_,h,λρ F w cx ty H ⟨t0,a,len,cap,hρ,h1,h2,h3,e⟩=>⟨goInt ((hi-lo:Nat):Int),by subst e;simp[Builtin.len_,run_underlying hd],rfl⟩⟩
 ·cases h
def ZTP{R:Type}{P:Program}{vs:List V}{a:Int}{K:V->Option R}{r:R}(h:ZE1 mn a vs K=some r):
  ∃v,K v=some r/\ ∀ρ F w (cs:List Value),cs.length=vs.length->(∀(i:Nat) (v:V),vs[i]?=some v-> ∃c,cs[i]?=some c/\RelT ρ F w v c)->
   ∃c,(cs.foldlM Builtin.min2 (.int .i64 a)).run P w= .ok c w/\RelT ρ F w v c:=by
 fun_induction ZE1 mn a vs K with
 | case1 a K=>exact⟨_,h,λρ F w cs hl _=>⟨.int .i64 a,by cases cs<;>simp at hl⊢,rfl⟩⟩
 | case2 a b vs K ih=>
  obtain⟨v',hv,ih⟩:=ih h
  refine⟨v',hv,λρ F w cs hl hc=> ?_⟩
  cases cs with
  | nil=>simp at hl
  | cons c cs=>
   obtain⟨c0,e0,r0⟩:=hc 0 _ rfl
   simp at e0;subst e0
   cases (r0:c=_)
   obtain⟨c',h1,h2⟩:=ih ρ F w cs (by simpa using hl) (λi v hv=>by simpa using hc (i+1) v (by simpa using hv))
   refine⟨c',?_,h2⟩
   simp only[List.foldlM_cons,Sem.run_bind,Builtin.min2,Sem.run_pure,Result.andThen_ok]
   exact h1
 | case3=>cases h
def ZTQ{R:Type}{P:Program}{vs:List V}{a:Int}{K:V->Option R}{r:R}(h:ZE1 mx a vs K=some r):
  ∃v,K v=some r/\ ∀ρ F w (cs:List Value),cs.length=vs.length->(∀(i:Nat) (v:V),vs[i]?=some v-> ∃c,cs[i]?=some c/\RelT ρ F w v c)->
   ∃c,(cs.foldlM Builtin.max2 (.int .i64 a)).run P w= .ok c w/\RelT ρ F w v c:=by
 fun_induction ZE1 mx a vs K with
 | case1 a K=>exact⟨_,h,λρ F w cs hl _=>⟨.int .i64 a,by cases cs<;>simp at hl⊢,rfl⟩⟩
 | case2 a b vs K ih=>
  obtain⟨v',hv,ih⟩:=ih h
  refine⟨v',hv,λρ F w cs hl hc=> ?_⟩
  cases cs with
  | nil=>simp at hl
  | cons c cs=>
   obtain⟨c0,e0,r0⟩:=hc 0 _ rfl
   simp at e0;subst e0
   cases (r0:c=_)
   obtain⟨c',h1,h2⟩:=ih ρ F w cs (by simpa using hl) (λi v hv=>by simpa using hc (i+1) v (by simpa using hv))
   refine⟨c',?_,h2⟩
   simp only[List.foldlM_cons,Sem.run_bind,Builtin.max2,Sem.run_pure,Result.andThen_ok]
   exact h1
 | case3=>cases h
end Ev
end
section
namespace Ev
open Go
def Rho.set(ρ:Rho)(id:Nat)(loc:Loc):Rho:=λi=>if i=id then some loc else ρ i
def Rho.set_same(ρ:Rho)(id:Nat)(loc:Loc):ρ.set id loc id=some loc:=by simp[Rho.set]
def Rho.set_other(ρ:Rho){id i:Nat}(loc:Loc)(h:i≠id):ρ.set id loc i=ρ i:=by simp[Rho.set,h]
def ZG7{σ:ZAI}{id:Nat}{b:Blk} :look ((id,b)::σ) id=some b:=by simp[look]
def ZES{σ:ZAI}{id i:Nat}{b:Blk}(h:i≠id):look ((id,b)::σ) i=look σ i:=by
 have:Nat.beq id i=false:=by
  cases h':Nat.beq id i
  ·rfl
  ·exact absurd (ZAb h').symm h
 simp[look,this]
def ZF3{R:Type}{st:ZAI}{id:Nat}{b:Blk}{K:ZAI->Option R}{r:R}(h:newK st id b K=some r):look st id=none/\K ((id,b)::st)=some r:=by
 unfold newK at h;split at h
 ·exact⟨by assumption,h⟩
 ·cases h
def ZNZ{ρ:Rho}{F:Nat->Prop}{w w':World}{id:Nat}{loc:Loc}(hρ:ρ id=none)(hw: ∀b,F b->w'.heap[b]?=w.heap[b]?){X:Nat->Prop} :Ext X ρ F w (ρ.set id loc) F w':=
 ⟨λi l _ h=>by rw[Rho.set_other _ _ (λe=>by rw[e,hρ]at h;cases h)];exact h,λ_ h=>h,hw⟩
def ZIQ{calm:Prop}{dst:Nat}{ρ:Rho}{F:Nat->Prop}{s:St}{w w':World}{id:Nat}{blk:Blk}{loc:Loc}{v:V}{c:Value}
  (H:Core ρ F s.st w) (hM: ∀b,ρ.M b->b<w.heap.size) (hl:look s.st id=none) (hρ:ρ id=none) (hid:ZCC dst id) (hge:100<=id)
  (hw:Chg (λ_=>False) w w') (hb: ∀b,loc.block=some b->w.heap.size<=b/\b<w'.heap.size)
  (hat:ZCh (ρ.set id loc) F w' loc blk) (hv:RelT (ρ.set id loc) F w' v c):
  Post calm dst ρ F s w v ⟨s.fr,(id,blk)::s.st⟩ (ρ.set id loc) F w' c:=by
 have mem: ∀b,b<w.heap.size->w'.heap[b]?=w.heap[b]?:=λb hb=>hw.block b hb (λe=>e)
 have E:Ext (λ_=>False) ρ F w (ρ.set id loc) F w':=ZNZ hρ λb hF=>mem b (H.stable b hF).1
 have hM': ∀b,(ρ.set id loc).M b->ρ.M b\/w.heap.size<=b:=by
  rintro b ⟨i,l,hi,hbl⟩
  by_cases e:i=id
  ·subst e;rw[Rho.set_same]at hi;cases hi;exact .inr (hb b hbl).1
  ·rw[Rho.set_other _ _ e]at hi;exact .inl ⟨i,l,hi,hbl⟩
 refine⟨ZFv (λi=>i=id) H ?_ ?_ ?_ ?_ ?_ ?_ (H.glob.keep (λ_ h=>h) λb hF=>mem b (H.stable b hF).1),⟨hw.mono λ_ h=>h.elim,hM',λ_ h=> .inl h⟩,hv,λt x r=>RelT.ext0 E r,rfl,?_,?_,?_,λ_=>⟨rfl,?_,?_,?_,?_,mem,λ_ h=>h⟩,⟨λ_=>False,E,λ_ h=>h.elim⟩,λi l h1=>(by
  by_cases e:i=id
  ·subst e;rw[ZG7];exact .inl (by simp)
  ·rw[Rho.set_other _ _ e]at h1
   rw[ZES e]
   cases hx:look s.st i with
   | none=>exact .inr ⟨rfl,h1⟩
   | some b=>exact .inl (by simp)),λi l b _ h1 h2=>mem b (hM b ⟨i,l,h1,h2⟩)⟩
 ·intro i l b hi h1 h2
  rw[Rho.set_other _ _ hi]at h1
  exact mem b (hM b ⟨i,l,h1,h2⟩)
 ·intro i l hi h1;rwa[Rho.set_other _ _ hi]at h1
 ·intro i b' hi h1
  rw[ZES hi]at h1
  refine⟨b',h1,?_⟩
  cases b' with
  | rows t l=>rfl
  | box cs=>
   refine⟨rfl,λi v v' h1 h2 c r=> ?_⟩
   rw[h1]at h2;cases h2
   exact RelC.ext0 E r
 ·intro i l b' hi h1 h2
  subst hi
  rw[Rho.set_same]at h1;cases h1
  rw[ZG7]at h2;cases h2
  exact hat
 ·intro i j li lj b hi h1 h2 h3 h4
  subst hi
  rw[Rho.set_same]at h1;cases h1
  by_cases e:j=i
  ·exact e.symm
  ·rw[Rho.set_other _ _ e]at h2
   have:=hM b ⟨j,lj,h2,h4⟩
   have:=(hb b h3).1
   omega
 ·intro b hF
  have:=(H.stable b hF)
  exact⟨Nat.lt_of_lt_of_le this.1 hw.size,λh=>(hM' b h).elim this.2 λh=>by omega⟩
 ·intro hd i l h1
  by_cases e:i=id
  ·subst e;rw[ZG7];simp
  ·rw[Rho.set_other _ _ e]at h1;rw[ZES e];exact hd i l h1
 ·intro i hi h2
  have e:i≠id:=by omega
  simp only at h2
  rwa[ZES e]at h2
 ·intro i l hi h1 h2
  have e:i≠id:=by omega
  rw[Rho.set_other _ _ e];exact h1
 ·intro i l h;rw[Rho.set_other _ _ (λe=>by rw[e,hρ]at h;cases h)];exact h
 ·intro i l h
  by_cases e:i=id
  ·subst e;exact .inr ⟨hid,by rw[ZG7];simp⟩
  ·rw[Rho.set_other _ _ e]at h;exact .inl h
 ·intro i b h;rw[ZES (λe=>by rw[e,hl]at h;cases h)];exact h
 ·intro i b h
  by_cases e:i=id
  ·subst e;exact .inr hid
  ·rw[ZES e]at h;exact .inl h
def ZET(o:Oper):100<=idOf o:=by unfold idOf;omega
def ZDt(dst:Nat):ZCC dst dst:=⟨0,by simp⟩
def ZNa(w:World)(o:Obj)(b:Nat)(hb:b<w.heap.size):(w.alloc o).heap[b]?=w.heap[b]?:=by
 show(w.heap.push o)[b]?=_
 rw[Array.getElem?_push,al_if_neg]
def ZB4(w:World)(o:Obj):Chg (λ_=>False) w (w.alloc o):=⟨rfl,rfl,rfl,by simp,λb hb _=>ZNa w o b hb,DR.refl _⟩
def ZKW(w:World)(o:Obj):Chg (λ_=>False) w (w.drew.alloc o):=⟨rfl,rfl,rfl,by simp,λb hb _=>ZNa w.drew o b hb,DR.succ _⟩
def ZCw(w:World)(arr:Array Value)(e:Nat):RowB (w.alloc (.cells arr e)) w.heap.size arr:=⟨e,0,0,heap_alloc_new w _,λi _=>by omega⟩
def ZIR(w:World)(arr:Array Value)(e:Nat):RowB (w.drew.alloc (.cells arr e)) w.heap.size arr:=⟨e,0,0,heap_alloc_new w.drew _,λi _=>by omega⟩
def ZG8{ρ:Rho}{F:Nat->Prop}{w:World}{v:V}{c:Value}(hu:v≠ .undef)(ht: ∀vs,v≠ .tup vs)(h:RelT ρ F w v c):
  c.cells.size=v.cs.length/\ ∀(i:Nat) (u:V),v.cs[i]?=some u-> ∃x,c.cells[i]?=some x/\RelC ρ F w u x:=by
 cases v with
 | agg cs=>
  obtain⟨ca,rfl,hs,hr⟩:=h
  exact⟨hs,hr⟩
 | tup vs=>exact absurd rfl (ht vs)
 | undef=>exact absurd rfl hu
 | _=>
  have hc:c.cells= #[c]:=by
   cases c<;>first | rfl | skip
   rename_i cells
   exfalso
   simp only[RelT,RelA,RelC,RelB]at h
   first
    | (cases h;done)
    | (obtain⟨_,_,h,_⟩:=h;cases h;done)
    | (obtain⟨_,_,_,_,_,h⟩:=h;cases h;done)
    | (obtain⟨_,_,_,_,_,_,_,_,h⟩:=h;cases h;done)
    | (obtain⟨_,_,_,h⟩:=h;cases h;done)
    | (obtain⟨_,_,_,_,_,_,_,h⟩:=h;cases h;done)
    | (obtain⟨_,h,_⟩:=h;cases h;done)
  rw[hc]
  refine⟨rfl,λi u hu=> ?_⟩
  cases i with
  | zero=>simp[V.cs]at hu;subst hu;exact⟨c,rfl,h⟩
  | succ i=>simp[V.cs]at hu
def ZNb{ρ:Rho}{F:Nat->Prop}{w:World}{v:V}{c:Value}(hp: ∀u∈v.cs,u.plain=true)(h:RelT ρ F w v c):c.cells.toList=v.cs.map sv:=by
 have hu:v≠ .undef:=λe=>by subst e;have:=hp .undef (by simp[V.cs]);cases this
 have ht: ∀vs,v≠ .tup vs:=λvs e=>by subst e;have:=hp (.tup vs) (by simp[V.cs]);cases this
 obtain⟨h1,h2⟩:=ZG8 hu ht h
 refine List.ext_getElem? λi=> ?_
 rw[List.getElem?_map,Array.getElem?_toList]
 cases hc:v.cs[i]? with
 | none=>
  have:v.cs.length<=i:=by simpa using hc
  simp;omega
 | some u=>
  obtain⟨x,hx,r⟩:=h2 i u hc
  have hv:=hp u (al_mem_get hc)
  have r':RelB ρ F w u x:=by rcases ZDa hv with ⟨k,n,rfl⟩ | ⟨b,rfl⟩ | ⟨s,rfl⟩<;>exact r
  rw[hx,(RelB.plain hv).mp r'];rfl
end Ev
end
section
namespace Ev
open Go
def ZNc{ρ:Rho}{F:Nat->Prop}{w:World}{v:V}(h:zpB v=true):RelC ρ F w v (sv v):=by
 unfold zpB at h
 rw[Bool.or_eq_true]at h
 rcases h with h | h
 ·exact ZKQ ((RelB.plain h).mpr rfl)
 ·split at h
  ·rfl
  ·cases h
def ZNd{ρ:Rho}{F:Nat->Prop}{w:World}{b:Nat}{arr:Array Value}{cs:List V}(hr:RowB w b arr)(hs:arr.size=cs.length)
  (h: ∀(i:Nat) (v:V),cs[i]?=some v-> ∃c,arr[i]?=some c/\RelC ρ F w v c):ZCh ρ F w (.box b cs.length) (.box cs):=⟨rfl,arr,hr,hs,h⟩
def ZTR{P:Program}{calm:Prop}{o:Oper}{s:St}{t dst:Nat}{ti:TI}(hT:TIok P t ti)(ho:o.op= .alloc t)(hd:idOf o=dst)(hl:look s.st dst=none):
  OpOK P calm o s (.lptr dst 0) ⟨s.fr,(dst,.box ti.zero)::s.st⟩:=by
 intro ρ F a w H hM hf hr N Q hN
 obtain⟨z,hz,hc⟩:=ZIP hT.zero w
 have hrun:(execOp a.eval o).run P w= .ok (.value (.pointer (some ⟨w.heap.size,0,none⟩))) (w.alloc (.cells z.cells t)):=by
  simp[execOp,ho,Instr.alloc,hz,newVar,newRow]
 unfold Oper.wp
 rw[hrun]
 subst hd
 have hρ:=hf _ hl (ZDt _)
 refine hN _ _ (ρ.set (idOf o) (.box w.heap.size ti.zero.length)) F (ZIQ H hM hl hρ (ZDt _) (ZET o) (ZB4 _ _) ?_ ?_ ?_)
 ·intro b hb;simp[Loc.block]at hb;subst hb;simp
 ·refine ZNd (ZCw w _ _) (by rw[<-Array.length_toList,hc];simp) λi v hv=> ?_
  have hz:=ZCB hT.zpure v (al_mem_get hv)
  exact⟨sv v,by rw[<-Array.getElem?_toList,hc,List.getElem?_map,hv];rfl,ZNc hz⟩
 ·exact⟨w.heap.size,ti.zero.length,Rho.set_same _ _ _,rfl⟩
def ZTS{P:Program}{calm:Prop}{o:Oper}{s:St}{t dst:Nat}{x:Operand}{v:V}(ho:o.op= .box t x)(hd:idOf o=dst)(hl:look s.st dst=none)
  (hv:opd s.fr x=v) (hu:v≠ .undef) (ht: ∀vs,v≠ .tup vs):OpOK P calm o s (.lptr dst 0) ⟨s.fr,(dst,.box v.cs)::s.st⟩:=by
 intro ρ F a w H hM hf hr N Q hN
 have r:RelT ρ F w v (a.eval x):=hv▸ZCa x λt e=>hr t (by simp[ZBU,ho,Op.operands,e])
 obtain⟨h1,h2⟩:=ZG8 hu ht r
 have hrun:(execOp a.eval o).run P w= .ok (.value (.pointer (some ⟨w.heap.size,0,none⟩))) (w.alloc (.cells (a.eval x).cells t)):=by
  simp[execOp,ho,Instr.box,newVar,newRow]
 unfold Oper.wp
 rw[hrun]
 subst hd
 have hρ:=hf _ hl (ZDt _)
 have E:Ext (λ_=>False) ρ F w (ρ.set (idOf o) (.box w.heap.size v.cs.length)) F (w.alloc (.cells (a.eval x).cells t)):=
  ZNZ hρ λb hb=>(ZB4 w _).block b (H.stable b hb).1 (λe=>e)
 refine hN _ _ (ρ.set (idOf o) (.box w.heap.size v.cs.length)) F (ZIQ H hM hl hρ (ZDt _) (ZET o) (ZB4 _ _) ?_ ?_ ?_)
 ·intro b hb;simp[Loc.block]at hb;subst hb;simp
 ·refine ZNd (ZCw w _ _) h1 λi u hu=> ?_
  obtain⟨c,hc,r⟩:=h2 i u hu
  exact⟨c,hc,RelC.ext0 E r⟩
 ·exact⟨w.heap.size,v.cs.length,Rho.set_same _ _ _,rfl⟩
def ZKX{calm:Prop}{dst:Nat}{ρ:Rho}{F:Nat->Prop}{s:St}{w w':World}{τ:Ty}{l:List τ.den}{arr:Array Value}{cap:Nat}
  (H:Core ρ F s.st w) (hM: ∀b,ρ.M b->b<w.heap.size) (hl:look s.st dst=none) (hρ:ρ dst=none) (hge:100<=dst) (hw:Chg (λ_=>False) w w') (hsz:w.heap.size<w'.heap.size)
  (hr:RowB w' w.heap.size arr) (hcap:l.length<=cap) (hs:cap*τ.width<=arr.size) (hat:At w' w.heap.size 0 (flat τ l)):
  Post calm dst ρ F s w (.own dst) ⟨s.fr,(dst,.rows τ l)::s.st⟩ (ρ.set dst (.row τ (some ⟨w.heap.size,0,none⟩) l.length cap)) F w' (.slice (some ⟨w.heap.size,0,none⟩) l.length cap):=by
 refine ZIQ H hM hl hρ (ZDt _) hge hw ?_ ?_ ?_
 ·intro b hb
  simp only[Loc.block]at hb
  split at hb
  ·cases hb
  ·cases hb;exact⟨Nat.le_refl _,hsz⟩
 ·exact⟨rfl,rfl,hcap,.inr ⟨_,0,arr,rfl,hr,by simpa using hs,hat⟩⟩
 ·exact⟨τ,_,_,_,Rho.set_same _ _ _,rfl⟩
def ZNe(τ:Ty)(d:τ.den): ∀(n i:Nat),i<n*τ.width->(flat τ (List.replicate n d))[i]?=((τ.cells d).map sv)[i % τ.width]?
 | 0,i,h=>by simp at h
 | n+1,i,h=>by
  rw[List.replicate_succ,ZCP]
  have hw:=ZF1 τ
  by_cases hi:i<τ.width
  ·rw[List.getElem?_append_left (by simp[ZBb];exact hi),Nat.mod_eq_of_lt hi]
  ·rw[List.getElem?_append_right (by simp[ZBb];omega)]
   simp only[List.length_map,ZBb]
   rw[ZNe τ d n (i-τ.width) (by rw[Nat.succ_mul]at h;omega)]
   congr 1
   rw[<-Nat.mod_eq_sub_mod (by omega)]
def ZNf{τ:Ty}{z:Array Value}(hz:z.toList=(τ.cells τ.zero).map sv)(n:Nat):(madeCells z (n*τ.width)).toList=flat τ (List.replicate n τ.zero):=by
 have hsz:z.size=τ.width:=by rw[<-Array.length_toList,hz];simp[ZBb]
 refine List.ext_getElem? λi=> ?_
 have hw:=ZF1 τ
 by_cases hi:i<n*τ.width
 ·rw[ZNe τ τ.zero n i hi,<-hz]
  have:i % τ.width<z.size:=by rw[hsz];exact Nat.mod_lt _ hw
  simp[madeCells,hi,hsz,getElem!_def,Array.getElem?_eq_getElem this]
 ·rw[List.getElem?_eq_none (by simp[madeCells];omega),List.getElem?_eq_none (by rw[ZAy];simp;omega)]
def ZG9{w:World}{b s:Nat}{arr:Array Value}{vs:List Value}(h:RowB w b arr)(hv: ∀i v,vs[i]?=some v->arr[s+i]?=some v):At w b s vs:=
 λi v hi=>by rw[ZAs h];exact hv i v hi
def ZKY{R:Type}{n:Nat}{K:Option R}{r:R}(h:capK n K=some r):n<=lim/\K=some r:=by
 unfold capK at h;split at h
 ·exact⟨by assumption,h⟩
 ·cases h
def ZTT{P:Program}{calm:Prop}{o:Oper}{s:St}{t dst:Nat}{l c:Operand}{τ:Ty}{ti:TI}{n:Int}(hT:TIok P t ti)(hk:ti.kind= .sl τ)(ho:o.op= .makeSlice t l c)
  (hd:idOf o=dst) (hl:look s.st dst=none) (hn:opd s.fr l= .int .i64 n) (hlc:ZI l c=true) (h0:0<=n) (hlim:n.toNat<=lim):
  OpOK P calm o s (.own dst) ⟨s.fr,(dst,.rows τ (List.replicate n.toNat τ.zero))::s.st⟩:=by
 intro ρ F a w H hM hf hr N Q hN
 obtain⟨e,hde,⟨i,hi,hsize⟩,⟨i',z,hi',hz,hzc⟩,_,⟨i'',hi'',hb⟩,_⟩:=ZCj hT hk
 rw[hi]at hi' hi'';cases hi';cases hi''
 have e1:a.eval l= .int .i64 n:=by
  have:=ZCa (ρ:=ρ) (F:=F) (w:=w) (fr:=s.fr) (a:=a) l λt e=>hr t (by simp[ZBU,ho,Op.operands,e])
  rw[hn]at this;exact this
 have e2: ∃k,a.eval c= .int k n:=by
  unfold ZI at hlc
  split at hlc
  ·have:=ZAb hlc;subst this;exact⟨_,e1⟩
  ·rename_i k1 x k2 y
   have:x=y:=of_decide_eq_true hlc
   subst this
   simp[Act.eval]at e1
   exact⟨k2,by simp[Act.eval,e1.2]⟩
  ·cases hlc
 obtain⟨k,e2⟩:=e2
 have hlim':n<=1099511627776:=by unfold lim at hlim;omega
 have hrun:=run_make (P:=P) w t e i z hde hi hz .i64 k n n h0 (Int.le_refl _) (by
  have:(i.bytes:Int)<=128:=by omega
  have h1:(i.bytes:Int)*n<=128*n:=Int.mul_le_mul_of_nonneg_right this h0
  omega) (by omega)
 have hrun':(execOp a.eval o).run P w= .ok (.value (.slice (some ⟨w.heap.size,0,none⟩) n.toNat n.toNat)) (w.alloc (.cells (madeCells z.cells (n.toNat*i.size)) e)):=by
  simp[execOp,ho,e1,e2,hrun]
 unfold Oper.wp
 rw[hrun']
 subst hd
 have hρ:=hf _ hl (ZDt _)
 rw[hsize]
 have hm:=ZNf (τ:=τ) hzc n.toNat
 have hrow:=ZCw w (madeCells z.cells (n.toNat*τ.width)) e
 have P1:=ZKX (calm:=calm) (dst:=idOf o) (s:=s) (l:=List.replicate n.toNat τ.zero) (cap:=n.toNat) H hM hl hρ (ZET o) (ZB4 w (.cells (madeCells z.cells (n.toNat*τ.width)) e)) (by simp) hrow (by simp) (by simp[size_madeCells])
  (ZG9 hrow λi v hv=>by rw[<-hm,Array.getElem?_toList]at hv;simpa using hv)
 rw[List.length_replicate]at P1
 exact hN _ _ _ F P1
def ZNg: ∀(vs:List Value) (off k:Nat) (cs:Array Value) (i:Nat),off+k+vs.length<=cs.size->
  ((vs.zipIdx k).foldl (λcs (x:Value×Nat)=>cs.setIfInBounds (off+x.2) x.1) cs)[i]?=if off+k<=i/\i<off+k+vs.length then vs[i-(off+k)]? else cs[i]?
 | [],off,k,cs,i,h=>by simp;omega
 | v::vs,off,k,cs,i,h=>by
  simp only[al_len_cons]at h
  rw[List.zipIdx_cons,List.foldl_cons]
  simp only[]
  have ih:=ZNg vs off (k+1) (cs.setIfInBounds (off+k) v) i (by simp;omega)
  simp only[<-Nat.add_assoc]at ih⊢
  rw[ih]
  by_cases h1:i=off+k
  ·subst h1
   rw[al_if_neg,al_if_pos (by simp),Nat.sub_self]
   simp[Array.getElem?_setIfInBounds,show off+k<cs.size by omega]
  ·by_cases h2:off+k+1<=i/\i<off+k+1+vs.length
   ·rw[al_if_pos h2,al_if_pos (by simp;omega),show i-(off+k)=(i-(off+k+1))+1 by omega,List.getElem?_cons_succ]
   ·rw[al_if_neg h2,al_if_neg (by simp;omega),Array.getElem?_setIfInBounds_ne (by omega)]
def ZNh: ∀(vs:List Value) (off k:Nat) (cs:Array Value),((vs.zipIdx k).foldl (λcs (x:Value×Nat)=>cs.setIfInBounds (off+x.2) x.1) cs).size=cs.size
 | [],_,_,_=>rfl
 | v::vs,off,k,cs=>by
  rw[List.zipIdx_cons,List.foldl_cons]
  rw[ZNh vs off (k+1)];simp
def ZNi{place:Nat->Option (Nat×Nat)}{cells:Array Value}{i off size:Nat}{v:Value}{rest:List (Nat×Value)}(hp:place i=some (off,size))(h1:v.cells.size=size)(h2:off+size<=cells.size):
  ∃cells':Array Value,Instr.fill place cells ((i,v)::rest)=Instr.fill place cells' rest/\cells'.size=cells.size/\
   ∀j:Nat,cells'[j]?=if off<=j/\j<off+size then v.cells[j-off]? else cells[j]?:=by
 refine⟨v.cells.zipIdx.foldl (λcs (c,j)=>cs.setIfInBounds (off+j) c) cells,?_,?_,λj=> ?_⟩
 ·simp only[Instr.fill,hp]
  rw[al_if_neg (by simp[h1];omega)]
 ·rw[<-Array.foldl_toList,Array.toList_zipIdx]
  exact ZNh v.cells.toList off 0 cells
 ·rw[<-Array.foldl_toList,Array.toList_zipIdx]
  have:=ZNg v.cells.toList off 0 cells j (by simp;omega)
  simp only[Nat.add_zero,Array.length_toList,Array.getElem?_toList,h1]at this
  exact this
end Ev
end
section
namespace Ev
open Go
def ZH{R:Type} : ∀ {n:Nat} {vs cs:List V} {K:List V->Option R} {r:R},layK n vs cs K=some r->
  ∃cs',K cs'=some r/\n+vs.length<=cs.length/\cs'.length=cs.length/\ ∀j:Nat,cs'[j]?=if n<=j/\j<n+vs.length then vs[j-n]? else cs[j]?
 | 0,[],cs,K,r,h=>⟨cs,by simpa[layK]using h,by simp,rfl,λj=>by simp⟩
 | 0,v::vs,[],K,r,h=>by simp[layK]at h
 | 0,v::vs,c::cs,K,r,h=>by
  obtain⟨cs',hk,h1,h2,h3⟩:=ZH (n:=0) (vs:=vs) (cs:=cs) (by simpa only[layK]using h)
  refine⟨v::cs',hk,by simp at h1⊢;omega,by simp[h2],λj=> ?_⟩
  cases j with
  | zero=>simp
  | succ j=>
   have:=h3 j
   simp only[Nat.zero_le,true_and,Nat.zero_add,Nat.sub_zero,List.getElem?_cons_succ,al_len_cons,Nat.add_lt_add_iff_right]at this⊢
   exact this
 | n+1,vs,[],K,r,h=>by simp[layK]at h
 | n+1,vs,c::cs,K,r,h=>by
  obtain⟨cs',hk,h1,h2,h3⟩:=ZH (n:=n) (vs:=vs) (cs:=cs) (by cases vs<;>simpa only[layK]using h)
  refine⟨c::cs',hk,by simp;omega,by simp[h2],λj=> ?_⟩
  cases j with
  | zero=>simp
  | succ j=>
   rw[List.getElem?_cons_succ,h3 j,List.getElem?_cons_succ]
   by_cases hj:n<=j/\j<n+vs.length
   ·rw[al_if_pos hj,al_if_pos];congr 1;omega
   ·rw[al_if_neg hj,al_if_neg]
def ZIS(ρ:Rho)(F:Nat->Prop)(w:World)(cs:List V)(ca:Array Value):Prop:=ca.size=cs.length/\ ∀(i:Nat) (v:V),cs[i]?=some v-> ∃c,ca[i]?=some c/\RelC ρ F w v c
def ZNj{R:Type}{place:Nat->Option (Nat×Nat)}{flds:List (Nat×Nat×Bool)}(hp: ∀i off size a,flds[i]?=some (off,size,a)->place i=some (off,size)):
  ∀ {ps:List (Nat×V)} {cs:List V} {K:List V->Option R} {r:R},ZEK flds ps cs K=some r->
  ∃cs',K cs'=some r/\ ∀ρ F w (ca:Array Value) (pc:List (Nat×Value)),ZIS ρ F w cs ca->pc.length=ps.length->(∀(i:Nat) j v,ps[i]?=some (j,v)-> ∃c,pc[i]?=some (j,c)/\RelT ρ F w v c)->
   ∃ca',Instr.fill place ca pc=some ca'/\ZIS ρ F w cs' ca'
 | [],cs,K,r,h=>⟨cs,h,λρ F w ca pc hr hl _=>⟨ca,by cases pc<;>simp[Instr.fill]at hl⊢,hr⟩⟩
 | (i,v)::ps,cs,K,r,h=>by
  simp only[ZEK]at h
  split at h<;>try (cases h;done)
  rename_i off size a hf
  cases hb:(Nat.beq size v.cs.length && v.val)<;>simp only[hb,al_cond_true,al_cond_false]at h
  ·cases h
  rw[ZAJ]at hb
  have hsz:=ZAb hb.1
  have hu:v≠ .undef:=λe=>by subst e;exact Bool.false_ne_true hb.2
  have ht: ∀vs,v≠ .tup vs:=λvs e=>by subst e;exact Bool.false_ne_true hb.2
  obtain⟨cs1,h,h1,h2,h3⟩:=ZH h
  obtain⟨cs',hk,ih⟩:=ZNj hp h
  refine⟨cs',hk,λρ F w ca pc hr hl hc=> ?_⟩
  cases pc with
  | nil=>simp at hl
  | cons p pc=>
   obtain⟨c,e,r⟩:=hc 0 i v rfl
   simp at e;subst e
   obtain⟨g1,g2⟩:=ZG8 hu ht r
   obtain⟨ca1,hfill,hs,hg⟩:=ZNi (v:=c) (rest:=pc) (hp i off size a hf) (by omega) (by rw[hr.1,hsz];exact h1)
   obtain⟨ca',hfill',hr'⟩:=ih ρ F w ca1 pc ⟨by rw[hs,hr.1,h2],λj u hu=>by
    rw[h3]at hu
    rw[hg]
    rw[<-hsz]at hu
    by_cases hj:off<=j/\j<off+size
    ·rw[al_if_pos hj]at hu⊢;exact g2 _ _ hu
    ·rw[al_if_neg hj]at hu⊢;exact hr.2 _ _ hu⟩ (by simpa using hl) (λj k u hu=>by simpa using hc (j+1) k u (by simpa using hu))
   exact⟨ca',by rw[hfill,hfill'],hr'⟩
def ZNk{α β:Type}{P:Program}{w:World}{f:α->Sem β} : ∀ {l:List α},(∀x∈l,∃y,(f x).run P w= .ok y w)-> ∃ys:List β,(l.mapM f).run P w= .ok ys w/\ys.length=l.length/\
  ∀(i:Nat) (x:α),l[i]?=some x-> ∃y,ys[i]?=some y/\(f x).run P w= .ok y w
 | [],_=>⟨[],by simp,rfl,λi x h=>by simp at h⟩
 | x::l,h=>by
  obtain⟨y,hy⟩:=h x (by simp)
  obtain⟨ys,h1,h2,h3⟩:=ZNk (l:=l) (λy hy=>h y (by simp[hy]))
  refine⟨y::ys,?_,by simp[h2],λi z hz=> ?_⟩
  ·rw[List.mapM_cons]
   simp only[Sem.run_bind,hy,Result.andThen_ok,h1,Sem.run_pure]
  ·cases i with
   | zero=>simp at hz;subst hz;exact⟨y,rfl,hy⟩
   | succ i=>simpa using h3 i z (by simpa using hz)
def ZNl{ρ:Rho}{F:Nat->Prop}{w:World}{cs:List V}{ca:Array Value}(hz:allB zpB cs=true)(h:ca.toList=cs.map sv):ZIS ρ F w cs ca:=by
 refine⟨by rw[<-Array.length_toList,h];simp,λi v hv=>⟨sv v,by rw[<-Array.getElem?_toList,h,List.getElem?_map,hv];rfl,ZNc (ZCB hz v (al_mem_get hv))⟩⟩
def ZNm{fr:List V}{ps:Array (Nat×Operand)}{i j:Nat}{v:V}(h:(ZDr fr ps.toList)[i]?=some (j,v)): ∃x,ps[i]?=some (j,x)/\v=opd fr x:=by
 unfold ZDr at h
 rw[List.getElem?_map,Array.getElem?_toList]at h
 cases hp:ps[i]? with
 | none=>simp[hp]at h
 | some p=>
  simp[hp]at h
  exact⟨p.2,by rw[<-h.1],h.2.symm⟩
def ZTU{R:Type}{P:Program}{t:Nat}{ti:TI}(hT:TIok P t ti)(hag:ti.kind= .struct\/ ∃n w a,ti.kind= .arr n w a){ps:List (Nat×V)}{K:List V->Option R}{r:R}(h:ZEK ti.flds ps ti.zero K=some r):
  ∃cs,K cs=some r/\ ∀ρ F w (pc:Array (Nat×Value)),pc.size=ps.length->(∀(i:Nat) j v,ps[i]?=some (j,v)-> ∃c,pc[i]?=some (j,c)/\RelT ρ F w v c)->
   ∃ca,(Instr.build t pc).run P w= .ok (.agg ca) w/\ZIS ρ F w cs ca:=by
 obtain⟨d,hd,hk,hfl⟩:=hT.kind
 rcases hag with hag | ⟨n,wd,ag,hag⟩
 case inr=>
  rw[hag]at hk
  cases d<;>try exact hk.elim
  rename_i n' e
  have hfl':ti.flds=[]:=hfl
  rw[hfl']at h
  cases ps with
  | nil=>
   refine⟨_,h,λρ F w pc hs hc=> ?_⟩
   have:pc= #[]:=Array.eq_empty_of_size_eq_zero (by simpa using hs)
   subst this
   obtain⟨z,hz,hzc⟩:=ZIP hT.zero w
   exact⟨z.cells,by simp[Instr.build,Sem.run_bind,hz,run_underlying hd,ZBj hk.2.1,Instr.fill],ZNl hT.zpure hzc⟩
  | cons p ps=>obtain⟨i,v⟩:=p;simp[ZEK]at h
 case inl=>
  rw[hag]at hk
  cases d<;>try exact hk.elim
  rename_i fs
  have hfl':=hfl
  obtain⟨hlen,hf⟩:=hfl'
  let place:Nat->Option (Nat×Nat):=λi=>(ti.flds[i]?).map λx=>(x.1,x.2.1)
  obtain⟨cs,hk',hb⟩:=ZNj (place:=place) (λi off size a e=>by simp[place,e]) h
  refine⟨cs,hk',λρ F w pc hs hc=> ?_⟩
  obtain⟨z,hz,hzc⟩:=ZIP hT.zero w
  obtain⟨ca,hfill,hr⟩:=hb ρ F w z.cells pc.toList (ZNl hT.zpure hzc) (by simpa using hs) (λi j v e=>by obtain⟨c,h1,h2⟩:=hc i j v e;exact⟨c,by simpa using h1,h2⟩)
  refine⟨ca,?_,hr⟩
  have hpl: ∃places:Array (Nat×Nat),(fs.mapM λf=>(do pure (f.offset,<-Go.sizeOf f.type):Sem (Nat×Nat))).run P w= .ok places w/\ ∀i,places[i]?=place i:=by
   rw[Array.mapM_eq_mapM_toList]
   obtain⟨ys,h1,h2,h3⟩:=ZNk (P:=P) (w:=w) (f:=λf:Field=>(do pure (f.offset,<-Go.sizeOf f.type):Sem (Nat×Nat))) (l:=fs.toList) (λf hf'=>by
    obtain⟨i,hi⟩:=List.getElem?_of_mem hf'
    have hi':i<ti.flds.length:=by
     rw[hlen];have:=(al_get_iff.mp hi).1;simpa using this
    obtain⟨f',e1,e2,hsz,_⟩:=hf i _ _ _ (al_get_get hi')
    rw[Array.getElem?_toList,e1]at hi;cases hi
    exact⟨(f.offset,(ti.flds.get ⟨i,hi'⟩).2.1),by simp only[Sem.run_bind,ZBj hsz,Result.andThen_ok,Sem.run_pure]⟩)
   refine⟨ys.toArray,by simp only[Sem.run_map,h1,Result.andThen_ok],λi=> ?_⟩
   simp only[List.getElem?_toArray]
   by_cases hi:i<ti.flds.length
   ·obtain⟨f,e1,e2,hsz,_⟩:=hf i _ _ _ (al_get_get hi)
    obtain⟨y,e3,e4⟩:=h3 i f (by rw[Array.getElem?_toList];exact e1)
    simp[Sem.run_bind,ZBj hsz]at e4
    rw[e3];simp[place,al_get_get hi,<-e4,e2]
   ·rw[List.getElem?_eq_none (by rw[h2];simp;omega)]
    simp[place,List.getElem?_eq_none (Nat.le_of_not_lt hi)]
  obtain⟨places,h1,h2⟩:=hpl
  have h2':(λi=>places[i]?)=place:=funext h2
  simp only[Instr.build,Sem.run_bind,hz,Result.andThen_ok,run_underlying hd,h1,h2',hfill,Sem.run_pure]
def ZTV{ρ:Rho}{F:Nat->Prop}{w:World}{v:V}{c:Value}(hs:v.solid=true)(h:RelC ρ F w v c):c.oneCell'=true:=by
 cases v<;>simp only[V.solid]at hs<;>try (cases hs;done)
 all_goals simp only[RelC,RelB]at h
 case int | bool | str | nils=>subst h;rfl
 case lst=>obtain⟨_,_,rfl,_⟩:=h;rfl
 case own=>obtain⟨_,_,_,_,_,rfl⟩:=h;rfl
 case ownv=>obtain⟨_,_,_,_,_,_,_,_,rfl⟩:=h;rfl
 case sptr=>obtain⟨_,_,rfl,_⟩:=h;rfl
 case lptr=>obtain⟨_,_,_,rfl⟩:=h;rfl
 case eptr=>obtain⟨_,_,_,_,_,_,_,rfl⟩:=h;rfl
 case fn=>obtain⟨_,rfl,_⟩:=h;rfl
def ZNn{v:V}(h:v.plain=true):(sv v).oneCell'=true:=by
 rcases ZDa h with ⟨k,n,rfl⟩ | ⟨b,rfl⟩ | ⟨s,rfl⟩<;>rfl
def ZCx(t:Ty)(l:List t.den): ∀u∈flat t l,u.oneCell'=true:=by
 intro u hu
 unfold flat at hu
 rw[List.mem_flatMap]at hu
 obtain⟨d,_,hu⟩:=hu
 rw[List.mem_map]at hu
 obtain⟨v,hv,rfl⟩:=hu
 exact ZNn (ZE7 t d v hv)
def ZF4{t:Ty}{cs:List V}{d:t.den}(h:t.ofCells cs=some d):t.cells d=cs:=by
 unfold Ty.ofCells at h
 split at h<;>first | (cases h;rfl) | cases h
def ZTW{R:Type}{τ:Ty}{n i:Nat}{ps:List (Nat×V)}{K:List τ.den->Option R}{r:R}(h:litK τ n i ps K=some r):
  ∃l,K l=some r/\l.length=n/\ ∀ρ F w (pre:List Value) (ca:Array Value) (pc:List (Nat×Value)),pre.length=i*τ.width->ca.toList=pre++flat τ (List.replicate n τ.zero)->
   pc.length=ps.length->(∀(k:Nat) j v,ps[k]?=some (j,v)-> ∃c,pc[k]?=some (j,c)/\RelT ρ F w v c)->
   ∃ca',Instr.fill (λi=>some (i*τ.width,τ.width)) ca pc=some ca'/\ca'.toList=pre++flat τ l:=by
 fun_induction litK τ n i ps K with
 | case1 i K=>
  refine⟨[],h,rfl,λρ F w pre ca pc hp hc hl _=>⟨ca,?_,hc⟩⟩
  cases pc<;>simp[Instr.fill]at hl⊢
 | case2 n i j v ps K hb d hd ih1=>
   have e:=ZAb hb
   subst e
   ·obtain⟨l,hk,hlen,ih⟩:=ih1 h
    refine⟨_,hk,by simp[hlen],λρ F w pre ca pc hp hc hl hr=> ?_⟩
    cases pc with
    | nil=>simp at hl
    | cons p pc=>
     obtain⟨c,e,r⟩:=hr 0 i v rfl
     simp at e;subst e
     have hcells:=ZF4 hd
     have hcc:=ZNb (c:=c) (v:=v) (by rw[<-hcells];exact ZE7 τ d) r
     have hsz:c.cells.size=τ.width:=by rw[<-Array.length_toList,hcc,<-hcells];simp[ZBb]
     have htot:ca.size=pre.length+(n+1)*τ.width:=by rw[<-Array.length_toList,hc];simp[ZAy]
     obtain⟨ca1,hf,hs1,hg⟩:=ZNi (place:=λi=>some (i*τ.width,τ.width)) (cells:=ca) (i:=i) (v:=c) (rest:=pc) rfl hsz (by rw[htot,hp,Nat.succ_mul];omega)
     obtain⟨ca',hf',hc'⟩:=ih ρ F w (pre++(τ.cells d).map sv) ca1 pc (by simp[hp,ZBb,Nat.succ_mul]) (by
      refine List.ext_getElem? λj=> ?_
      rw[Array.getElem?_toList,hg]
      by_cases h1:i*τ.width<=j/\j<i*τ.width+τ.width
      ·rw[al_if_pos h1,List.append_assoc,List.getElem?_append_right (by omega),hp,List.getElem?_append_left (by simp[ZBb];omega),<-Array.getElem?_toList,hcc,hcells]
      ·rw[al_if_neg h1,<-Array.getElem?_toList,hc,List.replicate_succ,ZCP]
       by_cases h2:j<i*τ.width
       ·rw[List.getElem?_append_left (by omega),List.append_assoc,List.getElem?_append_left (by omega)]
       ·have g1:((τ.cells d).map sv).length=τ.width:=by simp[ZBb]
        have g0:((τ.cells τ.zero).map sv).length=τ.width:=by simp[ZBb]
        rw[List.append_assoc,List.getElem?_append_right (by omega),List.getElem?_append_right (by omega),List.getElem?_append_right (by omega),List.getElem?_append_right (by omega),g0,g1]) (by simpa using hl) (λk j u hu=>by simpa using hr (k+1) j u (by simpa using hu))
     exact⟨ca',by rw[hf,hf'],by rw[hc',List.append_assoc,<-ZCP]⟩
 | case3=>cases h
 | case4 n i j v ps K hb ih2=>
   obtain⟨l,hk,hlen,ih⟩:=ih2 h
   refine⟨_,hk,by simp[hlen],λρ F w pre ca pc hp hc hl hr=> ?_⟩
   obtain⟨ca',hf',hc'⟩:=ih ρ F w (pre++(τ.cells τ.zero).map sv) ca pc (by simp[hp,ZBb,Nat.succ_mul]) (by rw[hc,List.replicate_succ,ZCP,List.append_assoc]) hl hr
   exact⟨ca',hf',by rw[hc',List.append_assoc,<-ZCP]⟩
 | case5 n i K ih=>
  obtain⟨l,hk,hlen,ih⟩:=ih h
  refine⟨_,hk,by simp[hlen],λρ F w pre ca pc hp hc hl hr=> ?_⟩
  obtain⟨ca',hf',hc'⟩:=ih ρ F w (pre++(τ.cells τ.zero).map sv) ca pc (by simp[hp,ZBb,Nat.succ_mul]) (by rw[hc,List.replicate_succ,ZCP,List.append_assoc]) hl hr
  exact⟨ca',hf',by rw[hc',List.append_assoc,<-ZCP]⟩
 | case6=>cases h
end Ev
end
section
namespace Ev
open Go
def Src(t:Ty)(w:World)(m:List t.den)(c:Value):Prop:= ∃a cap,c= .slice a m.length cap/\m.length<=cap/\(m=[]\/ ∃b s,a=some ⟨b,s,none⟩/\At w b s (flat t m))
def ZIT{t:Ty}{w:World}{l:List t.den}{lo hi:Nat}{a:Option Addr}{cap:Nat}(h1:lo<=hi)(h2:hi<=l.length)(h3:l.length<=cap)
  (h:l=[]\/ ∃b s,a=some ⟨b,s,none⟩/\At w b s (flat t l)):Src t w ((l.take hi).drop lo) (.slice (if cap-lo=0 then a else a.map (·.add (lo*t.width))) (hi-lo) (cap-lo)):=by
 have hl:((l.take hi).drop lo).length=hi-lo:=by simp;omega
 refine⟨(if cap-lo=0 then a else a.map (·.add (lo*t.width))),cap-lo,by rw[hl],by rw[hl];omega,?_⟩
 by_cases he:hi=lo
 ·left;apply List.eq_nil_of_length_eq_zero;simp;omega
 ·rcases h with rfl | ⟨b,s,rfl,hat⟩
  ·simp at h2;omega
  ·right
   rw[al_if_neg]
   exact⟨b,s+lo*t.width,by simp[ZBE],(hat.take hi).drop (by simp;omega)⟩
def ZKZ{R:Type}{t:Ty}{not:Nat}{st:ZAI}{v:V}{K:List t.den->Option R}{r:R}(h:ZGp t not st v K=some r):
  ∃m,K m=some r/\ ∀ρ F w c,Core ρ F st w->RelT ρ F w v c->Src t w m c:=by
 unfold ZGp at h
 split at h
 ·exact⟨[],h,λρ F w c H (e:c=_)=>⟨none,0,by rw[e];rfl,Nat.le_refl _,.inl rfl⟩⟩
 ·rename_i t' l
  split at h<;>try (cases h;done)
  rename_i l' hc
  obtain⟨rfl,rfl⟩:=ZCE hc
  exact⟨_,h,λρ F w c H ⟨a,cap,e,h1,h2⟩=>⟨a,cap,e,h1,h2.imp id λ⟨b,s,e,_,hat⟩=>⟨b,s,e,hat⟩⟩⟩
 ·rename_i id
  cases hb:Nat.beq id not<;>simp only[hb,al_cond_true,al_cond_false]at h
  ·split at h<;>try (cases h;done)
   rename_i t' l hl
   split at h<;>try (cases h;done)
   rename_i l' hc
   obtain⟨rfl,rfl⟩:=ZCE hc
   refine⟨_,h,λρ F w c H ⟨t0,a,len,cap,hρ,e⟩=> ?_⟩
   obtain⟨rfl,h1,h2,h3⟩:=ZCi H hρ hl
   exact⟨a,cap,by rw[e,<-h1],by simp;omega,h3⟩
  ·cases h
 ·rename_i id lo hi
  cases hb:Nat.beq id not<;>simp only[hb,al_cond_true,al_cond_false]at h
  ·split at h<;>try (cases h;done)
   rename_i t' l hl
   split at h<;>try (cases h;done)
   rename_i l' hc
   obtain⟨rfl,rfl⟩:=ZCE hc
   refine⟨_,h,λρ F w c H ⟨t0,a,len,cap,hρ,g1,g2,g3,e⟩=> ?_⟩
   obtain⟨rfl,h1,h2,h3⟩:=ZCi H hρ hl
   rw[e]
   simp only
   exact ZIT g1 (by omega) (by omega) h3
  ·cases h
 ·cases h
def ZNo(v:Option V)(n:Nat):Prop:=v=some (i64 n)\/(v=none/\n=0)
def ZNp(v:Option V)(len n:Nat):Prop:=v=some (i64 n)\/(v=none/\n=len)
def ZKa{R:Type}{t:Ty}{l:List t.den}{lo hi:Option V}{K:Nat->Nat->List t.den->Option R}{r:R}(h:winK t l lo hi K=some r):
  ∃a b:Nat,K a b ((l.take b).drop a)=some r/\a<=b/\b<=l.length/\ZNo lo a/\ZNp hi l.length b:=by
 unfold winK at h
 split at h<;>try (cases h;done)
 ·rename_i a
  obtain⟨⟨h0,h1⟩,h⟩:=ZE9 h
  exact⟨a.toNat,l.length,by rw[List.take_length];exact h,by omega,Nat.le_refl _,.inl (by rw[Int.toNat_of_nonneg h0]),.inr ⟨rfl,rfl⟩⟩
 ·rename_i b
  obtain⟨⟨h0,h1⟩,h⟩:=ZE9 h
  exact⟨0,b.toNat,by simpa using h,by omega,by omega,.inr ⟨rfl,rfl⟩,.inl (by rw[Int.toNat_of_nonneg h0])⟩
 ·rename_i a b
  obtain⟨⟨h0,h1,h2⟩,h⟩:=ZE9 h
  exact⟨a.toNat,b.toNat,h,by omega,by omega,.inl (by rw[Int.toNat_of_nonneg h0]),.inl (by rw[Int.toNat_of_nonneg (by omega)])⟩
def CBnd(v:Option V)(c:Option Value):Prop:=match v,c with
 | none,none=>True
 | some (.int k n),some c=>c= .int k n
 | some _,some _=>True
 | _,_=>False
def cLo{lo:Option V}{c:Option Value}{a:Nat}(h:ZNo lo a)(k:CBnd lo c):c=some (.int .i64 a)\/(c=none/\a=0):=by
 rcases h with rfl | ⟨rfl,rfl⟩<;>cases c<;>simp[CBnd]at k⊢
 exact k
def cHi{hi:Option V}{c:Option Value}{l b:Nat}(h:ZNp hi l b)(k:CBnd hi c):c=some (.int .i64 b)\/(c=none/\b=l):=by
 rcases h with rfl | ⟨rfl,rfl⟩<;>cases c<;>simp[CBnd]at k⊢
 exact k
def ZNq{P:Program}{w:World}(n y:Nat)(code:BoundsCode)(h:n<=y):(Instr.sliceBound (.int .i64 (n:Int)) y code).run P w= .ok n w:=by
 have h2:(0<=(n:Int)/\(n:Int)<=(y:Int)):=by omega
 simp[Instr.sliceBound,asIntOf,Sem.run_bind,h]
def ZNr{P:Program}{w:World}{is:Bool}{len cap a b:Nat}{clo chi:Option Value}(h1:a<=b)(h2:b<=len)(h3:len<=cap)
  (hlo:clo=some (.int .i64 a)\/(clo=none/\a=0)) (hhi:chi=some (.int .i64 b)\/(chi=none/\b=len)):
  (Instr.sliceBounds is len cap clo chi none).run P w= .ok (a,b,cap) w:=by
 have hb:=λcode=>ZNq (P:=P) (w:=w) b cap code (by omega)
 have ha:=λcode=>ZNq (P:=P) (w:=w) a b code h1
 rcases hhi with rfl | ⟨rfl,rfl⟩<;>rcases hlo with rfl | ⟨rfl,rfl⟩<;>
  simp[Instr.sliceBounds,Sem.run_bind,ha,hb]
def ZKb{P:Program}{t e n:Nat}(hd:P.underlying t=some (.slice e))(hs:ZBV P e n){w:World}{base:Option Addr}{len cap a b:Nat}{clo chi:Option Value}(h1:a<=b)(h2:b<=len)(h3:len<=cap)
  (hlo:clo=some (.int .i64 a)\/(clo=none/\a=0)) (hhi:chi=some (.int .i64 b)\/(chi=none/\b=len)):
  (Instr.sliceAt t (.slice base len cap) clo chi none).run P w= .ok (.slice (if cap-a=0 then base else base.map (·.add (a*n))) (b-a) (cap-a)) w:=by
 have:=ZNr (P:=P) (w:=w) (is:=true) h1 h2 h3 hlo hhi
 simp only[Instr.sliceAt,Instr.slice,Sem.run_bind,run_underlying hd,Result.andThen_ok,this,ZBj hs,Sem.run_pure]
 by_cases hc:cap=a
 ·rw[al_if_pos hc,al_if_pos]
 ·rw[al_if_neg hc,al_if_neg]
def ZTX(s:List UInt8)(a b:Nat)(h:b<=s.length):(⟨⟨s⟩⟩:ByteArray).extract a b=⟨⟨(s.take b).drop a⟩⟩:=by
 apply ByteArray.ext
 rw[ByteArray.data_extract]
 apply Array.ext'
 simp[Array.toList_extract,List.extract_eq_take_drop,List.drop_take]
def ZTY{R:Type}{P:Program}{t:Nat}(hd:P.underlying t=some .string){l:Str}{lo hi:Option V}{s:St}{K:V->St->Option R}{r:R}
  (h:(match lo,hi with
  | some (.int .i64 a),none=>okIf (0<=a/\a<=l.length) (K (.str (l.drop a.toNat)) s)
  | none,some (.int .i64 b)=>okIf (0<=b/\b<=l.length) (K (.str (l.take b.toNat)) s)
  | some (.int .i64 a),some (.int .i64 b)=>okIf (0<=a/\a<=b/\b<=l.length) (K (.str ((l.take b.toNat).drop a.toNat)) s)
  | _,_=>none)=some r):
  ∃v,K v s=some r/\ ∀ρ F w c clo chi,RelT ρ F w (.str l) c->CBnd lo clo->CBnd hi chi-> ∃c',(Instr.sliceAt t c clo chi none).run P w= .ok c' w/\RelT ρ F w v c':=by
 have h':winK .u8 (l.map λb=>(b.toNat:Int)) lo hi (λa b _=>K (.str ((l.take b).drop a)) s)=some r:=by
  unfold winK
  split at h<;>try (cases h;done)
  ·obtain⟨hc,h⟩:=ZE9 h
   simp only[okIf,List.length_map]
   rw[al_if_pos (by simpa using hc),List.take_length];exact h
  ·obtain⟨hc,h⟩:=ZE9 h
   simp only[okIf,List.length_map]
   rw[al_if_pos (by simpa using hc)];simpa using h
  ·obtain⟨hc,h⟩:=ZE9 h
   simp only[okIf,List.length_map]
   rw[al_if_pos (by simpa using hc)];exact h
 obtain⟨a,b,hk,h1,h2,hlo,hhi⟩:=ZKa h'
 refine⟨_,hk,λρ F w c clo chi (e:c=_) k1 k2=>⟨.string ⟨⟨(l.take b).drop a⟩⟩,?_,rfl⟩⟩
 subst e
 simp only[List.length_map]at h2 hhi
 have hb:=ZNr (P:=P) (w:=w) (is:=false) (len:=l.length) (cap:=l.length) h1 h2 (Nat.le_refl _) (cLo hlo k1) (cHi hhi k2)
 have hsz:(⟨⟨l⟩⟩:ByteArray).size=l.length:=rfl
 simp only[Instr.sliceAt,Instr.slice,Sem.run_bind,run_underlying hd,Result.andThen_ok,hsz,hb,Sem.run_pure,Option.isSome_none,Bool.false_eq_true,if_false,ZTX l a b h2]
end Ev
end
section
namespace Ev
open Go
def ZHA{i j:Nat}(h:i≠j):Nat.beq i j=false:=by
 cases hb:Nat.beq i j
 ·rfl
 ·exact absurd (ZAb hb) h
def ZF5{R:Type} : ∀ {st:ZAI} {id:Nat} {b:Blk} {K:ZAI->Option R} {r:R},updK st id b K=some r->
  ∃st',K st'=some r/\look st' id=some b/\(∃b0,look st id=some b0)/\ ∀i,i≠id->look st' i=look st i
 | [],id,b,K,r,h=>by simp[updK]at h
 | (i,c)::st,id,b,K,r,h=>by
  simp only[updK]at h
  cases hb:Nat.beq i id<;>simp only[hb,al_cond_true,al_cond_false]at h
  ·obtain⟨st',hk,h1,⟨b0,h2⟩,h3⟩:=ZF5 h
   refine⟨_,hk,by simp[look,hb,h1],⟨b0,by simp[look,hb,h2]⟩,λj hj=> ?_⟩
   simp only[look]
   cases hij:Nat.beq i j<;>simp[h3 j hj]
  ·have e:=ZAb hb
   subst e
   refine⟨_,h,by simp[look],⟨c,by simp[look]⟩,λj hj=> ?_⟩
   simp[look,ZHA (Ne.symm hj)]
def ZKc(id:Nat):Blk->Blk
 | .box cs=> .box (cs.map (ZCA id))
 | b=>b
def ZF6(id:Nat): ∀(σ:ZAI) (j:Nat),look (σ.map (ZJ8 id)) j=(look σ j).map (ZKc id)
 | [],j=>rfl
 | (i,b)::σ,j=>by
  rw[List.map_cons]
  cases b<;>simp only[ZJ8,look]<;>cases Nat.beq i j<;>simp[ZF6 id σ j,ZKc]
def ZIU(f:V->V)(hf:f .undef= .undef): ∀(fr:List V) (t:Nat),get (fr.map f) t=f (get fr t)
 | [],t=>by simp[get,hf]
 | x::xs,0=>rfl
 | x::xs,t+1=>by simp only[List.map_cons,get,ZIU f hf xs t]
def ZIV{calm:Prop}{dst:Nat}{ρ:Rho}{F:Nat->Prop}{s:St}{w w':World}{id:Nat}{blk:Blk}{loc loc':Loc}{c:Value}{st':ZAI}{b0:Blk}{v:V}
  (hcalm: ¬calm) (hge:100<=id) (H:Core ρ F s.st w) (hM: ∀b,ρ.M b->b<w.heap.size) (hρ:ρ id=some loc) (h0:look s.st id=some b0)
  (hl:look st' id=some blk) (hlo: ∀i,i≠id->look st' i=look s.st i) (hnb: ∀cs,blk≠ .box cs)
  (hw:Chg (λb=>loc.block=some b) w w') (hb: ∀b,loc'.block=some b->loc.block=some b\/(w.heap.size<=b/\b<w'.heap.size))
  (hat:ZCh (ρ.set id loc') F w' loc' blk) (hv:RelT (ρ.set id loc') F w' v c):
  Post calm dst ρ F s w v (St.scrub ⟨s.fr,st'⟩ id) (ρ.set id loc') F w' c:=by
 have memF: ∀b,F b->w'.heap[b]?=w.heap[b]?:=λb hF=>hw.block b (H.stable b hF).1 λe=>(H.stable b hF).2 ⟨id,loc,hρ,e⟩
 have E:Ext (λi=>i=id) ρ F w (ρ.set id loc') F w':=⟨λi l hx h=>by rw[Rho.set_other _ _ hx];exact h,λ_ h=>h,memF⟩
 have hM': ∀b,(ρ.set id loc').M b->ρ.M b\/w.heap.size<=b:=by
  rintro b ⟨i,l,hi,hbl⟩
  by_cases e:i=id
  ·subst e;rw[Rho.set_same]at hi;cases hi
   exact(hb b hbl).imp (λh=>⟨i,loc,hρ,h⟩) (·.1)
  ·rw[Rho.set_other _ _ e]at hi;exact .inl ⟨i,l,hi,hbl⟩
 refine⟨ZFv (λi=>i=id) H ?_ ?_ ?_ ?_ ?_ ?_ (H.glob.keep (λ_ h=>h) memF),⟨hw.mono λb h=>⟨id,loc,hρ,h⟩,hM',λ_ h=> .inl h⟩,hv,λt x r=> ?_,by simp[St.scrub],?_,?_,?_,λh=>absurd h hcalm,⟨λi=>i=id,E,λi e=>by rw[e,h0];simp⟩,λi l h1=>(by
  simp only[St.scrub]
  rw[ZF6]
  by_cases e:i=id
  ·subst e;rw[hl];exact .inl (by simp)
  ·rw[Rho.set_other _ _ e]at h1
   rw[hlo i e]
   cases hx:look s.st i with
   | none=>exact .inr ⟨rfl,h1⟩
   | some b=>exact .inl (by simp)),λi l b h1 h2 h3=>hw.block b (hM b ⟨i,l,h2,h3⟩) λe=>by rw[H.inj i id l loc b h2 hρ h3 e,h0]at h1;cases h1⟩
 ·intro i l b hi h1 h2
  rw[Rho.set_other _ _ hi]at h1
  exact hw.block b (hM b ⟨i,l,h1,h2⟩) λe=>hi (H.inj i id l loc b h1 hρ h2 e)
 ·intro i l hi h1;rwa[Rho.set_other _ _ hi]at h1
 ·intro i b' hi h1
  simp only[St.scrub]at h1
  rw[ZF6,hlo i hi]at h1
  cases hx:look s.st i with
  | none=>simp[hx]at h1
  | some b1=>
   simp[hx]at h1
   subst h1
   refine⟨b1,rfl,?_⟩
   cases b1 with
   | rows t l=>rfl
   | box cs=>
    refine⟨by simp,λj v v' g1 g2 c r=> ?_⟩
    rw[List.getElem?_map,g1]at g2
    simp at g2;subst g2
    exact ZKJ E v c r
 ·intro i l b' hi h1 h2
  subst hi
  rw[Rho.set_same]at h1;cases h1
  simp only[St.scrub]at h2
  rw[ZF6,hl]at h2
  have:ZKc i blk=blk:=by cases blk with
   | box cs=>exact absurd rfl (hnb cs)
   | rows t l=>rfl
  simp[this]at h2;subst h2
  exact hat
 ·intro i j li lj b hi h1 h2 h3 h4
  subst hi
  rw[Rho.set_same]at h1;cases h1
  by_cases e:j=i
  ·exact e.symm
  ·rw[Rho.set_other _ _ e]at h2
   rcases hb b h3 with h5 | h5
   ·exact(H.inj j i lj loc b h2 hρ h4 h5).symm
   ·have:=hM b ⟨j,lj,h2,h4⟩;omega
 ·intro b hF
  have:=H.stable b hF
  exact⟨Nat.lt_of_lt_of_le this.1 hw.size,λh=>(hM' b h).elim this.2 λh=>by omega⟩
 ·simp only[St.scrub]
  rw[ZIU _ rfl]
  exact ZS7 E r
 ·intro hd i l h1
  simp only[St.scrub]
  rw[ZF6]
  by_cases e:i=id
  ·subst e;simp[hl]
  ·rw[Rho.set_other _ _ e]at h1
   rw[hlo i e]
   have:=hd i l h1
   cases hx:look s.st i with
   | none=>exact absurd hx this
   | some b=>simp
 ·intro i hi h2
  have e:i≠id:=by omega
  simp only[St.scrub]at h2
  rw[ZF6,hlo i e]at h2
  exact λhx=>h2 (by rw[hx];rfl)
 ·intro i l hi h1 h2
  have e:i≠id:=by omega
  rw[Rho.set_other _ _ e];exact h1
def ZNs{calm:Prop}{dst:Nat}{ρ:Rho}{F:Nat->Prop}{s:St}{w w':World}{id:Nat}{blk:Blk}{loc:Loc}{c:Value}{st':ZAI}{b0:Blk}{v:V}
  (hcalm: ¬calm) (H:Core ρ F s.st w) (hM: ∀b,ρ.M b->b<w.heap.size) (hρ:ρ id=some loc) (h0:look s.st id=some b0)
  (hl:look st' id=some blk) (hlo: ∀i,i≠id->look st' i=look s.st i) (hw:Chg (λb=>loc.block=some b) w w')
  (hat:ZCh ρ F w' loc blk) (hv:RelT ρ F w' v c):Post calm dst ρ F s w v ⟨s.fr,st'⟩ ρ F w' c:=by
 have memF: ∀b,F b->w'.heap[b]?=w.heap[b]?:=λb hF=>hw.block b (H.stable b hF).1 λe=>(H.stable b hF).2 ⟨id,loc,hρ,e⟩
 have E:Ext (λ_=>False) ρ F w ρ F w':=⟨λi l _ h=>h,λ_ h=>h,memF⟩
 refine⟨ZFv (λi=>i=id) H ?_ (λ_ _ _ h=>h) ?_ ?_ (λi j li lj b _ h1 h2 h3 h4=>H.inj i j li lj b h1 h2 h3 h4) ?_ (H.glob.keep (λ_ h=>h) memF),⟨hw.mono λb h=>⟨id,loc,hρ,h⟩,λ_ h=> .inl h,λ_ h=> .inl h⟩,hv,λt x r=>RelT.ext0 E r,rfl,?_,?_,λ_ _ _ h _=>h,λh=>absurd h hcalm,⟨λ_=>False,E,λ_ h=>h.elim⟩,λi l h1=>(by
  by_cases e:i=id
  ·subst e;exact .inl (by simp[hl])
  ·simp only;rw[hlo i e]
   cases hx:look s.st i with
   | none=>exact .inr ⟨rfl,h1⟩
   | some b=>exact .inl (by simp)),λi l b h1 h2 h3=>hw.block b (hM b ⟨i,l,h2,h3⟩) λe=>by rw[H.inj i id l loc b h2 hρ h3 e,h0]at h1;cases h1⟩
 ·intro i l b hi h1 h2
  exact hw.block b (hM b ⟨i,l,h1,h2⟩) λe=>hi (H.inj i id l loc b h1 hρ h2 e)
 ·intro i b' hi h1
  rw[hlo i hi]at h1
  refine⟨b',h1,?_⟩
  cases b' with
  | rows t l=>rfl
  | box cs=>
   refine⟨rfl,λi v v' h1 h2 c r=> ?_⟩
   rw[h1]at h2;cases h2
   exact RelC.ext0 E r
 ·intro i l b' hi h1 h2
  subst hi
  rw[hρ]at h1;cases h1
  rw[hl]at h2;cases h2
  exact hat
 ·intro b hF
  have:=H.stable b hF
  exact⟨Nat.lt_of_lt_of_le this.1 hw.size,this.2⟩
 ·intro hd i l h1
  by_cases e:i=id
  ·subst e;simp[hl]
  ·simp only;rw[hlo i e];exact hd i l h1
 ·intro i hi h2
  by_cases e:i=id
  ·subst e;rw[h0];simp
  ·simp only at h2;rw[hlo i e]at h2;exact h2
def ZNt{w:World}{b:Nat}{arr:Array Value}(h:RowB w b arr)(i:Nat)(v:Value):RowB (w.setCell ⟨b,i,none⟩ v) b (arr.setIfInBounds i v):=by
 obtain⟨e,lo,hi,hb,hf⟩:=h
 refine⟨e,lo,hi,?_,λj hj=>hf j (by simpa using hj)⟩
 simp[World.setCell,Array.getElem?_modify,hb]
def ZNu(w:World)(b i:Nat)(v:Value):Chg (λx=>x=b) w (w.setCell ⟨b,i,none⟩ v):=
 ⟨rfl,rfl,rfl,by simp,λx hx hne=>heap_setCell_other w _ x v hne,DR.refl _⟩
def ZHB{P:Program}{b:Nat} : ∀(vs:List Value) (w:World) (arr:Array Value) (off i:Nat),RowB w b arr->off+i+vs.length<=arr.size->(∀u∈vs,u.oneCell'=true)->
  ∃w' arr',(storeCells ⟨b,off,none⟩ vs i).run P w= .ok () w'/\Chg (λx=>x=b) w w'/\w'.heap.size=w.heap.size/\RowB w' b arr'/\arr'.size=arr.size/\
   ∀j:Nat,arr'[j]?=if off+i<=j/\j<off+i+vs.length then vs[j-(off+i)]? else arr[j]?
 | [],w,arr,off,i,hr,hl,h1=>⟨w,arr,by simp[storeCells],Chg.refl _ _,rfl,hr,rfl,λj=>by simp;omega⟩
 | v::vs,w,arr,off,i,hr,hl,h1=>by
  simp only[al_len_cons]at hl
  obtain⟨w',arr',g1,g2,g3,g4,g5,g6⟩:=ZHB (P:=P) vs (w.setCell ⟨b,off+i,none⟩ v) (arr.setIfInBounds (off+i) v) off (i+1) (ZNt hr _ _) (by simp;omega) (λu hu=>h1 u (by simp[hu]))
  refine⟨w',arr',?_,(ZNu w b (off+i) v).trans g2 (λx h=>h) (λx _ h=>h),by rw[g3];simp,g4,by rw[g5];simp,λj=> ?_⟩
  ·have hc:w.cell? ⟨b,off+i,none⟩=some arr[off+i]:=by rw[ZAs hr];exact Array.getElem?_eq_getElem (by omega)
   have hf:w.frozen? ⟨b,off+i,none⟩=false:=by
    obtain⟨e,lo,hi,hb,hfz⟩:=hr
    have:=hfz (off+i) (by omega)
    simp only[World.frozen?,hb]
    simp only[Bool.and_eq_false_iff,decide_eq_false_iff_not]
    omega
   simp only[storeCells,Sem.run_bind,ZBE,run_store _ _ _ _ _ (h1 v (by simp)),hc,hf,Bool.false_eq_true,if_false,Result.andThen_ok]
   exact g1
  ·rw[g6]
   simp only[al_len_cons]
   by_cases h2:j=off+i
   ·subst h2
    rw[al_if_neg,al_if_pos,Nat.sub_self,Array.getElem?_setIfInBounds_self_of_lt (by omega)];rfl
   ·by_cases h3:off+(i+1)<=j/\j<off+(i+1)+vs.length
    ·rw[al_if_pos h3,al_if_pos,show j-(off+i)=(j-(off+(i+1)))+1 by omega,List.getElem?_cons_succ]
    ·rw[al_if_neg h3,al_if_neg,Array.getElem?_setIfInBounds_ne (by omega)]
end Ev
end
section
namespace Ev
open Go
def ZIW{P:Program}{τ:Ty}{w:World}{m:List τ.den}{c:Value}(h:Src τ w m c):(Builtin.firstCells τ.width m.length c).run P w= .ok (flat τ m).toArray w:=by
 obtain⟨a,cap,rfl,hc,h⟩:=h
 rcases h with rfl | ⟨b,s,rfl,hat⟩
 ·cases a with
  | none=>simp[Builtin.firstCells,ZDs]
  | some a=>simp[Builtin.firstCells,loadCells,loadCellsFrom,ZDs]
 ·exact run_firstCells_some w τ.width m.length ⟨b,s,none⟩ m.length cap (flat τ m) (ZAy τ m) (λj v hv=>by rw[ZBE];exact hat j v hv)
def ZNv{τ:Ty}{w:World}{m:List τ.den}{c:Value}(h:Src τ w m c):Src τ w.drew m c:=h
def ZKd{P:Program}{τ:Ty}{w:World}{m:List τ.den}{c:Value}(h:Src τ w m c)(w':World):(Builtin.lenOf c).run P w'= .ok m.length w':=by
 obtain⟨a,cap,rfl,_⟩:=h;rfl
structure AppTys(P:Program)(t u e:Nat)(τ:Ty):Prop where
 ht:P.underlying t=some (.slice e)
 hu: ∃e2,P.underlying u=some (.slice e2)
 he:ZKK P e τ
def ZIX{P:Program}{t u e ty:Nat}{τ:Ty}(A:AppTys P t u e τ){w:World}{m:List τ.den}{cy:Value}{base:Option Addr}{len cap:Nat}(hm:Src τ w m cy)(hroom:len+m.length<=cap):
  (Builtin.append_ #[t,u] ty #[.slice base len cap,cy]).run P w=
   (match base with
    | some a=>(storeCells (a.add (len*τ.width)) (flat τ m)).run P w
    | none=> .ok () w).andThen λ_ w'=> .ok (.slice base (len+m.length) cap) w':=by
 obtain⟨e2,hu⟩:=A.hu
 cases base with
 | none=>simp[Builtin.append_,Sem.run_bind,run_underlying A.ht,run_underlying hu,ZBj A.he.1,ZKd hm,hroom,ZIW hm]
 | some a=>simp[Builtin.append_,Sem.run_bind,run_underlying A.ht,run_underlying hu,ZBj A.he.1,ZKd hm,hroom,ZIW hm]
def ZKe{P:Program}{t u e ty:Nat}{τ:Ty}(A:AppTys P t u e τ){w:World}{l m:List τ.den}{cy:Value}{base:Option Addr}{cap:Nat}(hl:Src τ w l (.slice base l.length cap))(hm:Src τ w m cy)
  (hroom: ¬l.length+m.length<=cap) (hlim:l.length+m.length<=lim):
  ∃(z:Array Value) (nc:Nat),l.length+m.length<=nc/\z.size=(nc-(l.length+m.length))*τ.width/\(Builtin.append_ #[t,u] ty #[.slice base l.length cap,cy]).run P w=
   .ok (.slice (some ⟨w.heap.size,0,none⟩) (l.length+m.length) nc) (w.drew.alloc (.cells ((flat τ l).toArray++(flat τ m).toArray++z) e)):=by
 obtain⟨e2,hu⟩:=A.hu
 obtain⟨hs,⟨i,z,hi,hz,hzc⟩,_,⟨i',hi',hb⟩,_⟩:=A.he
 rw[hi]at hi';cases hi'
 have hzs:z.cells.size=τ.width:=by rw[<-Array.length_toList,hzc];simp[ZBb]
 have hfit:=growslice_fits (bytes:=i.bytes) (Nat.lt_of_not_le hroom) (by
  have h1:(l.length+m.length)*i.bytes<=lim*128:=Nat.mul_le_mul hlim hb
  unfold lim at h1;omega)
 refine⟨Builtin.zeroCells z.cells (grownCap w (l.length+m.length) cap e-(l.length+m.length)),grownCap w (l.length+m.length) cap e,grownCap_ge w _ _ e,by rw[size_zeroCells,hzs],?_⟩
 have h63': ¬(9223372036854775807<((l.length:Int)+(m.length:Int))):=by unfold lim at hlim;omega
 have h48': ¬(281474976710656<Builtin.nextslicecap (l.length+m.length) cap*i.bytes):=by omega
 have h1:=ZIW (P:=P) (ZNv hl)
 have h2:=ZIW (P:=P) (ZNv hm)
 have hss:=ZBj hs
 have hti: ∀w:World,(typeInfo e).run P w= .ok i w:=λw=>by simp[typeInfo,hi]
 simp[Builtin.append_,Sem.run_bind,run_underlying A.ht,run_underlying hu,hss,hti,ZKd hm,hroom,h63',h48',Question.forced,h1,h2,zeroValue,hi,hz,newRow,grownCap]
 congr 2
 apply Array.ext'
 simp[List.append_assoc]
def ZNw{P:Program}{o:Oper}{b:Builtin}{args:Array Operand}{ts:Array Nat}(ho:o.op= .call ⟨.builtin b,args,ts⟩)(a:Act)(w:World):
  ∃consts,(execOp a.eval o).run P w=(builtin b ts o.type consts (args.map a.eval)).run P w:=by
 refine⟨args.map λ| .const _=>true | _=>false,?_⟩
 simp only[execOp,ho,resolve,Sem.run_bind,Sem.run_pure,Result.andThen_ok,invoke]
 rfl
def ZNx{o:Oper}{b:Builtin}{args:Array Operand}{ts:Array Nat}(ho:o.op= .call ⟨.builtin b,args,ts⟩){t:Nat}(h:Operand.tmp t∈args):ZBU o t:=by
 simp[ZBU,ho,Op.operands,Call.operands,h]
def ZTZ{P:Program}{calm:Prop}{o:Oper}{s:St}{t u e dst:Nat}{τ:Ty}{x y:Operand}{R:Type}{K:V->St->Option R}{r:R}{T:Tab}(hcalm: ¬calm)(A:AppTys P t u e τ)
  (ho:o.op= .call ⟨.builtin .append, #[x,y], #[t,u]⟩) (hd:idOf o=dst) (hT: ∃a1 a2 a3 a4 a5 a6,T.get t=some ⟨a1,a2,a3,a4,a5,.sl τ,a6⟩)
  (h:ZE0 T t dst (opd s.fr x) (opd s.fr y) s K=some r): ∃v s',K v s'=some r/\OpOK P calm o s v s':=by
 obtain⟨a1,a2,a3,a4,a5,a6,hT⟩:=hT
 simp only[ZE0,hT]at h
 have hrel: ∀(ρ:Rho) (F:Nat->Prop) (a:Act) (w:World),(∀t,ZBU o t->RelT ρ F w (get s.fr t) (a.tmps.getD t undef))->RelT ρ F w (opd s.fr x) (a.eval x)/\RelT ρ F w (opd s.fr y) (a.eval y):=
  λρ F a w hr=>⟨ZCa x λt e=>hr t (ZNx ho (by simp[e])),ZCa y λt e=>hr t (ZNx ho (by simp[e]))⟩
 have hrun: ∀(a:Act) (w:World) c w',(Builtin.append_ #[t,u] o.type #[a.eval x,a.eval y]).run P w= .ok c w'->(execOp a.eval o).run P w= .ok (.value c) w':=by
  intro a w c w' hh
  obtain⟨consts,hc⟩:=ZNw (P:=P) ho a w
  rw[hc]
  simp[builtin,Sem.run_bind,hh]
 split at h<;>try (cases h;done)
 ·rename_i id hx
  split at h<;>try (cases h;done)
  rename_i t' l hl
  split at h<;>try (cases h;done)
  rename_i l' hc
  obtain⟨rfl,rfl⟩:=ZCE hc
  simp only at h
  obtain⟨m,h,hm⟩:=ZKZ h
  obtain⟨hlim,h⟩:=ZKY h
  unfold ZEz at h
  cases hge:Nat.ble 100 id<;>simp only[hge,al_cond_true,al_cond_false]at h
  ·cases h
  have hge:=Nat.le_of_ble_eq_true hge
  obtain⟨st',h,h1,⟨b0,h2⟩,h3⟩:=ZF5 h
  refine⟨_,_,h,λρ F a w H hM hf hr N Q hN=> ?_⟩
  obtain⟨r1,r2⟩:=hrel ρ F a w hr
  rw[hx]at r1
  obtain⟨t0,base,len,cap,hρ,e1⟩:=r1
  obtain⟨rfl,hlen,hcap,hat⟩:=ZCi H hρ hl
  have hsrc:=hm ρ F w _ H r2
  subst hlen
  have hsl:Src t' w l (.slice base l.length cap):=⟨base,cap,rfl,hcap,hat⟩
  unfold Oper.wp
  by_cases hroom:l.length+m.length<=cap
  ·have hin:=ZIX (ty:=o.type) A (base:=base) (len:=l.length) hsrc hroom
   by_cases hm0:m=[]
   ·subst hm0
    have hin':(Builtin.append_ #[t,u] o.type #[a.eval x,a.eval y]).run P w= .ok (.slice base l.length cap) w:=by
     rw[e1,hin];cases base<;>simp[ZDs,storeCells]
    rw[hrun a w _ _ hin']
    refine hN _ _ _ F (ZIV (v:= .own id) hcalm hge H hM hρ h2 h1 h3 (λcs e=>by cases e) (Chg.refl _ _) (λb hb=> .inl hb) ?_ ⟨_,_,_,_,Rho.set_same _ _ _,rfl⟩)
    have:=H.heap id _ _ hρ hl
    rw[List.append_nil]
    exact this.weaken (λ_ _=>rfl) (by rfl)
   ·have hpos:0<m.length:=List.length_pos_iff.mpr hm0
    obtain⟨_,_,_,h4⟩:=H.heap id _ _ hρ hl
    rcases h4 with h4 | ⟨b,sft,arr,rfl,hrow,hfit,hatl⟩
    ·omega
    ·obtain⟨w',arr',g1,g2,g3,g4,g5,g6⟩:=ZHB (P:=P) (flat t' m) w arr (sft+l.length*t'.width) 0 hrow (by
      rw[ZAy,Nat.add_zero,Nat.add_assoc,<-Nat.add_mul]
      exact Nat.le_trans (Nat.add_le_add_left (Nat.mul_le_mul_right _ hroom) _) hfit) (ZCx t' m)
     have hin':(Builtin.append_ #[t,u] o.type #[a.eval x,a.eval y]).run P w= .ok (.slice (some ⟨b,sft,none⟩) (l.length+m.length) cap) w':=by
      rw[e1,hin];simp[ZBE,g1]
     rw[hrun a w _ _ hin']
     have hblk:(Loc.row t' (some ⟨b,sft,none⟩) l.length cap).block=some b:=by simp[Loc.block];omega
     refine hN _ _ _ F (ZIV (v:= .own id) (loc':= .row t' (some ⟨b,sft,none⟩) (l.length+m.length) cap) hcalm hge H hM hρ h2 h1 h3 (λcs e=>by cases e) (g2.mono λx e=>by rw[hblk,e]) (λb' hb=> .inl (by simpa[Loc.block]using hb)) ?_ ⟨_,_,_,_,Rho.set_same _ _ _,rfl⟩)
     refine⟨rfl,by simp,hroom,.inr ⟨b,sft,arr',rfl,g4,by rw[g5];exact hfit,?_⟩⟩
     rw[ZEQ]
     refine At.join (λi v hv=> ?_) (λi v hv=> ?_)
     ·have hi:=(al_get_iff.mp hv).1
      rw[ZAy]at hi
      have:=hatl i v hv
      rw[ZAs hrow]at this
      rw[ZAs g4,g6,al_if_neg];exact this
     ·have hi:=(al_get_iff.mp hv).1
      rw[ZAy]at hi
      rw[ZAs g4,g6,ZAy,ZAy,al_if_pos,show sft+l.length*t'.width+i-(sft+l.length*t'.width+0)=i by omega];exact hv
  ·obtain⟨z,nc,hnc,hz,hout⟩:=ZKe (ty:=o.type) A hsl hsrc hroom hlim
   rw[hrun a w _ _ (by rw[e1];exact hout)]
   have hrow:=ZIR w ((flat t' l).toArray++(flat t' m).toArray++z) e
   refine hN _ _ _ F (ZIV (v:= .own id) (loc':= .row t' (some ⟨w.heap.size,0,none⟩) (l.length+m.length) nc) hcalm hge H hM hρ h2 h1 h3 (λcs e=>by cases e) ((ZKW w _).mono λ_ h=>h.elim) (λb hb=> .inr ?_) ?_ ⟨_,_,_,_,Rho.set_same _ _ _,rfl⟩)
   ·simp only[Loc.block]at hb;split at hb
    ·cases hb
    ·cases hb;simp
   ·refine⟨rfl,by simp,hnc,.inr ⟨_,0,_,rfl,hrow,?_,ZG9 hrow λi v hv=> ?_⟩⟩
    ·simp only[Array.size_append,List.size_toArray,ZAy,hz,Nat.zero_add]
     rw[<-Nat.add_mul,<-Nat.add_mul]
     exact Nat.mul_le_mul_right _ (by omega)
    ·rw[ZEQ]at hv
     rw[Nat.zero_add,<-Array.getElem?_toList]
     simp only[Array.toList_append]
     rw[List.getElem?_append_left (by have:=(al_get_iff.mp hv).1;simpa using this)]
     exact hv
 ·rename_i hx
  obtain⟨m,h,hm⟩:=ZKZ h
  obtain⟨hlim,h⟩:=ZKY h
  obtain⟨hl0,h⟩:=ZF3 h
  subst hd
  refine⟨_,_,h,λρ F a w H hM hf hr N Q hN=> ?_⟩
  obtain⟨r1,r2⟩:=hrel ρ F a w hr
  rw[hx]at r1
  have e1:a.eval x= .slice none 0 0:=r1
  have hsrc:=hm ρ F w _ H r2
  have hρ:=hf _ hl0 (ZDt _)
  unfold Oper.wp
  by_cases hm0:m=[]
  ·subst hm0
   have hin:=ZIX (ty:=o.type) A (base:=none) (len:=0) (cap:=0) hsrc (by simp)
   rw[hrun a w _ _ (by rw[e1,hin];rfl)]
   refine hN _ _ (ρ.set (idOf o) (.row τ none 0 0)) F (ZIQ H hM hl0 hρ (ZDt _) (ZET o) (Chg.refl _ _) (λb hb=>by simp[Loc.block]at hb) ⟨rfl,rfl,Nat.le_refl _,.inl rfl⟩ ⟨_,_,_,_,Rho.set_same _ _ _,rfl⟩)
  ·have hpos:0<m.length:=List.length_pos_iff.mpr hm0
   obtain⟨z,nc,hnc,hz,hout⟩:=ZKe (ty:=o.type) A (l:=([]:List τ.den)) (base:=none) (cap:=0) ⟨none,0,rfl,Nat.le_refl _,.inl rfl⟩ hsrc (by simp;omega) (by simpa using hlim)
   simp only[al_len_nil,Nat.zero_add]at hout hnc
   rw[hrun a w _ _ (by rw[e1];exact hout)]
   have hrow:=ZIR w ((flat τ []).toArray++(flat τ m).toArray++z) e
   refine hN _ _ _ F (ZKX H hM hl0 hρ (ZET o) (ZKW w _) (by simp) hrow hnc ?_ (ZG9 hrow λi v hv=> ?_))
   ·simp only[Array.size_append,List.size_toArray,ZAy,hz,al_len_nil,Nat.zero_add,Nat.zero_mul]
    rw[<-Nat.add_mul]
    exact Nat.mul_le_mul_right _ (by omega)
   ·rw[Nat.zero_add,<-Array.getElem?_toList]
    simp only[Array.toList_append,ZDs,List.nil_append]
    rw[List.getElem?_append_left (by have:=(al_get_iff.mp hv).1;simpa using this)]
    exact hv
end Ev
end
section
namespace Ev
open Go
def ZIY(t:Ty): ∀(l:List t.den) (k:Nat),(flat t l)[k]?=(l[k/t.width]?).bind λd=>((t.cells d).map sv)[k % t.width]?
 | [],k=>by simp[ZDs]
 | d::l,k=>by
  have hw:=ZF1 t
  rw[ZCP]
  by_cases hk:k<t.width
  ·rw[List.getElem?_append_left (by simp[ZBb];exact hk),Nat.div_eq_of_lt hk,Nat.mod_eq_of_lt hk];rfl
  ·have hlen:((t.cells d).map sv).length=t.width:=by simp[ZBb]
   rw[List.getElem?_append_right (by omega),hlen,ZIY t l]
   have h1:k/t.width=(k-t.width)/t.width+1:=by
    rw[Nat.div_eq_sub_div hw (by omega)]
   have h2:k % t.width=(k-t.width) % t.width:=by
    rw[Nat.mod_eq_sub_mod (by omega)]
   rw[h1,h2,List.getElem?_cons_succ]
def ZNy{P:Program}{t n:Nat}(hs:ZBV P t n){c:Value}(hc:c.cells.size=n){w w':World}{b off:Nat}(h:(storeCells ⟨b,off,none⟩ c.cells.toList).run P w= .ok () w'):
  (Instr.storeAt t (.pointer (some ⟨b,off,none⟩)) c).run P w= .ok () w':=by
 simp[Instr.storeAt,Instr.sureAddr,storeVar,Sem.run_bind,ZBj hs,hc,h]
def ZTa{P:Program}{calm:Prop}{o:Oper}{s:St}{t:Nat}{ti:TI}{x y:Operand}{R:Type}{K:ZAI->Option R}{r:R}(hcalm: ¬calm)(hs:ZBV P t ti.size)
  (ho:o.op= .store t x y) (h:ZK ti s.st (opd s.fr x) (opd s.fr y) K=some r): ∃st',K st'=some r/\OpOK P calm o s (.tup []) ⟨s.fr,st'⟩:=by
 unfold ZK at h
 cases hb:(Nat.beq ti.size (opd s.fr y).cs.length && allB V.solid (opd s.fr y).cs)<;>simp only[hb,al_cond_true,al_cond_false]at h
 ·cases h
 rw[ZAJ]at hb
 have hsz:=ZAb hb.1
 have hsol:=ZCB hb.2
 have hu:opd s.fr y≠ .undef:=λe=>by rw[e]at hsol;have:=hsol .undef (by simp[V.cs]);cases this
 have ht: ∀vs,opd s.fr y≠ .tup vs:=λvs e=>by rw[e]at hsol;have:=hsol (.tup vs) (by simp[V.cs]);cases this
 have hrel: ∀(ρ:Rho) (F:Nat->Prop) (a:Act) (w:World),(∀t,ZBU o t->RelT ρ F w (get s.fr t) (a.tmps.getD t undef))->RelT ρ F w (opd s.fr x) (a.eval x)/\RelT ρ F w (opd s.fr y) (a.eval y):=
  λρ F a w hr=>⟨ZCa x λt e=>hr t (by simp[ZBU,ho,Op.operands,e]),ZCa y λt e=>hr t (by simp[ZBU,ho,Op.operands,e])⟩
 have hrun: ∀(a:Act) (w w':World),(Instr.storeAt t (a.eval x) (a.eval y)).run P w= .ok () w'->(execOp a.eval o).run P w= .ok .skip w':=by
  intro a w w' hh
  simp[execOp,ho,Sem.run_bind,hh]
 split at h
 ·rename_i id off hx
  split at h<;>try (cases h;done)
  rename_i cs hl
  obtain⟨cs',h,g1,g2,g3⟩:=ZH h
  obtain⟨st',h,h1,⟨b0,h2⟩,h3⟩:=ZF5 h
  refine⟨_,h,λρ F a w H hM hf hr N Q hN=> ?_⟩
  obtain⟨r1,r2⟩:=hrel ρ F a w hr
  rw[hx]at r1
  obtain⟨b,n,hρ,e1⟩:=r1
  obtain⟨c1,c2⟩:=ZG8 hu ht r2
  obtain⟨hn,arr,hrow,harr,hcells⟩:=H.heap id _ _ hρ hl
  obtain⟨w',arr',k1,k2,k3,k4,k5,k6⟩:=ZHB (P:=P) (a.eval y).cells.toList w arr off 0 hrow (by simp;omega) (λu hu'=>by
   obtain⟨i,hi⟩:=List.getElem?_of_mem hu'
   have hi':i<(opd s.fr y).cs.length:=by have:=(al_get_iff.mp hi).1;simp at this;omega
   obtain⟨c,hc,rr⟩:=c2 i _ (al_get_get hi')
   rw[Array.getElem?_toList,hc]at hi;cases hi
   exact ZTV (hsol _ (List.getElem_mem hi')) rr)
  unfold Oper.wp
  rw[hrun a w w' (by rw[e1];exact ZNy hs (by omega) k1)]
  refine hN undef w' ρ F (ZNs (v:= .tup []) hcalm H hM hρ h2 h1 h3 (k2.mono λx e=>by rw[e];rfl) ⟨by omega,arr',k4,by omega,λi v hv=> ?_⟩ ⟨#[],rfl,rfl,λi v hv=>by simp at hv⟩)
  have E:Ext (λ_=>False) ρ F w ρ F w':=⟨λi l _ h=>h,λ_ h=>h,λb' hF=>k2.block b' (H.stable b' hF).1 λe=>(H.stable b' hF).2 ⟨id,_,hρ,by rw[e];rfl⟩⟩
  rw[g3]at hv
  rw[k6]
  simp only[Nat.add_zero,Array.length_toList,c1]
  by_cases hi:off<=i/\i<off+(opd s.fr y).cs.length
  ·rw[al_if_pos hi]at hv⊢
   obtain⟨c,hc,rr⟩:=c2 _ v hv
   exact⟨c,by rw[Array.getElem?_toList];exact hc,RelC.ext0 E rr⟩
  ·rw[al_if_neg hi]at hv⊢
   obtain⟨c,hc,rr⟩:=hcells _ v hv
   exact⟨c,hc,RelC.ext0 E rr⟩
 ·rename_i id row col hx
  split at h<;>try (cases h;done)
  rename_i t' l hl
  rw[al_bind_iff]at h
  obtain⟨d,hd,h⟩:=h
  obtain⟨cs',h,g1,g2,g3⟩:=ZH h
  split at h<;>try (cases h;done)
  rename_i d' hd'
  have hcd:=ZF4 hd'
  obtain⟨st',h,h1,⟨b0,h2⟩,h3⟩:=ZF5 h
  refine⟨_,h,λρ F a w H hM hf hr N Q hN=> ?_⟩
  obtain⟨r1,r2⟩:=hrel ρ F a w hr
  rw[hx]at r1
  obtain⟨t0,b,sft,len,cap,hρ,hrl,e1⟩:=r1
  obtain⟨c1,c2⟩:=ZG8 hu ht r2
  have hH:=H.heap id _ _ hρ hl
  obtain⟨rfl,hlen,hcap,hh⟩:=hH
  rw[ZBb]at g1
  have hxp: ∀v∈(opd s.fr y).cs,v.plain=true:=by
   intro v hv
   obtain⟨i,hi⟩:=List.getElem?_of_mem hv
   have hi':=(al_get_iff.mp hi).1
   have:cs'[col+i]?=some v:=by rw[g3,al_if_pos,show col+i-col=i by omega];exact hi
   exact ZE7 t' d' v (hcd▸al_mem_get this)
  have hcc:=ZNb hxp r2
  have hw0:=ZF1 t'
  rcases hh with h0 | ⟨b',s',arr,e,hrow,hfit,hat⟩
  ·omega
  ·cases e
   have hin:(row+1)*t'.width<=cap*t'.width:=Nat.mul_le_mul_right _ (by omega)
   rw[Nat.succ_mul]at hin
   obtain⟨w',arr',k1,k2,k3,k4,k5,k6⟩:=ZHB (P:=P) (a.eval y).cells.toList w arr (sft+(row*t'.width+col)) 0 hrow (by simp;omega) (λu hu'=>by
    rw[hcc,List.mem_map]at hu'
    obtain⟨v,hv,rfl⟩:=hu'
    exact ZNn (hxp v hv))
   unfold Oper.wp
   rw[hrun a w w' (by rw[e1];exact ZNy hs (by omega) k1)]
   have hblk:(Loc.row t' (some ⟨b,sft,none⟩) len cap).block=some b:=by simp[Loc.block];omega
   refine hN undef w' ρ F (ZNs (v:= .tup []) hcalm H hM hρ h2 h1 h3 (k2.mono λx e=>by rw[e];exact hblk) ⟨rfl,by simpa using hlen,hcap,.inr ⟨b,sft,arr',rfl,k4,by rw[k5];exact hfit,?_⟩⟩ ⟨#[],rfl,rfl,λi v hv=>by simp at hv⟩)
   refine ZG9 k4 λi v hv=> ?_
   simp only[Nat.add_zero,Array.length_toList,c1]at k6
   rw[k6]
   rw[ZIY]at hv
   have hmod:=Nat.mod_lt i hw0
   have hdm:=Nat.div_add_mod i t'.width
   rw[Nat.mul_comm]at hdm
   by_cases hir:i/t'.width=row
   ·rw[hir,List.getElem?_set_self (al_get_iff.mp hd).1]at hv
    simp only[al_bind_some]at hv
    rw[hcd,List.getElem?_map,g3]at hv
    rw[hir]at hdm
    by_cases hj:col<=i % t'.width/\i % t'.width<col+(opd s.fr y).cs.length
    ·rw[al_if_pos hj]at hv
     rw[al_if_pos,hcc,List.getElem?_map,<-hv]
     congr 2;omega
    ·rw[al_if_neg hj]at hv
     rw[al_if_neg]
     have:=hat i v (by rw[ZIY,hir,hd];simpa using hv)
     rw[ZAs hrow]at this;exact this
   ·rw[List.getElem?_set_ne (Ne.symm hir)]at hv
    have h5:=hat i v (by rw[ZIY];exact hv)
    rw[ZAs hrow]at h5
    rw[al_if_neg ?_];exact h5
    intro hc
    have g1':col+(opd s.fr y).cs.length<=t'.width:=g1
    have e1:row<=i/t'.width:=by rw[Nat.le_div_iff_mul_le hw0];omega
    have e2:i/t'.width<row+1:=by rw[Nat.div_lt_iff_lt_mul hw0,Nat.succ_mul];omega
    omega
 ·cases h
def ZTb{P:Program}{calm:Prop}{o:Oper}{s:St}{t n dst:Nat}{ti:TI}{τ:Ty}{ps:Array (Nat×Operand)}{R:Type}{K:V->St->Option R}{r:R}(hT:TIok P t ti)(hk:ti.kind= .sl τ)
  (ho:o.op= .buildSlice t n ps) (hd:idOf o=dst) (hn:n*τ.width<=16777216)
  (h:litK τ n 0 (ZDr s.fr ps.toList) (λl=>newK s.st dst (.rows τ l) λst=>K (.own dst) ⟨s.fr,st⟩)=some r): ∃v s',K v s'=some r/\OpOK P calm o s v s':=by
 obtain⟨e,hde,hE⟩:=ZCj hT hk
 obtain⟨l,h,hlen,hfill⟩:=ZTW h
 obtain⟨hl0,h⟩:=ZF3 h
 subst hd
 refine⟨_,_,h,λρ F a w H hM hf hr N Q hN=> ?_⟩
 have hρ:=hf _ hl0 (ZDt _)
 obtain⟨hs,hz,_⟩:=hE
 obtain⟨z,hzr,hzc⟩:=ZIP hz w
 have hm:=ZNf (τ:=τ) hzc n
 obtain⟨ca',hf',hc'⟩:=hfill ρ F w [] (madeCells z.cells (n*τ.width)) (ps.toList.map λx=>(x.1,a.eval x.2)) (by simp) (by rw[hm];rfl) (by simp[ZDr]) (λi j v hv=>by
  obtain⟨x,hx,rfl⟩:=ZNm hv
  refine⟨a.eval x,by simp[hx],ZCa x λt e=>hr t ?_⟩
  simp only[ZBU,ho,Op.operands]
  rw[<-e]
  have:=al_mem_get (show ps.toList[i]?=some (j,x)by simpa using hx)
  simp only[List.mem_toArray,List.mem_map]
  exact⟨_,this,rfl⟩)
 have hrun:(execOp a.eval o).run P w= .ok (.value (.slice (some ⟨w.heap.size,0,none⟩) n n)) (w.alloc (.cells ca' e)):=by
  have h24: ¬(16777216<n*τ.width):=by omega
  by_cases h0:n*τ.width=0
  ·have:madeCells z.cells (n*τ.width)= #[]:=by rw[h0];simp[madeCells,Array.range_zero']
   rw[this]at hf'
   simp[execOp,ho,Instr.buildSlice,Sem.run_bind,run_underlying hde,ZBj hs,h24,h0,hf',newRow,Array.range_zero']
  ·simp only[madeCells]at hf'
   simp[execOp,ho,Instr.buildSlice,Sem.run_bind,run_underlying hde,ZBj hs,h24,h0,hzr,hf',newRow]
 unfold Oper.wp
 rw[hrun]
 have hrow:=ZCw w ca' e
 have P1:=ZKX (calm:=calm) (dst:=idOf o) (s:=s) (l:=l) (cap:=n) H hM hl0 hρ (ZET o) (ZB4 w (.cells ca' e)) (by simp) hrow (by omega) (by
  rw[<-Array.length_toList,hc'];simp[ZAy,hlen]) (ZG9 hrow λi v hv=>by rw[Nat.zero_add,<-Array.getElem?_toList,hc'];simpa using hv)
 rw[hlen]at P1
 exact hN _ _ _ F P1
end Ev
end
section
namespace Ev
open Go
def cbnd{ρ:Rho}{F:Nat->Prop}{w:World}{fr:List V}{a:Act}(x:Option Operand)(h: ∀t,x=some (.tmp t)->RelT ρ F w (get fr t) (a.tmps.getD t undef)):
  CBnd (x.map (opd fr)) (x.map a.eval):=by
 cases x with
 | none=>trivial
 | some x=>
  have r:=ZCa (ρ:=ρ) (F:=F) (w:=w) (fr:=fr) (a:=a) x λt e=>h t (by rw[e])
  simp only[Option.map_some]
  generalize opd fr x=v at r
  cases v<;>first | exact r | trivial
def ZTc{P:Program}{calm:Prop}{o:Oper}{s:St}{t dst:Nat}{ti:TI}{ann:Nat->Bool}{x:Operand}{lo hi:Option Operand}{R:Type}{K:V->St->Option R}{r:R}(hT:TIok P t ti)(hcalm:calm->ann dst=false)
  (ho:o.op= .slice t x lo hi none) (hd:idOf o=dst) (h:ZFp ti ann dst s (opd s.fr x) (lo.map (opd s.fr)) (hi.map (opd s.fr)) K=some r): ∃v s',K v s'=some r/\OpOK P calm o s v s':=by
 have hrel: ∀(ρ:Rho) (F:Nat->Prop) (a:Act) (w:World),(∀t,ZBU o t->RelT ρ F w (get s.fr t) (a.tmps.getD t undef))->
   RelT ρ F w (opd s.fr x) (a.eval x)/\CBnd (lo.map (opd s.fr)) (lo.map a.eval)/\CBnd (hi.map (opd s.fr)) (hi.map a.eval):=
  λρ F a w hr=>⟨ZCa x λt e=>hr t (by simp[ZBU,ho,Op.operands,e]),cbnd lo λt e=>hr t (by simp[ZBU,ho,Op.operands,e]),cbnd hi λt e=>hr t (by simp[ZBU,ho,Op.operands,e])⟩
 have hrun: ∀(a:Act) (w:World) c,(Instr.sliceAt t (a.eval x) (lo.map a.eval) (hi.map a.eval) none).run P w= .ok c w->(execOp a.eval o).run P w= .ok (.value c) w:=by
  intro a w c hh
  simp[execOp,ho,Sem.run_bind,hh]
 unfold ZFp at h
 split at h
 ·rename_i l hk hx
  obtain⟨v,hv,hs⟩:=ZTY (P:=P) (ZKU hT hk) h
  refine⟨v,s,hv,ZBM λρ F a w H hr=> ?_⟩
  obtain⟨r1,r2,r3⟩:=hrel ρ F a w hr
  rw[hx]at r1
  obtain⟨c,h1,h2⟩:=hs ρ F w _ _ _ r1 r2 r3
  exact⟨c,hrun a w c h1,h2⟩
 ·rename_i τ t' l hk hx
  obtain⟨e,hde,hE⟩:=ZCj hT hk
  split at h<;>try (cases h;done)
  rename_i l' hc
  obtain⟨e0,he0⟩:=ZCE hc
  subst e0
  simp only at he0
  subst he0
  obtain⟨p,q,h,h1,h2,hlo,hhi⟩:=ZKa h
  refine⟨_,s,h,ZBM λρ F a w H hr=> ?_⟩
  obtain⟨r1,r2,r3⟩:=hrel ρ F a w hr
  rw[hx]at r1
  obtain⟨base,cap,e1,hcap,hh⟩:=r1
  have hrn:=ZKb (P:=P) hde hE.1 (w:=w) (base:=base) (len:=l.length) (cap:=cap) h1 h2 hcap (cLo hlo r2) (cHi hhi r3)
  refine⟨_,hrun a w _ (by rw[e1];exact hrn),?_⟩
  obtain⟨b',cap',e2,h3,h4⟩:=ZIT h1 h2 hcap (hh.imp id λ⟨b,s,e,_,hat⟩=>⟨b,s,e,hat⟩)
  refine⟨b',cap',e2,h3,?_⟩
  rcases h4 with h4 | ⟨b,s',e3,hat⟩
  ·exact .inl h4
  ·by_cases hpq:p=q
   ·left;apply List.eq_nil_of_length_eq_zero;simp;omega
   ·right
    refine⟨b,s',e3,?_,hat⟩
    rcases hh with rfl | ⟨b0,s0,e4,hF,_⟩
    ·simp at h2;omega
    ·subst e4
     simp only[Value.slice.injEq]at e2
     rw[al_if_neg]at e2
     have:=e2.1.trans e3
     simp only[Option.map_some,ZBE,Option.some.injEq,Addr.mk.injEq]at this
     rw[<-this.1];exact hF
 ·rename_i τ id hk hx
  obtain⟨e,hde,hE⟩:=ZCj hT hk
  split at h<;>try (cases h;done)
  rename_i t' l hl
  split at h<;>try (cases h;done)
  rename_i l' hc
  obtain⟨e0,he0⟩:=ZCE hc
  subst e0
  simp only at he0
  subst he0
  obtain⟨p,q,h,h1,h2,hlo,hhi⟩:=ZKa h
  cases hann:ann dst<;>simp only[hann,al_cond_true,al_cond_false]at h
  ·refine⟨_,s,h,ZBM λρ F a w H hr=> ?_⟩
   obtain⟨r1,r2,r3⟩:=hrel ρ F a w hr
   rw[hx]at r1
   obtain⟨t0,base,len,cap,hρ,e1⟩:=r1
   obtain⟨rfl,hlen,hcap,hat⟩:=ZCi H hρ hl
   subst hlen
   have hrn:=ZKb (P:=P) hde hE.1 (w:=w) (base:=base) (len:=l.length) (cap:=cap) h1 h2 hcap (cLo hlo r2) (cHi hhi r3)
   exact⟨_,hrun a w _ (by rw[e1];exact hrn),t',base,l.length,cap,hρ,h1,h2,hcap,rfl⟩
  ·unfold ZEz at h
   cases hge:Nat.ble 100 id<;>simp only[hge,al_cond_true,al_cond_false]at h
   ·cases h
   have hge:=Nat.le_of_ble_eq_true hge
   obtain⟨st',h,g1,⟨b0,g2⟩,g3⟩:=ZF5 h
   refine⟨_,_,h,λρ F a w H hM hf hr N Q hN=> ?_⟩
   obtain⟨r1,r2,r3⟩:=hrel ρ F a w hr
   rw[hx]at r1
   obtain⟨t0,base,len,cap,hρ,e1⟩:=r1
   have hH:=H.heap id _ _ hρ hl
   obtain⟨rfl,hlen,hcap,hat⟩:=hH
   subst hlen
   have hrn:=ZKb (P:=P) hde hE.1 (w:=w) (base:=base) (len:=l.length) (cap:=cap) h1 h2 hcap (cLo hlo r2) (cHi hhi r3)
   unfold Oper.wp
   rw[hrun a w _ (by rw[e1];exact hrn)]
   have hlw:((l.take q).drop p).length=q-p:=by simp;omega
   refine hN _ _ _ F (ZIV (v:= .own id) (loc':= .row t' (if cap-p=0 then base else base.map (·.add (p*t'.width))) (q-p) (cap-p)) (λhc=>by rw[hcalm hc]at hann;cases hann) hge H hM hρ g2 g1 g3 (λcs e=>by cases e) (Chg.refl _ _) ?_ ?_ ⟨_,_,_,_,Rho.set_same _ _ _,rfl⟩)
   ·intro b hb
    left
    cases base with
    | none=>by_cases hz:cap-p=0<;>simp[Loc.block,hz]at hb
    | some ad=>
     by_cases hz:cap-p=0
     ·simp[Loc.block,hz]at hb
     ·simp only[Loc.block,al_if_neg hz,Option.map_some]at hb⊢
      rw[al_if_neg]
      cases hb
      congr 1
      unfold Addr.add;split<;>rfl
   ·refine⟨rfl,hlw,by omega,?_⟩
    by_cases hz:cap-p=0
    ·exact .inl hz
    ·rcases hat with hat | ⟨b,sft,arr,rfl,hrow,hfit,hatl⟩
     ·omega
     ·right
      rw[al_if_neg hz]
      refine⟨b,sft+p*t'.width,arr,by simp[ZBE],hrow,?_,(hatl.take q).drop (by simp;omega)⟩
      have:p*t'.width+(cap-p)*t'.width=cap*t'.width:=by rw[<-Nat.add_mul];congr 1;omega
      omega
 ·cases h
def ZTd{P:Program}{w:World}{m:List Int}{c:Value}(h:Src .u8 w m c):(Conv.bytesToString c).run P w= .ok (.string ⟨⟨m.map λn=>UInt8.ofNat n.toNat⟩⟩) w:=by
 have fold: ∀(f:Value->ByteArray->Sem (ForInStep ByteArray)) (hf: ∀(n:Int) (s:ByteArray),f (.int .u8 n) s=pure (ForInStep.yield (s.push (UInt8.ofNat n.toNat)))) (m:List Int) (s:ByteArray),
   (forIn (m:=Sem) (((flat .u8 m).toArray)) s f).run P w= .ok ⟨⟨s.data.toList++m.map λn=>UInt8.ofNat n.toNat⟩⟩ w:=by
  intro f hf m
  induction m with
  | nil=>intro s;rw[show flat .u8 []=[]from rfl];simp
  | cons n m ih=>
   intro s
   rw[ZCP]
   have:=ih (s.push (UInt8.ofNat n.toNat))
   simp only[List.forIn_toArray]at this⊢
   simp only[Ty.cells,List.map_cons,List.map_nil,sv,List.cons_append,List.nil_append,List.forIn_cons,hf,Sem.run_bind,Sem.run_pure,Result.andThen_ok]
   rw[this]
   simp[ByteArray.push]
 obtain⟨a,cap,rfl,hc,h⟩:=h
 rcases h with rfl | ⟨b,s,rfl,hat⟩
 ·cases a with
  | none=>rfl
  | some a=>
   have h0:(loadCells a 0).run P w= .ok #[] w:=by simp[loadCells,loadCellsFrom]
   simp only[Conv.bytesToString,al_len_nil,Sem.run_bind,h0,Result.andThen_ok]
   simp
   rfl
 ·have hl:=run_loadCells_list (P:=P) (w:=w) ⟨b,s,none⟩ (flat .u8 m) (λj v hv=>by rw[ZBE];exact hat j v hv)
  have hlen:(flat .u8 m).length=m.length:=by rw[ZAy];simp[Ty.width]
  rw[hlen]at hl
  simp only[Conv.bytesToString,Sem.run_bind,hl,Result.andThen_ok]
  rw[fold _ (λ_ _=>rfl) m ByteArray.empty]
  simp
def ZTe{R:Type}{P:Program}{T:Tab}(hT:ZBW P T){st:ZAI}{a b:Nat}{x:V}{K:V->Option R}{r:R}(h:ZKC T st a b x K=some r):
  ∃v,K v=some r/\ ∀ρ F w cx,Core ρ F st w->RelT ρ F w x cx-> ∃c,(convert a b cx).run P w= .ok c w/\RelT ρ F w v c:=by
 unfold ZKC at h
 split at h<;>try (cases h;done)
 rename_i si ti hsi hti
 obtain⟨ds,hds,hks,_⟩:=(hT _ _ hsi).1.kind
 obtain⟨d,hd,hk,_⟩:=(hT _ _ hti).1.kind
 split at h
 ·rename_i k k0 n hkk
  rw[hkk]at hk
  cases d<;>try exact hk.elim
  cases hk
  refine⟨_,h,λρ F w cx H (e:cx=_)=>⟨.int k (k.wrap n),?_,rfl⟩⟩
  subst e
  simp[convert,Sem.run_bind,run_underlying hds,run_underlying hd,Conv.intToInt]
 ·rename_i s hkk
  rw[hkk]at hk
  cases d<;>try exact hk.elim
  refine⟨_,h,λρ F w cx H (e:cx=_)=>⟨_,?_,rfl⟩⟩
  subst e
  simp[convert,Sem.run_bind,run_underlying hds,run_underlying hd]
 ·rename_i hks' hkk hns
  rw[hkk]at hk
  rw[hks']at hks
  cases d<;>try exact hk.elim
  cases ds<;>try exact hks.elim
  rename_i e
  obtain⟨m,h,hm⟩:=ZKZ h
  refine⟨_,h,λρ F w cx H r1=>⟨_,?_,rfl⟩⟩
  have hsrc:=hm ρ F w cx H r1
  have hb:=ZTd (P:=P) hsrc
  have hu:=hks.2.2.2.2 rfl
  obtain⟨a',cap,e1,_⟩:=hsrc
  subst e1
  simp[convert,Sem.run_bind,run_underlying hds,run_underlying hd,run_underlying hu,hb]
 ·cases h
end Ev
end
section
namespace Ev
open Go
def ZIZ:Op->Prop
 | .call ⟨.value _,_,_⟩=>False
 | _=>True
set_option maxHeartbeats 1000000 in
def ZTf{R:Type}{P:Program}{E:Env}{T:Tab}(hT:ZBW P T){ann:Nat->Bool}{o:Oper}{dst:Nat}{s:St}{K:V->St->Option R}{r:R}(hd:idOf o=dst)(hn:ZIZ o.op)
  (h:evOp E T ann dst o.op s K=some r): ∃v s',K v s'=some r/\OpOK P (calm E ann o=true) o s v s':=by
 have opd1: ∀ {x:Operand} (ρ:Rho) (F:Nat->Prop) (a:Act) (w:World),x∈o.op.operands->(∀t,ZBU o t->RelT ρ F w (get s.fr t) (a.tmps.getD t undef))->RelT ρ F w (opd s.fr x) (a.eval x):=
  λρ F a w hx hr=>ZCa _ λt e=>hr t (by unfold ZBU;rw[<-e];exact hx)
 cases hop:o.op with
 | move x=>
  rw[hop]at h
  exact⟨_,s,h,ZBM λρ F a w H hr=>⟨a.eval x,by simp[execOp,hop],opd1 ρ F a w (by simp[hop,Op.operands]) hr⟩⟩
 | assign x=>
  rw[hop]at h
  exact⟨_,s,h,ZBM λρ F a w H hr=>⟨a.eval x,by simp[execOp,hop],opd1 ρ F a w (by simp[hop,Op.operands]) hr⟩⟩
 | pick c x y=>
  rw[hop]at h
  simp only[evOp]at h
  split at h<;>try (cases h;done)
  rename_i t ht
  cases t<;>simp only[al_cond_true,al_cond_false]at h
  ·exact⟨_,s,h,ZBM λρ F a w H hr=>⟨a.eval y,by
    have e:a.eval c= .bool false:=by have:=opd1 (x:=c) ρ F a w (by simp[hop,Op.operands]) hr;rw[ht]at this;exact this
    simp[execOp,hop,e,asBool],opd1 ρ F a w (by simp[hop,Op.operands]) hr⟩⟩
  ·exact⟨_,s,h,ZBM λρ F a w H hr=>⟨a.eval x,by
    have e:a.eval c= .bool true:=by have:=opd1 (x:=c) ρ F a w (by simp[hop,Op.operands]) hr;rw[ht]at this;exact this
    simp[execOp,hop,e,asBool],opd1 ρ F a w (by simp[hop,Op.operands]) hr⟩⟩
 | alloc t=>
  rw[hop]at h
  simp only[evOp]at h
  split at h<;>try (cases h;done)
  rename_i ti hti
  obtain⟨hl,h⟩:=ZF3 h
  exact⟨_,_,h,ZTR (hT _ _ hti).1 hop hd hl⟩
 | box t x=>
  rw[hop]at h
  simp only[evOp]at h
  split at h<;>try (cases h;done)
  rename_i hu ht
  obtain⟨hl,h⟩:=ZF3 h
  exact⟨_,_,h,ZTS hop hd hl rfl hu ht⟩
 | build t ps=>
  rw[hop]at h
  simp only[evOp]at h
  split at h<;>try (cases h;done)
  rename_i ti hti
  have go:ZEK ti.flds (ZDr s.fr ps.toList) ti.zero (λcs=>K (.agg cs) s)=some r/\(ti.kind= .struct\/ ∃n w a,ti.kind= .arr n w a):=by
   split at h
   ·rename_i hk;exact⟨h,.inl hk⟩
   ·rename_i n w a hk;exact⟨h,.inr ⟨n,w,a,hk⟩⟩
   ·cases h
  obtain⟨cs,hk,hb⟩:=ZTU (hT _ _ hti).1 go.2 go.1
  refine⟨_,s,hk,ZBM λρ F a w H hr=> ?_⟩
  obtain⟨ca,h1,h2⟩:=hb ρ F w (ps.map λ(i,x)=>(i,a.eval x)) (by simp[ZDr]) (λi j v hv=>by
   obtain⟨x,hx,rfl⟩:=ZNm hv
   refine⟨a.eval x,by simp[hx],opd1 ρ F a w ?_ hr⟩
   simp only[hop,Op.operands]
   have:=al_mem_get (show ps.toList[i]?=some (j,x)by simpa using hx)
   simp only[List.mem_toArray,List.mem_map]
   exact⟨_,this,rfl⟩)
  exact⟨.agg ca,by simp[execOp,hop,Sem.run_bind,h1],ca,rfl,h2.1,h2.2⟩
 | buildSlice t n ps=>
  rw[hop]at h
  simp only[evOp]at h
  split at h<;>try (cases h;done)
  rename_i a1 a2 a3 a4 a5 τ a6 hti
  cases hb:Nat.ble (n*τ.width) 16777216<;>simp only[hb,al_cond_true,al_cond_false]at h
  ·cases h
  ·exact ZTb (hT _ _ hti).1 rfl hop hd (Nat.le_of_ble_eq_true hb) h
 | makeSlice t l c=>
  rw[hop]at h
  simp only[evOp]at h
  split at h<;>try (cases h;done)
  rename_i a1 a2 a3 a4 a5 τ a6 n hti hl
  cases hs:ZI l c<;>simp only[hs,al_cond_true,al_cond_false]at h
  ·cases h
  ·obtain⟨h0,h⟩:=ZE9 h
   obtain⟨h1,h⟩:=ZKY h
   obtain⟨hlk,h⟩:=ZF3 h
   exact⟨_,_,h,ZTT (hT _ _ hti).1 rfl hop hd hlk hl hs h0 h1⟩
 | load t x=>
  rw[hop]at h
  simp only[evOp]at h
  split at h<;>try (cases h;done)
  rename_i ti hti
  obtain⟨v,hv,hs⟩:=ZNX (P:=P) (hT _ _ hti).1.size (hT _ _ hti).1.agg h
  refine⟨v,s,hv,ZBM λρ F a w H hr=> ?_⟩
  obtain⟨c,h1,h2⟩:=hs ρ F w (a.eval x) H (opd1 ρ F a w (by simp[hop,Op.operands]) hr)
  exact⟨c,by simp[execOp,hop,Sem.run_bind,h1],h2⟩
 | store t x y=>
  rw[hop]at h
  simp only[evOp]at h
  split at h<;>try (cases h;done)
  rename_i ti hti
  obtain⟨st',h,hok⟩:=ZTa (P:=P) (calm:=calm E ann o=true) (by simp[calm,hop]) (hT _ _ hti).1.size hop h
  exact⟨_,_,h,hok⟩
 | nilCheck x=>
  rw[hop]at h
  simp only[evOp]at h
  have key: ∀ρ F (a:Act) w,RelT ρ F w (opd s.fr x) (a.eval x)->(∃id o,opd s.fr x= .lptr id o)\/(∃id r c,opd s.fr x= .eptr id r c)\/(∃cs,opd s.fr x= .sptr cs)->
    (execOp a.eval o).run P w= .ok (.value (a.eval x)) w:=by
   intro ρ F a w r hc
   have: ∃ad,a.eval x= .pointer (some ad):=by
    rcases hc with ⟨id,o,e⟩ | ⟨id,ro,c,e⟩ | ⟨cs,e⟩<;>rw[e]at r
    ·obtain⟨b,n,_,e⟩:=r;exact⟨_,e⟩
    ·obtain⟨t,b,sft,len,cap,_,_,e⟩:=r;exact⟨_,e⟩
    ·obtain⟨b,sft,e,_⟩:=r;exact⟨_,e⟩
   obtain⟨ad,e⟩:=this
   simp[execOp,hop,e]
  split at h<;>try (cases h;done)
  ·rename_i id off hx
   exact⟨_,s,h,ZBM λρ F a w H hr=>⟨a.eval x,key ρ F a w (opd1 ρ F a w (by simp[hop,Op.operands]) hr) (.inl ⟨_,_,hx⟩),hx▸opd1 ρ F a w (by simp[hop,Op.operands]) hr⟩⟩
  ·rename_i id ro c hx
   exact⟨_,s,h,ZBM λρ F a w H hr=>⟨a.eval x,key ρ F a w (opd1 ρ F a w (by simp[hop,Op.operands]) hr) (.inr (.inl ⟨_,_,_,hx⟩)),hx▸opd1 ρ F a w (by simp[hop,Op.operands]) hr⟩⟩
  ·rename_i cs hx
   exact⟨_,s,h,ZBM λρ F a w H hr=>⟨a.eval x,key ρ F a w (opd1 ρ F a w (by simp[hop,Op.operands]) hr) (.inr (.inr ⟨_,hx⟩)),hx▸opd1 ρ F a w (by simp[hop,Op.operands]) hr⟩⟩
 | binOp op t x y u=>
  rw[hop]at h
  simp only[evOp]at h
  obtain⟨v,hv,hs⟩:=ZTH (P:=P) hT h
  refine⟨v,s,hv,ZBM λρ F a w H hr=> ?_⟩
  obtain⟨c,h1,h2⟩:=hs ρ F w (a.eval x) (a.eval y) x y (opd1 ρ F a w (by simp[hop,Op.operands]) hr) (opd1 ρ F a w (by simp[hop,Op.operands]) hr)
  simp only[Sem.run_bind]at h1
  exact⟨c,by simp only[execOp,hop,Sem.run_bind,h1,Result.andThen_ok,Sem.run_pure],h2⟩
 | unOp op t x=>
  rw[hop]at h
  simp only[evOp]at h
  split at h<;>try (cases h;done)
  ·rename_i b hx
   exact⟨_,s,h,ZBM λρ F a w H hr=>⟨.bool (!b),by
    have e:a.eval x= .bool b:=by have:=opd1 (x:=x) ρ F a w (by simp[hop,Op.operands]) hr;rw[hx]at this;exact this
    simp[execOp,hop,e,Op.unary],rfl⟩⟩
  ·rename_i k n hx
   exact⟨_,s,h,ZBM λρ F a w H hr=>⟨.int k (k.wrap (0-n)),by
    have e:a.eval x= .int k n:=by have:=opd1 (x:=x) ρ F a w (by simp[hop,Op.operands]) hr;rw[hx]at this;exact this
    simp[execOp,hop,e,Op.unary,Op.intArith],rfl⟩⟩
 | convert t u x=>
  rw[hop]at h
  simp only[evOp]at h
  obtain⟨v,hv,hs⟩:=ZTe (P:=P) hT h
  refine⟨v,s,hv,ZBM λρ F a w H hr=> ?_⟩
  obtain⟨c,h1,h2⟩:=hs ρ F w (a.eval x) H (opd1 ρ F a w (by simp[hop,Op.operands]) hr)
  exact⟨c,by simp[execOp,hop,Sem.run_bind,h1],h2⟩
 | makeFunc fn first cap=>
  rw[hop]at h
  cases fn<;>simp only[evOp]at h<;>try (cases h;done)
  rename_i f
  cases hb:Nat.beq first.size 0<;>simp only[hb,al_cond_true,al_cond_false]at h
  ·cases h
  rw[ZFz]at h
  have hf:first= #[]:=Array.eq_empty_of_size_eq_zero (ZAb hb)
  subst hf
  cases hbs:allB V.base (cap.toList.map (opd s.fr))<;>simp only[hbs,al_cond_true,al_cond_false]at h
  ·cases h
  refine⟨_,s,h,ZBM λρ F a w H hr=>⟨.func (.func f) #[] (cap.map a.eval),by simp[execOp,hop,Instr.makeFunc],cap.map a.eval,rfl,by simp,λi v hv=> ?_⟩⟩
  rw[List.getElem?_map,Array.getElem?_toList]at hv
  cases hc:cap[i]? with
  | none=>simp[hc]at hv
  | some x=>
   simp[hc]at hv
   subst hv
   refine⟨a.eval x,by simp[hc],?_⟩
   have r:=opd1 (x:=x) ρ F a w (by simp only[hop,Op.operands,Array.mem_append];exact .inr (Array.mem_of_getElem? hc)) hr
   have hb:=ZCB hbs (opd s.fr x) (List.mem_map.mpr ⟨x,by simpa using Array.mem_of_getElem? hc,rfl⟩)
   generalize opd s.fr x=v at r hb
   cases v<;>first | exact r | cases hb
 | slice t x lo hi mx=>
  rw[hop]at h
  cases mx<;>simp only[evOp]at h<;>try (cases h;done)
  split at h<;>try (cases h;done)
  rename_i ti hti
  exact ZTc (hT _ _ hti).1 (λhc=>by simp[calm,hop,hd]at hc;exact hc) hop hd h
 | fieldAddr t x i=>
  rw[hop]at h
  simp only[evOp]at h
  split at h<;>try (cases h;done)
  rename_i ti hti
  split at h<;>try (cases h;done)
  rename_i off size ag hf
  cases hb:Nat.beq size 0<;>simp only[hb,al_cond_true,al_cond_false]at h<;>try (cases h;done)
  split at h<;>try (cases h;done)
  rename_i hk
  obtain⟨v,hv,hs⟩:=ZTL (hT _ _ hti).1 hf (λe=>by rw[e]at hb;cases hb) hk h
  refine⟨v,s,hv,ZBM λρ F a w H hr=> ?_⟩
  obtain⟨c,h1,h2⟩:=hs ρ F w (a.eval x) (opd1 ρ F a w (by simp[hop,Op.operands]) hr)
  exact⟨c,by simp[execOp,hop,Sem.run_bind,h1],h2⟩
 | field t x i=>
  rw[hop]at h
  simp only[evOp]at h
  split at h<;>try (cases h;done)
  rename_i ti hti
  split at h<;>try (cases h;done)
  rename_i off size ag cs hf hx
  split at h<;>try (cases h;done)
  rename_i hk
  obtain⟨d,hdd,hkd,hfl⟩:=(hT _ _ hti).1.kind
  rw[hk]at hkd
  obtain⟨fs,rfl⟩: ∃fs,d= .struct fs:=by cases d<;>first | exact⟨_,rfl⟩ | exact hkd.elim
  obtain⟨f,hfi,ho,hs,ha⟩:=hfl.2 i off size ag hf
  obtain⟨v,hv,hp⟩:=ZTK (P:=P) (t:=f.type) (ti:=⟨size,ag,0,[],[],.other,false⟩) hs ha h
  refine⟨v,s,hv,ZBM λρ F a w H hr=> ?_⟩
  have r:=opd1 (x:=x) ρ F a w (by simp[hop,Op.operands]) hr
  rw[hx]at r
  obtain⟨ca,e,h1,h2⟩:=r
  obtain⟨c,h3,h4⟩:=hp ρ F w ca h1 h2
  exact⟨c,by simp[execOp,hop,Sem.run_bind,e,Instr.field,run_underlying hdd,hfi,asAgg,ho,h3],h4⟩
 | indexAddr t x i=>
  rw[hop]at h
  simp only[evOp]at h
  split at h<;>try (cases h;done)
  rename_i ti hti
  obtain⟨v,hv,hs⟩:=ZTM (hT _ _ hti).1 h
  refine⟨v,s,hv,ZBM λρ F a w H hr=> ?_⟩
  obtain⟨c,h1,h2⟩:=hs ρ F w (a.eval x) (a.eval i) H (opd1 ρ F a w (by simp[hop,Op.operands]) hr) (opd1 ρ F a w (by simp[hop,Op.operands]) hr)
  exact⟨c,by simp[execOp,hop,Sem.run_bind,h1],h2⟩
 | index t x i=>
  rw[hop]at h
  simp only[evOp]at h
  split at h<;>try (cases h;done)
  rename_i ti hti
  obtain⟨v,hv,hs⟩:=ZTN (hT _ _ hti).1 h
  refine⟨v,s,hv,ZBM λρ F a w H hr=> ?_⟩
  obtain⟨c,h1,h2⟩:=hs ρ F w (a.eval x) (a.eval i) (opd1 ρ F a w (by simp[hop,Op.operands]) hr) (opd1 ρ F a w (by simp[hop,Op.operands]) hr)
  exact⟨c,by simp[execOp,hop,Sem.run_bind,h1],h2⟩
 | extract x i=>
  rw[hop]at h
  simp only[evOp]at h
  split at h<;>try (cases h;done)
  rename_i vs hx
  split at h<;>try (cases h;done)
  rename_i v hv
  refine⟨v,s,h,ZBM λρ F a w H hr=> ?_⟩
  have r:=opd1 (x:=x) ρ F a w (by simp[hop,Op.operands]) hr
  rw[hx]at r
  obtain⟨ca,e,h1,h2⟩:=r
  obtain⟨c,h3,h4⟩:=h2 i v hv
  exact⟨c,by simp[execOp,hop,Sem.run_bind,e,Instr.extract,h3],ZNV h4⟩
 | call c=>
  obtain⟨callee,args,ts⟩:=c
  cases callee with
  | value f=>rw[hop]at hn;exact hn.elim
  | invoke _ _=>rw[hop]at h;simp[evOp]at h
  | builtin b=>
   rw[hop]at h
   simp only[evOp,ZFz]at h
   have run: ∀(a:Act) (w:World),∃consts,(execOp a.eval o).run P w=(builtin b ts o.type consts (args.map a.eval)).run P w:=λa w=>ZNw hop a w
   have argr: ∀ρ F (a:Act) w,(∀t,ZBU o t->RelT ρ F w (get s.fr t) (a.tmps.getD t undef))-> ∀(i:Nat) v,(args.toList.map (opd s.fr))[i]?=some v-> ∃c,(args.map a.eval)[i]?=some c/\RelT ρ F w v c:=by
    intro ρ F a w hr i v hv
    rw[List.getElem?_map,Array.getElem?_toList]at hv
    cases hc:args[i]? with
    | none=>simp[hc]at hv
    | some x=>
     simp[hc]at hv
     subst hv
     exact⟨a.eval x,by simp[hc],opd1 ρ F a w (by simp only[hop,Op.operands,Call.operands,Array.mem_append];exact .inr (Array.mem_of_getElem? hc)) hr⟩
   unfold ZFq at h
   split at h
   ·rename_i v t hvs hts
    split at h<;>try (cases h;done)
    rename_i ti hti
    obtain⟨v',hv,hs⟩:=ZTO (hT _ _ hti).1 h
    refine⟨v',s,hv,ZBM λρ F a w H hr=> ?_⟩
    obtain⟨c,hc,r⟩:=argr ρ F a w hr 0 v (by rw[hvs];rfl)
    have e1:args.map a.eval= #[c]:=by
     have hl:args.size=1:=by have:=congrArg List.length hvs;simpa using this
     apply Array.ext (by simp[hl])
     intro i h1 h2
     have:i=0:=by simp at h2;omega
     subst this
     have:=(Array.getElem?_eq_some_iff.mp hc).2
     simpa using this
    have e2:ts= #[t]:=by rw[<-Array.toArray_toList (xs:=ts),hts]
    obtain⟨c',h1,h2⟩:=hs ρ F w c o.type H r
    obtain⟨consts,hrun⟩:=run a w
    exact⟨c',by rw[hrun,e1,e2];simp[builtin,Sem.run_bind,h1],h2⟩
   ·rename_i x y t u hvs hts
    split at h<;>try (cases h;done)
    rename_i a1 a2 a3 a4 a5 τ2 a6 hti
    have hne: ∃a1 a2 a3 a4 a5 τ a6,T.get t=some ⟨a1,a2,a3,a4,a5,.sl τ,a6⟩:=by
     unfold ZE0 at h
     split at h
     ·exact⟨_,_,_,_,_,_,_,by assumption⟩
     ·cases h
    obtain⟨b1,b2,b3,b4,b5,τ,b6,htt⟩:=hne
    obtain⟨e,hde,hE⟩:=ZCj (hT _ _ htt).1 (τ:=τ) rfl
    obtain⟨e2,hde2,_⟩:=ZCj (hT _ _ hti).1 (τ:=τ2) rfl
    have hal:args.size=2:=by have:=congrArg List.length hvs;simpa using this
    obtain⟨x0,y0,hxy⟩: ∃x0 y0,args= #[x0,y0]:=by
     refine⟨args[0],args[1],?_⟩
     apply Array.ext (by simp[hal])
     intro i h1 h2
     have:i=0\/i=1:=by simp at h2;omega
     rcases this with rfl | rfl<;>rfl
    have e2':ts= #[t,u]:=by rw[<-Array.toArray_toList (xs:=ts),hts]
    subst hxy
    simp at hvs
    obtain⟨rfl,rfl⟩:=hvs
    rw[e2']at hop
    exact ZTZ (calm:=calm E ann o=true) (by simp[calm,hop]) ⟨hde,⟨e2,hde2⟩,hE⟩ hop hd ⟨_,_,_,_,_,_,htt⟩ h
   ·rename_i ts' n vs hvs
    obtain⟨v',hv,hs⟩:=ZTP (P:=P) h
    obtain⟨x0,xs,hargs,he0,he1⟩:=List.map_eq_cons_iff.mp hvs
    refine⟨v',s,hv,ZBM λρ F a w H hr=> ?_⟩
    have r0:=opd1 (x:=x0) ρ F a w (by simp only[hop,Op.operands,Call.operands,Array.mem_append];right;rw[<-Array.mem_toList_iff,hargs];simp) hr
    rw[he0]at r0
    have e0:a.eval x0= .int .i64 n:=r0
    have e1:(args.map a.eval).toList= .int .i64 n::xs.map a.eval:=by rw[Array.toList_map,hargs,List.map_cons,e0]
    obtain⟨c',h1,h2⟩:=hs ρ F w (xs.map a.eval) (by rw[<-he1];simp) (λi v hv=>by
     rw[<-he1,List.getElem?_map]at hv
     cases hx:xs[i]? with
     | none=>simp[hx]at hv
     | some x=>
      simp[hx]at hv
      subst hv
      exact⟨a.eval x,by simp[hx],opd1 ρ F a w (by simp only[hop,Op.operands,Call.operands,Array.mem_append];right;rw[<-Array.mem_toList_iff,hargs];exact List.mem_cons_of_mem _ (al_mem_get hx)) hr⟩)
    obtain⟨consts,hrun⟩:=run a w
    exact⟨c',by rw[hrun];simp only[builtin,Sem.run_bind,Builtin.min_,e1,h1,Result.andThen_ok,Sem.run_pure],h2⟩
   ·rename_i ts' n vs hvs
    obtain⟨v',hv,hs⟩:=ZTQ (P:=P) h
    obtain⟨x0,xs,hargs,he0,he1⟩:=List.map_eq_cons_iff.mp hvs
    refine⟨v',s,hv,ZBM λρ F a w H hr=> ?_⟩
    have r0:=opd1 (x:=x0) ρ F a w (by simp only[hop,Op.operands,Call.operands,Array.mem_append];right;rw[<-Array.mem_toList_iff,hargs];simp) hr
    rw[he0]at r0
    have e0:a.eval x0= .int .i64 n:=r0
    have e1:(args.map a.eval).toList= .int .i64 n::xs.map a.eval:=by rw[Array.toList_map,hargs,List.map_cons,e0]
    obtain⟨c',h1,h2⟩:=hs ρ F w (xs.map a.eval) (by rw[<-he1];simp) (λi v hv=>by
     rw[<-he1,List.getElem?_map]at hv
     cases hx:xs[i]? with
     | none=>simp[hx]at hv
     | some x=>
      simp[hx]at hv
      subst hv
      exact⟨a.eval x,by simp[hx],opd1 ρ F a w (by simp only[hop,Op.operands,Call.operands,Array.mem_append];right;rw[<-Array.mem_toList_iff,hargs];exact List.mem_cons_of_mem _ (al_mem_get hx)) hr⟩)
    obtain⟨consts,hrun⟩:=run a w
    exact⟨c',by rw[hrun];simp only[builtin,Sem.run_bind,Builtin.max_,e1,h1,Result.andThen_ok,Sem.run_pure],h2⟩
   ·cases h
 | _=>rw[hop]at h;simp[evOp]at h
end Ev
end
end
