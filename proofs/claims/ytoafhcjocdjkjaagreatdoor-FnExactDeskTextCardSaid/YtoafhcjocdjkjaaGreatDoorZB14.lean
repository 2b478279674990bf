/- Laid together by program (what the claim does not reach is left out): DkI, DkJ, Door8, DkT. -/
import Derived.Test.YtoafhcjocdjkjaaGreatDoorZB13
import Derived.Test.YtoafhcjocdjkjaaGreatDoorRows
import Derived.Lib.LaidU8T
import Derived.HandedShaped
import Derived.Handed
import Derived.Shelf.Vars
import Derived.LaidMore
import Derived.KernelRfl
set_option linter.all false
set_option maxRecDepth 100000
open Go.Proofs.Tryz
noncomputable section
namespace Ev
open Go
def ZMN{α:Type}{R:α->α->Prop}{l:List α}(h:l.Pairwise R): ∀(i:Nat) (a b:α),l[i]?=some a->l[i+1]?=some b->R a b:=by
 intro i a b ha hb
 obtain⟨h1,rfl⟩:=al_get_iff.mp ha
 obtain⟨h2,rfl⟩:=al_get_iff.mp hb
 exact List.pairwise_iff_getElem.mp h i (i+1) h1 h2 (by omega)
def ZMO{α:Type}{R:α->α->Prop}{l:List α}(h: ∀(k i:Nat) (a b:α),l[i]?=some a->l[i+k+1]?=some b->R a b):l.Pairwise R:=by
 rw[List.pairwise_iff_getElem]
 intro i j hi hj hij
 exact h (j-i-1) i _ _ (by simp) (by rw[show i+(j-i-1)+1=j by omega];simp)
def ZHf{α:Type}{l:List α}{i:Nat}{x y:α} :y∈insL l i x↔y=x\/y∈l:=by
 unfold insL
 rw[List.mem_append,List.mem_cons]
 constructor
 ·rintro (h | h | h)
  ·exact .inr (List.mem_of_mem_take h)
  ·exact .inl h
  ·exact .inr (List.mem_of_mem_drop h)
 ·rintro (h | h)
  ·exact .inr (.inl h)
  ·rw[<-List.take_append_drop i l,List.mem_append]at h
   rcases h with h | h
   ·exact .inl h
   ·exact .inr (.inr h)
def ZRn{α:Type}{R:α->α->Prop}(tr: ∀a b c,R a b->R b c->R a c){l:List α}(h:l.Pairwise R){i:Nat}{x:α}(h1: ∀j,j<i-> ∀y,l[j]?=some y->R y x)(h2: ∀y,l[i]?=some y->R x y):(insL l i x).Pairwise R:=by
 unfold insL
 have hs:(l.take i++l.drop i).Pairwise R:=by rw[List.take_append_drop];exact h
 rw[List.pairwise_append]at hs
 have hb: ∀b∈l.drop i,R x b:=by
  intro b hb
  cases hd:l.drop i with
  | nil=>rw[hd]at hb;cases hb
  | cons y r=>
   have hy:R x y:=h2 y (by have:=congrArg (λq=>q[0]?) hd;simpa using this)
   rw[hd]at hb
   rcases List.mem_cons.mp hb with rfl | hb
   ·exact hy
   ·have:=hs.2.1
    rw[hd,List.pairwise_cons]at this
    exact tr _ _ _ hy (this.1 b hb)
 have ha: ∀a∈l.take i,R a x:=by
  intro a ha
  obtain⟨j,hj⟩:=List.mem_iff_getElem?.mp ha
  have hlt:=(al_get_iff.mp hj).1
  rw[al_len_take]at hlt
  refine h1 j (by omega) a ?_
  rw[List.getElem?_take_of_lt (by omega)]at hj
  exact hj
 rw[List.pairwise_append]
 refine⟨hs.1,List.pairwise_cons.mpr ⟨hb,hs.2.1⟩,λa hma b hmb=> ?_⟩
 rcases List.mem_cons.mp hmb with rfl | hmb
 ·exact ha a hma
 ·exact hs.2.2 a hma b hmb
def ZMP{l:List Device}(hp:l.Pairwise λa b=>Op.bytesLess a.Name b.Name=true)(d:Device):ZBb l d=true↔d.Kind=1\/ ∃x∈l,x.Name=d.Line/\x.Kind=d.Kind-1:=by
 unfold ZBb
 rw[Bool.or_eq_true,ZAZ,ZAM,ZAZ,ZAZ]
 refine or_congr Iff.rfl ?_
 rcases ZE0 l d.Line with ⟨e,hn⟩ | ⟨k,x,e,h1,h2⟩
 ·rw[e]
  constructor
  ·rintro ⟨h,_⟩;omega
  ·rintro ⟨x,hx,hq,_⟩;exact absurd hq (hn x hx)
 ·rw[e,ZAX]
  unfold ZFw
  rw[h1]
  simp only[Option.map_some,Option.getD_some]
  constructor
  ·rintro ⟨_,h⟩;exact⟨x,al_mem_get h1,h2,h⟩
  ·rintro ⟨y,hy,hq,hk⟩
   refine⟨by omega,?_⟩
   obtain⟨j,hj⟩:=List.mem_iff_getElem?.mp hy
   have hkj:k=j:=by
    obtain⟨b1,e1⟩:=al_get_iff.mp h1
    obtain⟨b2,e2⟩:=al_get_iff.mp hj
    rcases Nat.lt_trichotomy k j with q | q | q
    ·have:=List.pairwise_iff_getElem.mp hp k j b1 b2 q
     rw[e1,e2,h2,hq,ZFv]at this;cases this
    ·exact q
    ·have:=List.pairwise_iff_getElem.mp hp j k b2 b1 q
     rw[e1,e2,h2,hq,ZFv]at this;cases this
   subst hkj
   rw[h1]at hj;cases hj;exact hk
def ZMQ{l:List Device}(h:RigP l):l.Pairwise λa b=>Op.bytesLess a.Name b.Name=true:=ZMO (ZLA h)
def ZRo{l:List Device}(h8:l.length<=8)(hd: ∀d∈l,devB d=true)(hp:l.Pairwise λa b=>Op.bytesLess a.Name b.Name=true)(hh: ∀d∈l,d.Kind=1\/ ∃x∈l,x.Name=d.Line/\x.Kind=d.Kind-1):RigP l:=
 ⟨h8,hd,ZMN hp,λd hm=>(ZMP hp d).2 (hh d hm)⟩
def ZRp{l:List Device}(h:RigP l): ∀d∈l,d.Kind=1\/ ∃x∈l,x.Name=d.Line/\x.Kind=d.Kind-1:=λd hd=>(ZMP (ZMQ h) d).1 (h.hung d hd)
def ZZO{l:List Device}{d:Device}(hb:addB l d=true):RigP (addD l d):=by
 unfold addD
 rw[al_if_pos hb]
 unfold addB at hb
 simp only[ZAM,Bool.not_eq_true',decide_eq_false_iff_not]at hb
 obtain⟨hr,hd,hf,h8,hh⟩:=hb
 have h:=(ZDW l).1 hr
 have hno: ∀x∈l,x.Name≠d.Name:=by
  rcases ZE0 l d.Name with ⟨_,hn⟩ | ⟨k,x,e,_,_⟩
  ·exact hn
  ·omega
 have hp:=ZMQ h
 obtain⟨l1,l2⟩:=ZLu d.Name l
 refine ZRo ?_ ?_ (ZRn (R:=λa b:Device=>Op.bytesLess a.Name b.Name=true) (λa b c=>ZHB _ _ _) hp l1 λy hy=> ?_) ?_
 ·rw[ZDC _ _ _ (ZKk _ _)];omega
 ·intro x hx
  rcases ZHf.mp hx with rfl | hx
  ·exact hd
  ·exact h.dev x hx
 ·rcases ZJE y.Name d.Name with ⟨q,_⟩ | ⟨q,_⟩ | ⟨q,_⟩
  ·rw[l2 y hy]at q;cases q
  ·exact absurd q (hno y (al_mem_get hy))
  ·exact q
 ·intro x hx
  rcases ZHf.mp hx with rfl | hx
  ·rcases (ZMP hp x).1 hh with q | ⟨y,hy,q⟩
   ·exact .inl q
   ·exact .inr ⟨y,ZHf.mpr (.inr hy),q⟩
  ·rcases ZRp h x hx with q | ⟨y,hy,q⟩
   ·exact .inl q
   ·exact .inr ⟨y,ZHf.mpr (.inr hy),q⟩
def ZRq(s:Str): ∀(l:List Device) (o:List Str),l.foldl (onF s) o=[]-> ∀d∈l,d.Line≠s
 | [],o,_,d,hd=>by cases hd
 | x::l,o,h,d,hd=>by
  rw[List.foldl_cons]at h
  rcases List.mem_cons.mp hd with rfl | hd
  ·intro e
   unfold onF at h
   rw[al_if_pos e]at h
   have key: ∀(m:List Device) (o:List Str),o≠[]->m.foldl (onF s) o≠[]:=by
    intro m
    induction m with
    | nil=>intro o h;exact h
    | cons a m ih=>
     intro o ho
     rw[List.foldl_cons]
     refine ih _ ?_
     unfold onF
     split
     ·simp
     ·exact ho
   exact key l _ (by simp) h
  ·exact ZRq s l _ h d hd
def ZZP{l:List Device}{s:Str}(hb:remB l s=true):RigP (remD l s):=by
 unfold remD
 rw[al_if_pos hb]
 unfold remB at hb
 simp only[ZAM,Bool.not_eq_true',decide_eq_false_iff_not]at hb
 obtain⟨hr,hf,ho⟩:=hb
 have h:=(ZDW l).1 hr
 have hp:=ZMQ h
 obtain⟨k1,k2⟩:=ZLw l s hf
 rcases ZE0 l s with ⟨e,_⟩ | ⟨k,x,e,hx,hn⟩
 ·omega
 rw[e,ZAX]at k1⊢
 have hsub:(delL l k).Sublist l:=by
  unfold delL
  conv=>rhs;rw[<-List.take_append_drop k l]
  exact List.Sublist.append (List.Sublist.refl _) (by rw[<-List.drop_drop];exact List.drop_sublist 1 _)
 have hs:s≠[]:=by
  intro q
  have:=ZBX (ZDJ (h.dev x (al_mem_get hx))).nm
  have hnm:=(ZDJ (h.dev x (al_mem_get hx))).nm
  exact(ZG hnm).2 (hn.trans q)
 have hon: ∀d∈l,d.Line≠s:=by
  refine ZRq s l [] ?_
  unfold onL at ho
  rw[al_if_pos ⟨hr,hs⟩]at ho
  exact List.length_eq_zero_iff.mp (by omega)
 refine ZRo (Nat.le_trans hsub.length_le h.len) (λd hd=>h.dev d (hsub.subset hd)) (hp.sublist hsub) λd hd=> ?_
 rcases ZRp h d (hsub.subset hd)with q | ⟨y,hy,q1,q2⟩
 ·exact .inl q
 ·refine .inr ⟨y,?_,q1,q2⟩
  obtain⟨j,hj⟩:=List.mem_iff_getElem?.mp hy
  have hjk:j≠k:=by
   intro q;subst q
   rw[hx]at hj;cases hj
   exact hon d (hsub.subset hd) (q1.symm.trans hn)
  unfold delL
  rw[List.mem_append]
  by_cases hlt:j<k
  ·exact .inl (al_mem_get (by rw[List.getElem?_take_of_lt hlt];exact hj))
  ·exact .inr (al_mem_get (i:=j-(k+1)) (by rw[List.getElem?_drop,show k+1+(j-(k+1))=j by omega];exact hj))
def ZZQ{l:List Cue}{x:Cue}(hl:l.length<=1048576)(hn:ZBw l)(hb:ZBk l x=true):ScoreP (ZCf l x):=by
 unfold ZCf
 rw[al_if_pos hb]
 unfold ZBk at hb
 simp only[ZAM,Bool.not_eq_true',decide_eq_false_iff_not]at hb
 obtain⟨hs,hc,he,h12⟩:=hb
 have h:=(ZHV hn hl).1 hs
 obtain⟨l0,l1,l2⟩:=ZJG x l
 have hp:l.Pairwise λa b=>cmpC a b<0:=ZMO (ZL1 h)
 refine⟨?_,?_,ZMN (R:=λa b:Cue=>cmpC a b<0) (ZRn (R:=λa b:Cue=>cmpC a b<0) (λa b c=>ZQr) hp l1 λy hy=> ?_)⟩
 ·rw[ZDC _ _ _ l0];omega
 ·intro y hy
  rcases ZHf.mp hy with rfl | hy
  ·exact hc
  ·exact h.cue y hy
 ·have n1:=l2 y hy
  have n2: ¬cmpC y x=0:=by
   unfold eqAt at he
   rw[hy]at he
   exact of_decide_eq_false he
  rw[ZLz]at n1⊢
  rw[ZL0]at n2
  rcases Int.lt_trichotomy x.Tick y.Tick with q | q | q
  ·exact .inl q
  ·right
   refine⟨q,?_⟩
   rcases ZJE x.Name y.Name with ⟨k,_⟩ | ⟨k,_⟩ | ⟨k,_⟩
   ·exact k
   ·exact absurd ⟨q.symm,k.symm⟩ n2
   ·exact absurd (.inr ⟨q.symm,k⟩) n1
  ·exact absurd (.inl q) n1
def ZMR(was:Place): ∀w:List Gust,(chgL was w).Sublist w
 | []=>List.Sublist.refl _
 | g::r=>by
  unfold chgL
  split
  ·exact(ZMR was r).trans (List.sublist_cons_self g r)
  ·exact List.Sublist.cons_cons g (ZMR g.Drift r)
def ZZR{w:List Gust}(h:WindP w):w.Pairwise λa b=>a.From<b.From:=by
 have key: ∀(k i:Nat) (a b:Gust),w[i]?=some a->w[i+k+1]?=some b->a.From<b.From:=by
  intro k
  induction k with
  | zero=>intro i a b ha hb;exact h.lt i a b ha hb
  | succ k ih=>
   intro i a b ha hb
   have hi:i+k+1<w.length:=by have:=(al_get_iff.mp hb).1;omega
   have hx:w[i+k+1]?=some w[i+k+1]:=by simp[hi]
   have:=ih i a _ ha hx
   have:=h.lt (i+k+1) _ b hx hb
   omega
 exact ZMO key
def ZZS{w:List Gust}(hw:w.length<=1048576){p:Place}{t:Int}(hb:jnB w p t=true):WindP (jnD w p t):=by
 unfold jnD
 rw[al_if_pos hb]
 unfold jnB at hb
 simp only[ZAM,Bool.not_eq_true',decide_eq_false_iff_not]at hb
 obtain⟨hs,hp,ht,h8⟩:=hb
 have h:=(ZFF hw).1 hs
 have hsub:=ZMR ⟨0,0⟩ ((w.filter λg=>decide (g.From<t))++[⟨t,p⟩])
 have ht:=ZAr.1 ht
 refine⟨by omega,λg hg=> ?_,ZMN (List.Pairwise.sublist hsub ?_)⟩
 ·rcases List.mem_append.mp (hsub.subset hg)with q | q
  ·exact h.gust g (List.mem_filter.mp q).1
  ·obtain rfl:=List.mem_singleton.mp q
   exact⟨ht,hp⟩
 ·rw[List.pairwise_append]
  refine⟨(ZZR h).sublist List.filter_sublist,by simp,λa ha b hb=> ?_⟩
  obtain rfl:=List.mem_singleton.mp hb
  exact of_decide_eq_true (List.mem_filter.mp ha).2
def ZZT(y:Place):K3 (shW y):=by
 constructor<;>intro d<;>unfold shW<;>split<;>rfl
def ZZU{y:Place}{l:List Device}(h:shB y l=true): ∀d∈l,devB (shW y d)=true:=by
 intro d hd
 unfold shB at h
 rw[List.all_eq_true]at h
 obtain⟨i,hi⟩:=List.mem_iff_getElem?.mp hd
 have:=h i (by simpa using (al_get_iff.mp hi).1)
 rw[hi]at this
 exact this
def ZZV{s:ZAN}(h:ShowV s)(p:Place)(hb:(ZBH s p).2=true):ShowV (ZBH s p).1:=by
 have hI:=(ZMJ s h.ok p).1
 have hs:=ZRm h
 unfold G108 F108 at hI
 cases hp:isPl p with
 | false=>
  have q3:G124 (p,())=some (isPl p,()):=ZBv p
  have e:G207 (s.1,p,())=some (([]:List Device),false,()):=by
   unfold G207 F207
   simp only[ZDV s.1 h.ok.rig h.ok.devs,(ZDW s.1).2 h.rig,q3,hp,al_bind_some]
   rfl
  simp only[ZBC,hs,e,al_bind_some,ZAF,ZAH,al_cond_true,al_cond_false]at hI
  injection hI with hI
  have:=congrArg (λq=>q.2.1) hI
  simp only at this
  rw[<-this]at hb;cases hb
 | true=>
  have e:=ZRL h.rig hp
  cases hq:shB p s.1 with
  | false=>
   rw[hq]at e
   simp only[ZBC,hs,e,al_cond_false,al_bind_some,ZAF,ZAH,al_cond_true]at hI
   injection hI with hI
   have:=congrArg (λq=>q.2.1) hI
   simp only at this
   rw[<-this]at hb;cases hb
  | true=>
   rw[hq]at e
   have c2:=ZRM s h.ok
   simp only[ZBC,hs,e,c2,al_cond_false,al_bind_some,ZAF,ZAH,al_cond_true]at hI
   injection hI with hI
   have:=congrArg (λq=>q.1) hI
   simp only at this
   rw[<-this]
   exact ZDs (ZQ6 (ZZT p) h.rig (ZZU hq)) (ZFG h) (ZEV h) h.tick
def ZZW{s:ZAN}(h:ShowV s)(n:Int):ZCM s n=mvS n s:=by
 have h1:=(ZMI s h.ok n).1
 rw[ZZN h n]at h1
 injection h1 with h1
 exact(congrArg (λq=>q.1) h1).symm
def ZZX{s:ZAN}(h:ShowV s)(n:Int):ShowV (ZCM s n):=by rw[ZZW h n];exact ZXb h n
def ZDw{x:ZAQ}(h:ShowV x.shw)(hr:RoseV x.ros)(hb:isBx x.bas=true):DeskV x:=⟨⟨h.ok,by have:=hr.len;omega⟩,h,hr,hb⟩
def ZMS{x:ZAQ}(h:DeskV x){s:ZAN}(hs:ShowV s):DeskV (ZCw x s):=ZDw (x:=ZCw x s) hs h.ros h.box
def ZZY{x:ZAQ}(h:DeskV x){line:Str}(hl:line.length<=1048576):DeskV (ZBc x line).1:=by
 have key: ∀(c:Prop) [Decidable c] (a b:ZAQ×Str),(c->DeskV a.1)->DeskV b.1->DeskV (if c then a else b).1:=by
  intro c _ a b h1 h2
  by_cases hc:c
  ·rw[al_if_pos hc];exact h1 hc
  ·rw[al_if_neg hc];exact h2
 rcases ZE9 32 line with ⟨hn,_⟩ | ⟨p,r,e,hp,_⟩
 ·rw[ZMK x hn]
  unfold oneR
  refine key _ _ _ (λ_=>ZMS h (ZXj h.shw h.ok.ros _)) ?_
  refine key _ _ _ (λ_=>h) ?_
  refine key _ _ _ (λ_=>h) ?_
  refine key _ _ _ (λ_=>h) ?_
  refine key _ _ _ (λ_=>h) ?_
  exact key _ _ _ (λ_=>h) h
 ·subst e
  rw[ZML x hp]
  unfold ZA1
  refine key _ _ _ (λ_=>key _ _ _ (λhb=> ?_) h) ?_
  ·rw[ZAM]at hb
   exact ZDw (show ShowV (_,x.2.1,x.2.2.1,x.2.2.2.1,())from ZDs (ZZO hb.2) (ZFG h.shw) (ZEV h.shw) h.shw.tick) h.ros h.box
  refine key _ _ _ (λ_=>key _ _ _ (λhb=> ?_) h) ?_
  ·rw[ZAM]at hb
   exact ZDw (show ShowV (x.1,_,x.2.2.1,x.2.2.2.1,())from ZDs h.shw.rig (ZZQ h.ok.shw.score h.ok.shw.names hb.2) (ZEV h.shw) h.shw.tick) h.ros h.box
  refine key _ _ _ (λ_=>key _ _ _ (λ_=>key _ _ _ (λhb=> ?_) h) h) ?_
  ·exact ZDw (show ShowV (_,x.2.1,x.2.2.1,x.2.2.2.1,())from ZDs (ZZP hb) (ZFG h.shw) (ZEV h.shw) h.shw.tick) h.ros h.box
  refine key _ _ _ (λ_=>key _ _ _ (λ_=>h) h) ?_
  refine key _ _ _ (λ_=>key _ _ _ (λ_=>key _ _ _ (λhb=> ?_) h) h) ?_
  ·exact ZDw (show ShowV (x.1,x.2.1,_,x.2.2.2.1,())from ZDs h.shw.rig (ZFG h.shw) (ZZS h.ok.shw.wind hb) h.shw.tick) h.ros h.box
  refine key _ _ _ (λ_=>key _ _ _ (λhq=> ?_) h) ?_
  ·have hn:0<=(numP r).1:=by
    rcases ZFA r with q | ⟨m,_,_,q⟩<;>rw[q]<;>simp
   unfold ZBr
   refine key _ _ _ (λ_=>key _ _ _ (λh6=> ?_) h) ?_
   ·exact ZDw (show ShowV (x.1,x.2.1,x.2.2.1,_,())from ZDs h.shw.rig (ZFG h.shw) (ZEV h.shw) ⟨hn,h6⟩) h.ros h.box
   refine key _ _ _ (λ_=>ZMS h (ZZX h.shw _)) ?_
   refine key _ _ _ (λ_=>h) ?_
   exact key _ _ _ (λ_=>h) h
  refine key _ _ _ (λ_=>key _ _ _ (λ_=>key _ _ _ (λhb=> ?_) h) h) ?_
  ·have hlen:(ZA4 (splC 32 r)).length<=1048576:=by
    unfold ZA4;rw[List.length_map];have:=ZF4 32 r;simp at hl;omega
   have hI:=ZHa _ hlen
   rw[hb]at hI
   exact ZDw (x:=ZHb x _) h.shw (ZL6 hlen hI) h.box
  refine key _ _ _ (λ_=>key _ _ _ (λ_=>key _ _ _ (λhb=> ?_) h) h) ?_
  ·exact ZDw (x:=ZHc x _ _) h.shw h.ros hb
  exact key _ _ _ (λ_=>key _ _ _ (λ_=>key _ _ _ (λhb=>ZMS h (ZZV h.shw _ hb)) h) h) h
end Ev
end
noncomputable section
namespace Ev
open Go
def ZCE(x:ZAQ)(line:Str):ZAQ×Str:=if ZCD x=true then(match line with | []=>(x,[]) | c::l=>if c.toNat=35 then(x,[])else ZBc x (c::l))else(x,[])
def ZRr{x:ZAQ}(h:DeskV x){line:Str}(hl:line.length<=1048576):DeskV (ZCE x line).1:=by
 unfold ZCE
 rw[ZGI h,al_if_pos rfl]
 cases line with
 | nil=>exact h
 | cons c l=>
  simp only
  split
  ·exact h
  ·exact ZZY h hl
def ZRs{x:ZAQ}(h:DeskOK x){line:Str}(hl:line.length<=1048576):DeskOK (ZCE x line).1:=by
 by_cases hb:ZCD x=true
 ·exact(ZRr (ZMH h hb) hl).ok
 ·unfold ZCE;rw[al_if_neg hb];exact h
def ZRt{x:ZAQ}(h:DeskOK x){line:Str}(hl:line.length<=1048576):G18 (x,line,())=some ((ZCE x line).1,(ZCE x line).2,()):=by
 unfold ZCE
 by_cases hb:ZCD x=true
 ·rw[al_if_pos hb]
  cases line with
  | nil=>
   unfold G18 F18
   simp only[ZFK x h,hb,al_bind_some,ZBs (ZBP h)]
   rfl
  | cons c l=>
   simp only
   by_cases hc:c.toNat=35
   ·rw[al_if_pos hc]
    unfold G18 F18
    simp only[ZFK x h,hb,al_bind_some,ZBs (ZBP h),rd0,ZAF,ZAH,al_cond_true]
    rw[ZAG (show¬(c::l=[])by simp),ZA (show Int.ofNat c.toNat=35 by rw[hc];rfl)]
    rfl
   ·rw[al_if_neg hc]
    exact ZY0 (ZMH h hb) hc hl
 ·rw[al_if_neg hb]
  have hb:ZCD x=false:=by cases q:ZCD x<;>simp_all
  unfold G18 F18
  simp only[ZFK x h,hb,al_bind_some,ZBs (ZBP h)]
  rfl
def ZRu{x:ZAQ}(h:DeskOK x){line:Str}(hl:line.length<=1048576):G28 (x,line,())=some ((ZCE x line).1,(ZCE x line).2,()):=by
 have hz:=ZBP (ZRs h hl)
 unfold ZCE at hz⊢
 by_cases hb:ZCD x=true
 ·rw[al_if_pos hb]at hz⊢
  cases line with
  | nil=>
   unfold G28 F28
   simp only[ZHd (ZBP h),ZJP x h,hb,al_bind_some]
   rfl
  | cons c l=>
   simp only at hz⊢
   by_cases hc:c.toNat=35
   ·rw[al_if_pos hc]
    unfold G28 F28
    simp only[ZHd (ZBP h),ZJP x h,hb,al_bind_some,rd0,ZAF,ZAH,al_cond_true]
    rw[ZAG (show¬(c::l=[])by simp),ZA (show Int.ofNat c.toNat=35 by rw[hc];rfl)]
    rfl
   ·rw[al_if_neg hc]at hz⊢
    exact ZZK (ZMH h hb) hc hl hz
 ·rw[al_if_neg hb]
  have hb:ZCD x=false:=by cases q:ZCD x<;>simp_all
  unfold G28 F28
  simp only[ZHd (ZBP h),ZJP x h,hb,al_bind_some]
  rfl
def ZZZ(n:Nat)(hn:n<=1048576)(k:Int)(hk:0<=k/\k<=100000000):(F75) (mPs n k,k,())=some (k+2*(n:Int),()):=by
 unfold F75
 obtain⟨t,⟨_,rfl⟩,e⟩:=ZBM (f:=(s75_0)) (K:=λt7=>some (t7.2.1,())) (t:=(mPs n k,k,0,())) n
  (λi t=>True/\t=(mPs n k,k+2*(i:Int),(i:Int),())) (by omega) ⟨trivial,by simp⟩
  (by
   rintro i _ hi ⟨_,rfl⟩
   have hx:=ZME n k i hi
   have eq:k+2*((i+1:Nat):Int)=k+2*(i:Int)+2:=by omega
   have hq:0<=k+2*(i:Int)/\k+2*(i:Int)<=200000000:=by omega
   have hlt:(i:Int)<Int.ofNat (mPs n k).length:=by rw[ZJO];simp;omega
   generalize k+2*(i:Int)=q at hq eq hx⊢
   unfold mP at hx
   have hx':=λ(K:Place->Option (Int×Unit))=>ZAE (K:=K) hx
   have e1:w64 (q+1)=q+1:=ZAB
   have e2:w64 (q+1+1)=q+1+1:=ZAB
   have ei:w64 ((i:Int)+1)=((i+1:Nat):Int):=ZAB
   refine⟨_,⟨trivial,rfl⟩,λrec K=> ?_⟩
   simp only[s75_0]
   rw[ZA hlt]
   simp only[hx',al_bind_some,e1,e2,ei,decide_true,ZAF,al_cond_false]
   rw[eq,show q+1+1=q+2 by omega])
  (by
   rintro _ ⟨_,rfl⟩ rec K
   simp only[s75_0]
   rw[ZAA (by simp[ZJO])])
 exact e
def mkK(x:ZAQ):Int:=1+8*(x.1.length:Int)+4*(x.2.1.length:Int)+3*(x.2.2.1.length:Int)
def ZRv(x:ZAQ)(h:DeskOK x):G31 (x,1,())=some (mDs x.1.length 1,mCs x.2.1.length (1+8*(x.1.length:Int)),mGs x.2.2.1.length (1+8*(x.1.length:Int)+4*(x.2.1.length:Int)),mPs x.2.2.2.2.1.length (mkK x),mkK x+2*(x.2.2.2.2.1.length:Int),()):=by
 have h1:=h.shw.rig;have h2:=h.shw.score;have h3:=h.shw.wind;have h4:=h.ros
 have e1:G72 ((x.1,x.2.1,x.2.2.1,x.2.2.2.1,()),1,())=_:=ZY 0 0 0 x.1 x.2.1 x.2.2.1 x.2.2.2.1 h1 h2 h3
 have h1:x.1.length<=1048576:=h1;have h2:x.2.1.length<=1048576:=h2;have h3:x.2.2.1.length<=1048576:=h3
 have e2:G73 (x.2.2.2.2.1,mkK x,())=_:=ZYB x.2.2.2.2.1 h4 (mkK x) (by unfold mkK;omega)
 unfold G31 F31
 simp only[e1,al_bind_some]
 rw[show(1+8*(x.1.length:Int)+4*(x.2.1.length:Int)+3*(x.2.2.1.length:Int))=mkK x from rfl,e2]
 rfl
def ZZa(x:ZAQ)(h:DeskOK x)(t:Int)(a b c d:Int):G32 ((mDs x.1.length 1,mCs x.2.1.length (1+8*(x.1.length:Int)),mGs x.2.2.1.length (1+8*(x.1.length:Int)+4*(x.2.1.length:Int)),t,mPs x.2.2.2.2.1.length (mkK x),a,b,c,d,()),1,())=some (mkK x+2*(x.2.2.2.2.1.length:Int),()):=by
 have h1:=h.shw.rig;have h2:=h.shw.score;have h3:=h.shw.wind;have h4:=h.ros
 have e1:G74 ((mDs x.1.length 1,mCs x.2.1.length (1+8*(x.1.length:Int)),mGs x.2.2.1.length (1+8*(x.1.length:Int)+4*(x.2.1.length:Int)),t,()),1,())=some (mkK x,()):=ZYA x.1.length x.2.1.length x.2.2.1.length t h1 h2 h3
 have h1:x.1.length<=1048576:=h1;have h2:x.2.1.length<=1048576:=h2;have h3:x.2.2.1.length<=1048576:=h3
 have h4:x.2.2.2.2.1.length<=1048576:=h4
 have e2:G75 (mPs x.2.2.2.2.1.length (mkK x),mkK x,())=_:=ZZZ x.2.2.2.2.1.length h4 (mkK x) (by unfold mkK;omega)
 have c1: ¬mkK x<0:=by unfold mkK;omega
 unfold G32 F32
 simp only[e1,al_bind_some,e2]
 rw[ZAA c1,ZAA]
def ZZq(x:ZAQ)(line:Str)(hw:ZMF x)(hs:line.length<=maxLen):G7 (x,line,())=some (true,()):=by
 obtain⟨n,hn,hn'⟩:=ZYG x hw
 have hn:G27 (x,1048576,())=some (n,()):=hn
 unfold G7 F7
 by_cases h0:Int.ofNat line.length>1048576
 ·simp only
  rw[ZA h0]
 simp only
 rw[ZAA h0,hn]
 simp only[al_bind_some]
 by_cases h1:n<0
 ·rw[ZA h1]
 rw[ZAA h1]
 have hx:=hn' (by omega)
 have hl:line.length<=1048576:=by simp only[ZAU]at h0;omega
 have hy:=ZRs hx hl
 have t1:G29 (x,())=some (x,()):=ZYH x hx
 have t2:G30 (x,x,())=some (true,()):=ZRI x hx
 have t3: ∀y,DeskOK y->G30 (y,y,())=some (true,()):=λy h=>ZRI y h
 have c1: ¬mkK x+2*(x.2.2.2.2.1.length:Int)<0:=by unfold mkK;omega
 simp only[t1,al_bind_some,ZRu hx hl,ZRt hx hl,t3 _ hy,t3 _ hx,ZRv x hx,ZAF,ZAH,al_cond_true,al_cond_false,decide_true]
 generalize (ZCE x line).1=y at hy
 have c2: ¬mkK y+2*(y.2.2.2.2.1.length:Int)<0:=by unfold mkK;omega
 rw[ZAG c1]
 simp only[ZRv y hy,al_bind_some,ZZa y hy,ZAF,ZAH,al_cond_true,al_cond_false,decide_true,ZAG c2]
end Ev
end
noncomputable section
namespace Go.Proofs
open Go.Shelf Go.Lib
def ZZr{H:Type}{enc:TypeId×Value->H}{a:Assume}{C:Checked}{os:Os}{f:FuncId}{fn:Func}{s:ChangeSpec}{conds:List PathCond}{apart fresh handsOn again:Bool}{X:World->Array Value->Prop}
  (hX: ∀(w w':World) (args:Array Value),w.heap=w'.heap->X w args->X w' args)
  (own:ownKnob C.prog.godebug=none) (started:os.Started) (noInit:C.prog.inits.idxOf? f=none) (hfn:C.prog.funcs[f]?=some fn)
  (witness: ∃(w:World) (tape:Tape) (i:Input),w.os=os/\(w.forCall tape i).Shaped C.prog/\i.vars=[]/\Input.okWide C.prog (w.forCall tape i) .any w.heap.size f i/\
   ((s.pre enc C.prog fn conds apart (w.forCall tape i).memory i.args/\X (w.forCall tape i).memory i.args)/\sizedMet enc C.prog fn (OpenSpec.ofChange s) apart (w.forCall tape i).memory i.args)/\a.holds C.prog (lone (Frame.enter C.prog f i.args .normal) [] (w.forCall tape i)))
  (contract: ∀(W:World) (base:Nat) (args:Array Value) (ds gs:List (DataW H)) (before:List MemPlace),
   (∀(j:Nat) t v,fn.params[j]?=some t->args[j]?=some v->Value.okWide C.prog W .any base t v)->
   DataW.Whole enc C.prog fn.params.toList s.vars apart W args.toList ds gs before->
   conds.all (PathCond.test C.prog ⟨fn.params.toList,ds,s.plain.varTypes C.prog,gs⟩)=true->
   (DataW.weightsEach C.prog (fn.params.toList++s.plain.varTypes C.prog) (ds++gs)).all (· <=reachBytes)=true->X W args->W.ShapedOpen C.prog->
   a.holds C.prog (lone (Frame.enter C.prog f args .normal) [] W)->
   Calls C.prog f args W λe W'=> ∃v,e= .returned v/\s.post enc C.prog fn apart fresh handsOn again W args v W'):
  ReturnsInHanded a C os f .any (λw args=>(s.pre enc C.prog fn conds apart w args/\X w args)/\sizedMet enc C.prog fn (OpenSpec.ofChange s) apart w args) (s.post enc C.prog fn apart fresh handsOn again):=by
 refine returnsInHanded_of_calls own started noInit witness ?_
 intro w tape i _ hsh _ hok hpre hholds
 obtain⟨_,_,_,fn',hfn',_,_,_,_,hval⟩:=hok
 have e:fn'=fn:=Option.some.inj (hfn'.symm.trans hfn)
 subst e
 obtain⟨⟨⟨ds,gs,before,hw,hc⟩,hx⟩,hz⟩:=hpre
 have hw':=DataW.Whole.of_heap (w':=w.forCall tape i) (by rfl) hw
 refine(contract (w.forCall tape i) w.heap.size i.args ds gs before hval hw' hc (hz.weights hw) (hX _ _ _ (by rfl) hx) hsh hholds).mono λe W' ⟨v,he,hp⟩=> ?_
 subst he
 exact ChangeSpec.post_blind hp
def ZZb:U8Types Tryz.prog Tryz.lays271_ren:=⟨by kernel_rfl,by kernel_rfl,by kernel_rfl,by kernel_rfl⟩
def ZZc:U8Extra Tryz.prog Tryz.lays271_ren:=⟨by kernel_rfl,by kernel_rfl,by kernel_rfl,by kernel_rfl,by kernel_rfl,by kernel_rfl,by kernel_rfl⟩
def ZGL{w:World}{g i:Nat}{v:Value}(h:w.cell? ⟨g,i,none⟩=some v): ∃cs e r,w.heap[g]?=some (.cells cs e r)/\cs[i]?=some v:=by
 unfold World.cell? at h
 split at h
 ·rename_i cs e r hc
  exact⟨cs,e,r,hc,by simpa using h⟩
 ·cases h
def ZJS{w:World}{g:Nat}{o:Obj}(h:w.heap[g]?=some o):g<w.heap.size:=by
 rcases Nat.lt_or_ge g w.heap.size with q | q
 ·exact q
 ·rw[Array.getElem?_eq_none q]at h;cases h
abbrev ZFN:List (String×DataW Unit):=[("math/bits.deBruijn32tab",YtoafhcjocdjkjaaGreatDoor.Rows.laid_math_bits_deBruijn32tab),("math/bits.deBruijn64tab",YtoafhcjocdjkjaaGreatDoor.Rows.laid_math_bits_deBruijn64tab),("internal/strconv.uint64pow10",YtoafhcjocdjkjaaGreatDoor.Rows.laid_internal_strconv_uint64pow10),("unicode/utf8.acceptRanges",YtoafhcjocdjkjaaGreatDoor.Rows.laid_unicode_utf8_acceptRanges),("unicode/utf8.first",YtoafhcjocdjkjaaGreatDoor.Rows.laid_unicode_utf8_first)]
def ZZs{W:World}(hL:laidMet Tryz.prog ZFN W)(hS:W.ShapedOpen Tryz.prog):Ev.Glob (λb=>b<W.heap.size) W:=by
 have a1:("unicode/utf8.first",Lib.firstData)∈ZFN:=by
  rw[show(Lib.firstData:DataW Unit)=YtoafhcjocdjkjaaGreatDoor.Rows.laid_unicode_utf8_first from by kernel_rfl];simp[ZFN]
 have a2:("unicode/utf8.acceptRanges",Lib.acceptData)∈ZFN:=by
  rw[show(Lib.acceptData:DataW Unit)=YtoafhcjocdjkjaaGreatDoor.Rows.laid_unicode_utf8_acceptRanges from by kernel_rfl];simp[ZFN]
 have a3:("internal/strconv.uint64pow10",Lib.tabData .u64 Lib.pow10Tab)∈ZFN:=by
  rw[show(Lib.tabData .u64 Lib.pow10Tab:DataW Unit)=YtoafhcjocdjkjaaGreatDoor.Rows.laid_internal_strconv_uint64pow10 from by kernel_rfl];simp[ZFN]
 have hU:Lib.Utf8Tabs 1 2 W:=utf8Tabs_of_readsT ZZb ZZc (Lib.laidMet.reads hL a1) (Lib.laidMet.reads hL a2)
 have h0:((begin Tryz.prog (λ_ _=>0) default).world.heap[0]?).bind Obj.row?=some (#[Value.int .i64 0],3):=by kernel_rfl
 obtain⟨cs0,hh0,hs0,_⟩:=hS.1 0 _ 3 (of_decide_eq_true (by kernel_rfl)) h0
 obtain⟨m,hm⟩:=cell_of_shapedOpen_int hS (of_decide_eq_true (by kernel_rfl)) h0 rfl (by kernel_rfl) (by kernel_rfl) (show Tryz.prog.underlying 3=some (.int .i64)by kernel_rfl)
 intro x hx
 simp only[Ev.GP,List.mem_cons,List.not_mem_nil,or_false]at hx
 rcases hx with rfl | rfl | rfl | rfl
 ·obtain⟨cs,e,r,hc,h2⟩:=ZGL hm
  rw[hh0]at hc;cases hc
  refine⟨ZJS hh0,cs0,_,_,hh0,m,?_⟩
  have hsz:cs0.size=1:=hs0
  apply Array.ext_getElem?
  intro i
  match i with
  | 0=>rw[h2];rfl
  | i+1=>rw[Array.getElem?_eq_none (by omega),Array.getElem?_eq_none (by simp)]
 ·obtain⟨cs,e,r,hc,_⟩:=ZGL (hU.1 0 (by omega))
  refine⟨ZJS hc,cs,e,r,hc,λc hlt=> ?_⟩
  obtain⟨cs',e',r',hc',h2⟩:=ZGL (hU.1 c hlt)
  rw[hc]at hc';cases hc';exact h2
 ·obtain⟨cs,e,r,hc,_⟩:=ZGL (hU.2 0 (by omega)).1
  refine⟨ZJS hc,cs,e,r,hc,λi hlt=> ?_⟩
  obtain⟨cs',e',r',hc',h2⟩:=ZGL (hU.2 i hlt).1
  obtain⟨cs'',e'',r'',hc'',h3⟩:=ZGL (hU.2 i hlt).2
  rw[hc]at hc' hc'';cases hc';cases hc'';exact⟨h2,h3⟩
 ·obtain⟨g,t,cs,fuel,p,hg,hty,hvar,hd⟩:=Lib.laidMet.reads hL a3
  have hg3:Tryz.prog.globalNamed "internal/strconv.uint64pow10" =some 3:=by kernel_rfl
  obtain rfl:=Option.some.inj (hg3.symm.trans hg)
  obtain rfl:=Option.some.inj ((show(Tryz.prog.globals[3]?).map (·.type)=some 322 by kernel_rfl).symm.trans hty)
  have hcs:=cells_of_tab Tryz.underlying322 (show Tryz.prog.underlying 304=some (.int .u64)by kernel_rfl) (by kernel_rfl) (by kernel_rfl) hd
  unfold World.var? at hvar
  rw[hg3,Option.bind_some]at hvar
  split at hvar
  ·rename_i cs' e r hc
   cases hvar
   refine⟨ZJS hc,cs,e,r,hc,?_⟩
   rw[<-hcs]
  ·cases hvar
end Go.Proofs
end
noncomputable section
namespace Ev
open Go
def newD:ZAQ:=([],[],[],0,[⟨0,0⟩],0,0,0,0,())
def ZZd:G51 ([(⟨0,0⟩:Place)],())=some (true,()):=by
 obtain⟨n,hn⟩: ∃n,fuel=n+9:=⟨fuel-9,by rw[ZBu]⟩
 unfold G51 F51
 rw[hn]
 kernel_rfl
def ZZe:RigP []:=⟨by simp,(λd hd=>by cases hd),(λi d e hd=>by simp at hd),(λd hd=>by cases hd)⟩
def ZZf:ScoreP []:=⟨by simp,(λd hd=>by cases hd),(λi d e hd=>by simp at hd)⟩
def ZZg:WindP []:=⟨by simp,(λd hd=>by cases hd),(λi d e hd=>by simp at hd)⟩
def ZRw:DeskV newD:=ZDw (x:=newD) (show ShowV ([],[],[],0,())from ZDs ZZe ZZf ZZg ⟨by omega,by omega⟩) (ZL6 (by simp[newD,ZAQ.ros]) ZZd) rfl
def runD(x:ZAQ):List Str->ZAQ
 | []=>x
 | w::ws=>runD (ZCE x w).1 ws
def runL(x:ZAQ):List Str->List Str
 | []=>[]
 | w::ws=>(ZCE x w).2::runL (ZCE x w).1 ws
def ZJT: ∀(ws:List Str) (x:ZAQ),(runL x ws).length=ws.length
 | [],_=>rfl
 | w::ws,x=>by simp only[runL,al_len_cons,ZJT ws]
def ZMT: ∀(ws:List Str) (x:ZAQ) (w:Str),runD x (ws++[w])=(ZCE (runD x ws) w).1
 | [],_,_=>rfl
 | v::ws,x,w=>by simp only[List.cons_append,runD,ZMT ws]
def ZMU: ∀(ws:List Str) (x:ZAQ) (w:Str),runL x (ws++[w])=runL x ws++[(ZCE (runD x ws) w).2]
 | [],_,_=>rfl
 | v::ws,x,w=>by simp only[List.cons_append,runD,runL,ZMU ws]
def ZMV: ∀(ws:List Str) {x:ZAQ},DeskV x->(∀w∈ws,w.length<=1048576)->DeskV (runD x ws)
 | [],_,h,_=>h
 | w::ws,x,h,hw=>ZMV ws (ZRr h (hw w (by simp))) λv hv=>hw v (by simp[hv])
def ZFO(s:Str):List Str:=if 4000<s.length then []else if 40<(splC 10 s).length then []else runL newD (splC 10 s)
def ZZh(s:Str)(hs:s.length<=1048576):G11 (s,())=some (ZFO s,()):=by
 unfold G11 F11 ZFO
 simp only[ZHT s 10 hs,al_bind_some]
 by_cases h1:4000<s.length
 ·rw[al_if_pos h1,ZAL (show Int.ofNat s.length>4000 by simp only[ZAU];omega)];rfl
 rw[al_if_neg h1,ZAG (show¬Int.ofNat s.length>4000 by simp only[ZAU];omega)]
 by_cases h2:40<(splC 10 s).length
 ·rw[al_if_pos h2,ZAL (show Int.ofNat (splC 10 s).length>40 by simp only[ZAU];omega)];rfl
 rw[al_if_neg h2,ZAG (show¬Int.ofNat (splC 10 s).length>40 by simp only[ZAU];omega)]
 have hw: ∀w∈splC 10 s,w.length<=1048576:=λw hw=>Nat.le_trans (ZEP 10 s w hw).2 hs
 generalize splC 10 s=ws at h2 hw
 simp only[ZAH,al_cond_true,al_cond_false]
 have e:G39 ()=some (newD,()):=rfl
 rw[e]
 simp only[al_bind_some]
 have run:=ZAW (f:=s11_0 G10 G39 G18) (K:=λx3=>some (x3.1,())) (λi=>(runL newD (ws.take i),runD newD (ws.take i),ws,Int.ofNat ws.length,(i:Int),())) ws.length (by omega)
  (by
   intro i hi rec K
   have hx:ws[i]?=some ws[i]:=by simp
   have w1:w64 ((i:Int)+1)=((i+1:Nat):Int):=ZAB
   have hv:=ZMV (ws.take i) ZRw λw h=>hw w (List.mem_of_mem_take h)
   have hl:=ZRt hv.ok (hw ws[i] (by simp))
   have hlen:(runL newD (ws.take i)).length<=40:=by rw[ZJT,al_len_take];omega
   rw[ZBh ws i hi,ZMU,ZMT]
   simp only[s11_0,ZAE hx,hx,ZAX,w1,hl,al_bind_some]
   rw[ZA,ZAC (by simp only[al_len_cons,al_len_nil];omega)])
  (by
   intro rec K
   simp only[s11_0]
   rw[ZAA])
 rw[List.take_length]at run
 exact run
def ZZi(s:Str)(hs:s.length<=1048576):G13 (s,())=some (ZFO s,()):=by
 unfold G13 F13 ZFO
 simp only[ZGC s 10 hs,al_bind_some]
 by_cases h1:4000<s.length
 ·rw[al_if_pos h1,ZAL (show Int.ofNat s.length>4000 by simp only[ZAU];omega)];rfl
 rw[al_if_neg h1,ZAG (show¬Int.ofNat s.length>4000 by simp only[ZAU];omega)]
 by_cases h2:40<(splC 10 s).length
 ·rw[al_if_pos h2,ZAL (show Int.ofNat (splC 10 s).length>40 by simp only[ZAU];omega)];rfl
 rw[al_if_neg h2,ZAG (show¬Int.ofNat (splC 10 s).length>40 by simp only[ZAU];omega)]
 have hw: ∀w∈splC 10 s,w.length<=1048576:=λw hw=>Nat.le_trans (ZEP 10 s w hw).2 hs
 generalize splC 10 s=ws at h2 hw
 simp only[ZAH,al_cond_true,al_cond_false]
 have e:G42 ()=some (newD,()):=rfl
 rw[e]
 simp only[al_bind_some]
 have run:=ZAW (f:=s13_0 G41 G42 G28) (K:=λx3=>some (x3.1,())) (λi=>(runL newD (ws.take i),runD newD (ws.take i),ws,Int.ofNat ws.length,(i:Int),())) ws.length (by omega)
  (by
   intro i hi rec K
   have hx:ws[i]?=some ws[i]:=by simp
   have w1:w64 ((i:Int)+1)=((i+1:Nat):Int):=ZAB
   have hv:=ZMV (ws.take i) ZRw λw h=>hw w (List.mem_of_mem_take h)
   have hl:=ZRu hv.ok (hw ws[i] (by simp))
   have hlen:(runL newD (ws.take i)).length<=40:=by rw[ZJT,al_len_take];omega
   rw[ZBh ws i hi,ZMU,ZMT]
   simp only[s13_0,ZAE hx,hx,ZAX,w1,hl,al_bind_some]
   rw[ZA,ZAC (by simp only[al_len_cons,al_len_nil];omega)])
  (by
   intro rec K
   simp only[s13_0]
   rw[ZAA])
 rw[List.take_length]at run
 exact run
def ZZj(s:Str):(ZFO s).length<=40:=by
 unfold ZFO
 split
 ·simp
 ·split
  ·simp
  ·rw[ZJT];omega
def ZZt(s:Str)(hs:s.length<=maxLen):G4 (s,())=some (true,()):=by
 unfold G4 F4
 by_cases h0:Int.ofNat s.length>1048576
 ·simp only
  rw[ZA h0]
 simp only
 rw[ZAA h0]
 have hl:s.length<=1048576:=by simp only[ZAU]at h0;omega
 have h40:=ZZj s
 simp only[ZZi s hl,ZZh s hl,al_bind_some]
 generalize ZFO s=l at h40
 have t1:=ZYC l (by omega)
 have t2:=ZYE l (by omega) 1 (by omega)
 have t3:=ZYF l.length (by omega) 1 (by omega)
 have c1: ¬(1+(l.length:Int)<0):=by omega
 simp only[t1,t2,t3,al_bind_some,ZAF,ZAH,al_cond_true,al_cond_false,decide_true,ZAG c1]
end Ev
end
