/- Laid together by program (what the claim does not reach is left out): WetA, Text, TxtA, TxtB, TxtC, ParA, ParB, ParC, ParD, ParE. -/
import Derived.Test.YtoafhcjocdjkjaaGreatDoorZC10
import Derived.Lib.TrimByte
import Derived.Lib.SplitLaws
import Derived.Lib.Join
import Derived.Lib.ItoaNum
set_option linter.all false
set_option maxRecDepth 100000
open Go.Proofs.Tryz
noncomputable section
namespace Ev
open Go
def rotX(h:Int)(p:Place):Int:=(rotN (q4 (w64 (0-h))) p).X
def wdF(h:Int)(a p:Place):Place:=if rotX h p>rotX h a then p else a
def wdV(h:Int)(r:List Place):Place:=match r with
 | []=>⟨0,0⟩
 | p::_=>r.foldl (wdF h) p
theorem ZWp(p:Place)(h:Int):G355 (p,w64 (0-h),())=some (rotN (q4 (w64 (0-h))) p,()):=ZI7 p _
theorem ZWq(p:Place)(h:Int):G220 (p,w64 (0-h),())=some (rotN (q4 (w64 (0-h))) p,()):=ZHb p _
theorem ZQt(r:List Place)(hr:r.length<=4)(h1:1<=r.length)(hv:G141 (r,())=some (true,())){h:Int}(hh:0<=h/\h<=3):G315 (r,h,())=some (wdV h r,()):=by
 obtain⟨p0,l,rfl⟩: ∃p l,r=p::l:=by
  cases r with
  | nil=>simp at h1
  | cons p l=>exact⟨p,l,rfl⟩
 unfold G315 F315
 dsimp only
 have hd:G354 (h,())=some (wi h 0 3,()):=ZLT h
 rw[hv]
 simp only[al_bind_some,ZAG,al_cond_false,hd,ZAZ hh.1 hh.2]
 generalize hrr:p0::l=r at hr h1 hv⊢
 have hr0:r[0]?=some p0:=by rw[<-hrr];rfl
 have:=ZAU (f:=s315_0 G141 G354 G355) (K:=λt6=>some (t6.2.2.1,())) (λi=>(h,⟨0,0⟩,(if i=0 then⟨0,0⟩else(r.take i).foldl (wdF h) p0),r,Int.ofNat r.length,(i:Int),())) r.length (by omega)
  (by
   intro i hi rec K
   have hx:r[i]?=some r[i]:=by simp
   have e1:w64 ((i:Int)+1)=((i+1:Nat):Int):=ZAC
   rw[al_if_neg (show¬i+1=0 by omega)]
   simp only[s315_0]
   rw[ZA,ZAF hx,e1,ZB6 _ _ r i hi]
   by_cases hz:i=0
   ·subst hz
    have:r[0]=p0:=by rw[hx]at hr0;exact Option.some.inj hr0
    rw[this]
    simp[wdF]
   ·rw[ZAE (show¬(i:Int)=0 by omega),al_if_neg hz]
    simp only[ZAK,al_cond_true,ZWp,al_bind_some]
    generalize (r.take i).foldl (wdF h) p0=acc
    unfold wdF
    by_cases hc:rotX h r[i]>rotX h acc
    ·rw[al_if_pos hc];unfold rotX at hc;rw[ZA hc]
    ·rw[al_if_neg hc];unfold rotX at hc;rw[ZAA hc])
  (by
   intro rec K
   simp only[s315_0]
   rw[ZAA])
 refine this.trans ?_
 simp only[al_if_neg (show¬r.length=0 by omega),List.take_length]
 subst hrr
 rfl
theorem ZWr(r:List Place)(hr:r.length<=4)(h1:1<=r.length)(hv:G51 (r,())=some (true,())){h:Int}(hh:0<=h/\h<=3):G127 (r,h,())=some (wdV h r,()):=by
 obtain⟨p0,l,rfl⟩: ∃p l,r=p::l:=by
  cases r with
  | nil=>simp at h1
  | cons p l=>exact⟨p,l,rfl⟩
 unfold G127 F127
 dsimp only
 have hd:G219 (h,())=some (wi h 0 3,()):=ZHU h
 rw[hv]
 simp only[al_bind_some,ZAG,al_cond_false,hd,ZAZ hh.1 hh.2]
 generalize hrr:p0::l=r at hr h1 hv⊢
 have hr0:r[0]?=some p0:=by rw[<-hrr];rfl
 have hr0':=λ(K:Place->Option (Place×Unit))=>ZAF (i:=0) (K:=K) hr0
 simp only[Int.ofNat_zero,Int.natCast_zero]at hr0'
 rw[hr0']
 have:=ZAU (f:=s127_0 G51 G219 G220) (K:=λt6=>some (t6.2.2.1,())) (λi=>(h,⟨0,0⟩,(r.take i).foldl (wdF h) p0,r,Int.ofNat r.length,(i:Int),())) r.length (by omega)
  (by
   intro i hi rec K
   have hx:r[i]?=some r[i]:=by simp
   have e1:w64 ((i:Int)+1)=((i+1:Nat):Int):=ZAC
   simp only[s127_0]
   rw[ZA,ZAF hx,e1,ZB6 _ _ r i hi]
   simp only[ZWq,al_bind_some]
   generalize (r.take i).foldl (wdF h) p0=acc
   unfold wdF
   by_cases hc:rotX h r[i]>rotX h acc
   ·rw[al_if_pos hc];unfold rotX at hc;rw[ZA hc]
   ·rw[al_if_neg hc];unfold rotX at hc;rw[ZAA hc])
  (by
   intro rec K
   simp only[s127_0]
   rw[ZAA])
 refine this.trans ?_
 simp only[List.take_length]
 subst hrr
 rfl
end Ev
namespace Ev
open Go
theorem ZWs{R T A:Type}{f:T->(T->Option R)->(T->Option R)->Option R}{K:T->Option R}(st:Nat->T)(q:Nat->Option A)(r:A->Option R)(n:Nat)
  (hs: ∀i,i<n-> ∀rec K,f (st i) rec K=(q i).elim (rec (st (i+1))) r) (he: ∀rec K,f (st n) rec K=K (st n)):
  ∀(d i m:Nat),i+d=n->d<m->ZAD f m (st i) K=((List.range' i d).findSome? q).elim (K (st n)) r:=by
 intro d
 induction d with
 | zero=>
  intro i m h1 h2
  obtain⟨m,rfl⟩: ∃k,m=k+1:=⟨m-1,by omega⟩
  have:i=n:=by omega
  subst this
  rw[ZAS,he];rfl
 | succ d ih=>
  intro i m h1 h2
  obtain⟨m,rfl⟩: ∃k,m=k+1:=⟨m-1,by omega⟩
  rw[ZAS,hs i (by omega),ih (i+1) m (by omega) (by omega),List.range'_succ,List.findSome?_cons]
  cases q i<;>rfl
theorem ZJO{R T A:Type}{f:T->(T->Option R)->(T->Option R)->Option R}{K:T->Option R}(st:Nat->T)(q:Nat->Option A)(r:A->Option R)(n:Nat)(hn:n<=18446744073709551616)
  (hs: ∀i,i<n-> ∀rec K,f (st i) rec K=(q i).elim (rec (st (i+1))) r) (he: ∀rec K,f (st n) rec K=K (st n)):
  ZAD f fuel (st 0) K=((List.range n).findSome? q).elim (K (st n)) r:=by
 rw[List.range_eq_range']
 exact ZWs st q r n hs he n 0 fuel (by omega) (by rw[ZBx];omega)
def wq(r:List Place)(x:Throw)(h:Nat):Place:=plus (ZBN x.jet).1 ⟨w64 (fl x.jet*(wdV (h:Int) r).X),w64 (fl x.jet*(wdV (h:Int) r).Y)⟩
def ZC5(p:Place)(c:Box)(h:Nat):Bool:=if h=0 then decide (p.X>c.High.X)else if h=1 then decide (p.Y>c.High.Y)else if h=2 then decide (p.X<c.Low.X)else decide (p.Y<c.Low.Y)
def hitH(r:List Place)(c:Box)(x:Throw):Option Nat:=(List.range 4).findSome? λh=>if ZC5 (wq r x h) c h=true then some h else none
def hitL(r:List Place)(c:Box)(l:List Throw):Option (Throw×Nat):=(List.range l.length).findSome? λi=>(l[i]?).bind λx=>(hitH r c x).map λh=>(x,h)
theorem ZQu{r:List Place}{c:Box}{x:Throw}{h:Nat}(e:hitH r c x=some h):h<4/\ZC5 (wq r x h) c h=true:=by
 unfold hitH at e
 obtain⟨k,hk,e⟩:=List.exists_of_findSome?_eq_some e
 have hk:k<4:=by simpa using hk
 split at e
 ·cases e;exact⟨hk,by assumption⟩
 ·cases e
theorem ZJP{r:List Place}{c:Box}{l:List Throw}{x:Throw}{h:Nat}(e:hitL r c l=some (x,h)):x∈l/\hitH r c x=some h:=by
 unfold hitL at e
 obtain⟨i,hi,e⟩:=List.exists_of_findSome?_eq_some e
 cases hx:l[i]? with
 | none=>rw[hx]at e;cases e
 | some y=>
  rw[hx]at e
  simp only[al_bind_some]at e
  cases hh:hitH r c y with
  | none=>rw[hh]at e;cases e
  | some k=>
   rw[hh]at e
   simp only[Option.map_some,Option.some.injEq,Prod.mk.injEq]at e
   obtain⟨rfl,rfl⟩:=e
   exact⟨List.mem_iff_getElem?.mpr ⟨i,hx⟩,hh⟩
theorem ZWt{r:List Place}{c:Box}{l:List Throw}(e:hitL r c l=none): ∀x∈l,∀h,h<4->ZC5 (wq r x h) c h=false:=by
 intro x hx h hh
 unfold hitL at e
 rw[List.findSome?_eq_none_iff]at e
 obtain⟨i,hi⟩:=List.mem_iff_getElem?.mp hx
 have:=e i (by simpa using (al_get_iff.mp hi).1)
 rw[hi]at this
 simp only[al_bind_some]at this
 cases hk:hitH r c x with
 | some k=>rw[hk]at this;cases this
 | none=>
  unfold hitH at hk
  rw[List.findSome?_eq_none_iff]at hk
  have:=hk h (by simpa using hh)
  cases hs:ZC5 (wq r x h) c h
  ·rfl
  ·rw[hs]at this;simp at this
theorem ZWu(p:Place)(c:Box)(h:Nat)(hh:h<4):G353 (p,c,(h:Int),())=some (ZC5 p c h,()):=by
 rcases k4 hh with rfl | rfl | rfl | rfl<;>rfl
theorem ZWv(p:Place)(c:Box)(h:Nat)(hh:h<4):G128 (p,c,(h:Int),())=some (ZC5 p c h,()):=by
 rcases k4 hh with rfl | rfl | rfl | rfl<;>rfl
theorem ZQv(j:Jet):G316 (j,())=some ((ZBN j).1,(ZBN j).2,()):=ZPq j
theorem ZWw(j:Jet):G125 (j,())=some ((ZBN j).1,(ZBN j).2,()):=ZLX j
def ZCe:Throw:=⟨[],0,⟨⟨0,0⟩,0,0,0⟩⟩
section
variable {r:List Place} (hr:r.length<=4) (h1:1<=r.length) (hS:G141 (r,())=some (true,())) (hI:G51 (r,())=some (true,()))
include hr h1 hS in
theorem ZWx(c:Box)(x:Throw)(l:List Throw)(n i0:Int)(K:List Place×Box×Throw×Throw×Place×Int×List Throw×Int×Int×Unit->Option (Throw×Int×Bool×Unit)):
  ZAD (s314_2 G309 G316 G315 G311 G317 G353) fuel (r,c,ZCe,x,(ZBN x.jet).1,0,l,n,i0,()) K=(hitH r c x).elim (K (r,c,ZCe,x,(ZBN x.jet).1,4,l,n,i0,())) (λh=>some (x,(h:Int),true,())):=by
 refine ZJO (f:=s314_2 G309 G316 G315 G311 G317 G353) (K:=K) (λh=>(r,c,ZCe,x,(ZBN x.jet).1,(h:Int),l,n,i0,())) (λh=>if ZC5 (wq r x h) c h=true then some h else none) (λh=>some (x,(h:Int),true,())) 4 (by omega) ?_ ?_
 ·intro h hh rec K
  have e1:w64 ((h:Int)+1)=((h+1:Nat):Int):=ZAC
  simp only[s314_2]
  rw[ZA,ZQt r hr h1 hS (by omega)]
  simp only[al_bind_some,ZFT,ZHl]
  have hq:plus (ZBN x.jet).1 ⟨w64 (fl x.jet*(wdV (h:Int) r).X),w64 (fl x.jet*(wdV (h:Int) r).Y)⟩=wq r x h:=rfl
  rw[hq,ZWu _ c h hh,e1]
  simp only[al_bind_some]
  cases ZC5 (wq r x h) c h<;>rfl
 ·intro rec K
  simp only[s314_2]
  rw[ZAA]
include hr h1 hI in
theorem ZWy(c:Box)(x:Throw)(l:List Throw)(n i0:Int)(K:List Place×Box×Throw×Place×Place×Throw×Place×Int×List Throw×Int×Int×Int×Unit->Option (Throw×Place×Place×Bool×Unit)):
  ZAD (s53_2 G51 G52 G59 G125 G126 G127 G128) fuel (r,c,ZCe,⟨0,0⟩,⟨0,0⟩,x,(ZBN x.jet).1,fl x.jet,l,n,i0,0,()) K=(hitH r c x).elim (K (r,c,ZCe,⟨0,0⟩,⟨0,0⟩,x,(ZBN x.jet).1,fl x.jet,l,n,i0,4,())) (λh=>some (x,wq r x h,wdV (h:Int) r,true,())):=by
 refine ZJO (f:=s53_2 G51 G52 G59 G125 G126 G127 G128) (K:=K) (λh=>(r,c,ZCe,⟨0,0⟩,⟨0,0⟩,x,(ZBN x.jet).1,fl x.jet,l,n,i0,(h:Int),())) (λh=>if ZC5 (wq r x h) c h=true then some h else none) (λh=>some (x,wq r x h,wdV (h:Int) r,true,())) 4 (by omega) ?_ ?_
 ·intro h hh rec K
  have e1:w64 ((h:Int)+1)=((h+1:Nat):Int):=ZAC
  simp only[s53_2]
  rw[ZA,ZWr r hr h1 hI (by omega)]
  simp only[al_bind_some]
  have hq:(⟨w64 ((ZBN x.jet).1.X+w64 (fl x.jet*(wdV (h:Int) r).X)),w64 ((ZBN x.jet).1.Y+w64 (fl x.jet*(wdV (h:Int) r).Y))⟩:Place)=wq r x h:=rfl
  rw[hq,ZWv _ c h hh,e1]
  simp only[al_bind_some,ZFM]
  cases ZC5 (wq r x h) c h<;>rfl
 ·intro rec K
  simp only[s53_2]
  rw[ZAA]
include hr h1 hS in
theorem ZWz(c:Box)(l:List Throw)(hl:l.length<=1048576)(K:List Place×Box×Throw×List Throw×Int×Int×Unit->Option (Throw×Int×Bool×Unit)):
  ZAD (s314_0 G309 G316 G315 G311 G317 G353) fuel (r,c,ZCe,l,Int.ofNat l.length,0,()) K=(hitL r c l).elim (K (r,c,ZCe,l,Int.ofNat l.length,Int.ofNat l.length,())) (λa=>some (a.1,(a.2:Int),true,())):=by
 refine ZJO (f:=s314_0 G309 G316 G315 G311 G317 G353) (K:=K) (λi=>(r,c,ZCe,l,Int.ofNat l.length,(i:Int),())) (λi=>(l[i]?).bind λx=>(hitH r c x).map λh=>(x,h)) (λa=>some (a.1,(a.2:Int),true,())) l.length (by omega) ?_ ?_
 ·intro i hi rec K
  have hx:l[i]?=some l[i]:=by simp
  have hx':=λ(K:Throw->Option (Throw×Int×Bool×Unit))=>ZAF (K:=K) hx
  have e1:w64 ((i:Int)+1)=((i+1:Nat):Int):=ZAC
  simp only[s314_0]
  rw[ZA]
  simp only[hx',hx,ZAW,al_bind_some,ZQv]
  rw[ZWx hr h1 hS,e1]
  cases hitH r c l[i]<;>rfl
 ·intro rec K
  simp only[s314_0]
  rw[ZAA]
include hr h1 hI in
theorem ZW0(c:Box)(l:List Throw)(hl:l.length<=1048576)(K:List Place×Box×Throw×Place×Place×List Throw×Int×Int×Unit->Option (Throw×Place×Place×Bool×Unit)):
  ZAD (s53_0 G51 G52 G59 G125 G126 G127 G128) fuel (r,c,ZCe,⟨0,0⟩,⟨0,0⟩,l,Int.ofNat l.length,0,()) K=(hitL r c l).elim (K (r,c,ZCe,⟨0,0⟩,⟨0,0⟩,l,Int.ofNat l.length,Int.ofNat l.length,())) (λa=>some (a.1,wq r a.1 a.2,wdV (a.2:Int) r,true,())):=by
 refine ZJO (f:=s53_0 G51 G52 G59 G125 G126 G127 G128) (K:=K) (λi=>(r,c,ZCe,⟨0,0⟩,⟨0,0⟩,l,Int.ofNat l.length,(i:Int),())) (λi=>(l[i]?).bind λx=>(hitH r c x).map λh=>(x,h)) (λa=>some (a.1,wq r a.1 a.2,wdV (a.2:Int) r,true,())) l.length (by omega) ?_ ?_
 ·intro i hi rec K
  have hx:l[i]?=some l[i]:=by simp
  have hx':=λ(K:Throw->Option (Throw×Place×Place×Bool×Unit))=>ZAF (K:=K) hx
  have e1:w64 ((i:Int)+1)=((i+1:Nat):Int):=ZAC
  simp only[s53_0]
  rw[ZA]
  simp only[hx',hx,ZAW,al_bind_some,ZWw,ZHj]
  rw[ZWy hr h1 hI,e1]
  cases hitH r c l[i]<;>rfl
 ·intro rec K
  simp only[s53_0]
  rw[ZAA]
end
def wwL(s:ZAM)(r:List Place)(c:Box):Option (Throw×Nat):=hitL r c (ZAO s)
theorem ZW1{s:ZAM}(h:ShowV s){r:List Place}(hr:r.length<=1048576)(hI:G51 (r,())=some (true,())){c:Box}(hc:isBx c=true):
  G53 (s,r,c,())=(wwL s r c).elim (some (ZCe,⟨0,0⟩,⟨0,0⟩,false,())) (λa=>some (a.1,wq r a.1 a.2,wdV (a.2:Int) r,true,())):=by
 obtain⟨b,q1,q2,q3⟩:=ZEl r hr
 have hb:b=true:=by rw[hI]at q1;cases q1;rfl
 obtain⟨p1,p2,_⟩:=q3 hb
 have hl:=ZB5 h
 unfold G53 F53 wwL
 simp only[ZBI,hI,al_bind_some,ZA4,ZEk,hc]
 rw[ZDn h]
 simp only[al_bind_some]
 refine(ZW0 p2 p1 hI c (ZAO s) (by omega) _).trans ?_
 cases hitL r c (ZAO s)<;>rfl
theorem ZW2{s:ZAM}(h:ShowV s){r:List Place}(hr:r.length<=1048576)(hS:G141 (r,())=some (true,()))(c:Box):
  G314 (s,r,c,())=(wwL s r c).elim (some (ZCe,0,false,())) (λa=>some (a.1,(a.2:Int),true,())):=by
 obtain⟨b,q1,q2,q3⟩:=ZEl r hr
 have hb:b=true:=by rw[hS]at q2;cases q2;rfl
 obtain⟨p1,p2,_⟩:=q3 hb
 have hl:=ZB5 h
 unfold G314 F314 wwL
 try simp only[ZBI]
 rw[ZFR h]
 simp only[al_bind_some]
 refine(ZWz p2 p1 hS c (ZAO s) (by omega) _).trans ?_
 cases hitL r c (ZAO s)<;>rfl
theorem ZW3(l:List Device)(hl:l.length<=1048576):G184 (l,())=some (l,()):=by
 unfold G184 F184 ZBm
 cases l with
 | nil=>rw[ZAB];exact ZFM
 | cons x l=>rw[ZAB (by simp at hl⊢;omega)];rfl
theorem ZW4(l:List Gust)(hl:l.length<=1048576):G186 (l,())=some (l,()):=by
 unfold G186 F186 ZBm
 cases l with
 | nil=>rw[ZAB];exact ZFM
 | cons x l=>rw[ZAB (by simp at hl⊢;omega)];rfl
theorem ZW5(l:List Device)(hl:l.length<=1048576):G228 (l,())=some (l,()):=by
 unfold G228 F228
 rw[ZAB];rfl
theorem ZQw(s:ZAM)(h:ShowOK s):G94 (s,())=some (s,()):=by
 have h1:=ZW3 s.1 h.rig
 have h2:G185 (s.2.1,())=some (s.2.1,()):=ZI8 s.2.1 h.score
 have h3:=ZW4 s.2.2.1 h.wind
 unfold G94 F94
 simp only[h1,h2,h3,al_bind_some]
theorem ZW6(s:ZAM)(h:ShowOK s):G139 (s,())=some (s,()):=by
 have h1:=ZW5 s.1 h.rig
 have h2:G229 (s.2.1,())=some (s.2.1,()):=ZLl s.2.1 h.score
 have h3:=h.wind
 unfold G139 F139
 simp only[h1,h2,al_bind_some]
 rw[ZAB]
 rfl
def limV(r:List Place)(c:Box)(d:Device):Int:=((G208 (d,r,c,())).map λx=>x.1).getD 0
theorem ZQx(d:Device)(r:List Place)(c:Box)(h1:d.Name.length<=1048576)(h2:d.Line.length<=1048576)(hr:r.length<=1048576):G308 (d,r,c,())=some (limV r c d,())/\G208 (d,r,c,())=some (limV r c d,())/\((devB d=true/\d.Kind=2/\LimP d r c (limV r c d))\/(¬(devB d=true/\d.Kind=2)/\limV r c d=0)):=by
 obtain⟨v,g1,g2,g3⟩:=ZWg d r c h1 h2 hr
 have g1:G308 (d,r,c,())=some (v,()):=g1
 have g2:G208 (d,r,c,())=some (v,()):=g2
 have:limV r c d=v:=by unfold limV;rw[g2];rfl
 rw[this]
 exact⟨g1,g2,g3⟩
def lmD(r:List Place)(c:Box)(d:Device):Device:=if d.Kind=2 then⟨d.Name,d.Kind,d.Line,⟨d.At.X,d.At.Y⟩,d.Heading,d.Tilt,limV r c d⟩else d
def lmS(r:List Place)(c:Box)(s:ZAM):ZAM:=(s.1.map (lmD r c),s.2.1,s.2.2.1,s.2.2.2.1,())
def lmAt(r:List Place)(c:Box)(l:List Device)(i:Nat):List Device:=(l.take i).map (lmD r c)++l.drop i
theorem ZJQ(r:List Place)(c:Box)(l:List Device)(i:Nat)(hi:i<l.length):(lmAt r c l i)[i]?=some l[i]:=by
 unfold lmAt
 rw[List.getElem?_append_right (by simp;omega)]
 have:i-((l.take i).map (lmD r c)).length=0:=by simp;omega
 rw[this];simp[List.getElem?_drop]
theorem ZJR(r:List Place)(c:Box)(l:List Device)(i:Nat)(hi:i<l.length):(lmAt r c l i).set i (lmD r c l[i])=lmAt r c l (i+1):=by
 unfold lmAt
 have hn:((l.take i).map (lmD r c)).length=i:=by simp;omega
 rw[List.set_append_right _ _ (by omega),hn,Nat.sub_self,ZI1 l i hi,List.set_cons_zero,<-ZD2 (lmD r c) l i hi,List.append_assoc];rfl
theorem ZW7{α:Type}{l:List α}{i:Nat}{x:α}(h:l[i]?=some x):l.set i x=l:=by
 apply List.ext_getElem?;intro m
 rw[List.getElem?_set]
 by_cases e:i=m
 ·subst e
  have:=(al_get_iff.mp h).1
  rw[al_if_pos rfl,h];simp[this]
 ·rw[al_if_neg e]
theorem ZMA(r:List Place)(c:Box)(l:List Device)(i:Nat)(hi:i<l.length)(hk: ¬l[i].Kind=2):lmAt r c l i=lmAt r c l (i+1):=by
 have e:lmD r c l[i]=l[i]:=by unfold lmD;rw[al_if_neg hk]
 rw[<-ZJR r c l i hi,e]
 exact(ZW7 (ZJQ r c l i hi)).symm
section
variable (r:List Place) (hr:r.length<=1048576) (c:Box) (s:ZAM) (hs:ShowOK s)
include hr hs
theorem ZW8:ZAD (s236_0 G140 G141 G142 G139 G308) fuel (r,c,([],[],[],0,()),s,(),Int.ofNat s.1.length,0,()) (λt9=>some ((t9.2.2.2.1.1,t9.2.2.2.1.2.1,t9.2.2.2.1.2.2.1,t9.2.2.2.1.2.2.2.1,()),true,()))=some (lmS r c s,true,()):=by
 have hlen:=hs.rig
 refine(ZAU (f:=s236_0 G140 G141 G142 G139 G308) (K:=λt9=>some ((t9.2.2.2.1.1,t9.2.2.2.1.2.1,t9.2.2.2.1.2.2.1,t9.2.2.2.1.2.2.2.1,()),true,())) (λi=>(r,c,([],[],[],0,()),(lmAt r c s.1 i,s.2.1,s.2.2.1,s.2.2.2.1,()),(),Int.ofNat s.1.length,(i:Int),())) s.1.length (by omega) ?_ ?_).trans ?_
 ·intro i hi rec K
  have hx:=ZJQ r c s.1 i hi
  have hx':=λ(K:Device->Option ((List Device×List Cue×List Gust×Int×Unit)×Bool×Unit))=>ZAF (K:=K) hx
  have e1:w64 ((i:Int)+1)=((i+1:Nat):Int):=ZAC
  obtain⟨n1,n2⟩:=hs.devs s.1[i] (by simp)
  have hv:=(ZQx s.1[i] r c n1 n2 hr).1
  simp only[s236_0]
  rw[ZA]
  simp only[hx',hx,ZAW,al_bind_some,e1]
  by_cases hk:s.1[i].Kind=2
  ·rw[ZA hk,hv]
   simp only[hx',hx,al_bind_some]
   have:=ZJR r c s.1 i hi
   unfold lmD at this
   rw[al_if_pos hk]at this
   rw[this]
  ·rw[ZAA hk,<-ZMA r c s.1 i hi hk]
 ·intro rec K
  simp only[s236_0]
  rw[ZAA]
 ·simp[lmAt,lmS]
theorem ZW9:ZAD (s109_0 G50 G51 G52 G94 G208) fuel (r,c,([],[],[],0,()),s,(),Int.ofNat s.1.length,0,()) (λt9=>some ((t9.2.2.2.1.1,t9.2.2.2.1.2.1,t9.2.2.2.1.2.2.1,t9.2.2.2.1.2.2.2.1,()),true,()))=some (lmS r c s,true,()):=by
 have hlen:=hs.rig
 refine(ZAU (f:=s109_0 G50 G51 G52 G94 G208) (K:=λt9=>some ((t9.2.2.2.1.1,t9.2.2.2.1.2.1,t9.2.2.2.1.2.2.1,t9.2.2.2.1.2.2.2.1,()),true,())) (λi=>(r,c,([],[],[],0,()),(lmAt r c s.1 i,s.2.1,s.2.2.1,s.2.2.2.1,()),(),Int.ofNat s.1.length,(i:Int),())) s.1.length (by omega) ?_ ?_).trans ?_
 ·intro i hi rec K
  have hx:=ZJQ r c s.1 i hi
  have hx':=λ(K:Device->Option ((List Device×List Cue×List Gust×Int×Unit)×Bool×Unit))=>ZAF (K:=K) hx
  have e1:w64 ((i:Int)+1)=((i+1:Nat):Int):=ZAC
  obtain⟨n1,n2⟩:=hs.devs s.1[i] (by simp)
  have hv:=(ZQx s.1[i] r c n1 n2 hr).2.1
  simp only[s109_0]
  rw[ZA]
  simp only[hx',hx,ZAW,al_bind_some,e1]
  by_cases hk:s.1[i].Kind=2
  ·rw[ZA hk,hv]
   simp only[hx',hx,al_bind_some]
   have:=ZJR r c s.1 i hi
   unfold lmD at this
   rw[al_if_pos hk]at this
   rw[this]
  ·rw[ZAA hk,<-ZMA r c s.1 i hi hk]
 ·intro rec K
  simp only[s109_0]
  rw[ZAA]
 ·simp[lmAt,lmS]
end
theorem ZX(s:ZAM)(h:ShowOK s)(r:List Place)(hr:r.length<=1048576)(c:Box): ∃(x:ZAM) (b:Bool),G236 (s,r,c,())=some (x,b,())/\G109 (s,r,c,())=some (x,b,())/\x.1.length<=1048576/\x.2.1.length<=1048576/\x.2.2.1.length<=1048576:=by
 obtain⟨b,r1,r2,r3⟩:=ZEl r hr
 unfold G236 F236 G109 F109
 try simp only[ZBI]
 rw[ZCd s h,ZDT s h,r1,r2]
 simp only[al_bind_some,ZHn,ZEk,ZW6 s h,ZQw s h]
 cases ZA5 s
 ·exact⟨([],[],[],0,()),false,rfl,rfl,by simp,by simp,by simp⟩
 ·cases b
  ·exact⟨([],[],[],0,()),false,rfl,rfl,by simp,by simp,by simp⟩
  ·cases isBx c
   ·exact⟨([],[],[],0,()),false,rfl,rfl,by simp,by simp,by simp⟩
   ·refine⟨lmS r c s,true,ZW8 r hr c s h,ZW9 r hr c s h,?_,h.score,h.wind⟩
    unfold lmS
    have:=h.rig
    simpa using this
end Ev
end
noncomputable section
namespace Ev
open Go
def ZXA{n:Int}(h0: -4611686018427387904<n)(h1:n<4611686018427387904):G129 (n,())=some (Go.Lib.itoa n,()):=by
 show ZIs (n,())=_
 unfold ZIs
 rw[al_if_pos ⟨by show _<=n;omega,by show n<=_;omega⟩]
def numI{n:Int}(h0: -4611686018427387904<n)(h1:n<4611686018427387904):G54 (n,())=some (Go.Lib.itoa n,()):=by
 unfold G54 F54
 simp only[ZXA h0 h1,al_bind_some]
def ZCp{n:Int}(h0: -4611686018427387904<n)(h1:n<4611686018427387904):(Go.Lib.itoa n).length<=20:=by
 by_cases h:n<0
 ·rw[ZPJ h]
  have:=ZIq (u:=(-n).toNat) (by omega)
  simp only[al_len_cons];omega
 ·rw[ZGE (by omega)]
  have:=ZIq (u:=n.toNat) (by omega)
  omega
def ZMB:List Str:=[[],[46,49,50,53],[46,50,53],[46,51,55,53],[46,53],[46,54,50,53],[46,55,53],[46,56,55,53]]
def ZCH(k:Nat):Str:=(ZMB[k]?).getD []
def absT(n:Nat):Str:=Go.Lib.itoa ((n/8:Nat):Int)++ZCH (n % 8)
def ZAQ(x:Int):Str:=if wi x (-4096) 4096=true then(if x<0 then 45::absT (-x).toNat else absT x.toNat)else []
def ZJS{k:Nat}(h:k<8):ZMB[k]?=some (ZCH k)/\(ZCH k).length<=4:=by
 have:k=0\/k=1\/k=2\/k=3\/k=4\/k=5\/k=6\/k=7:=by omega
 rcases this with rfl | rfl | rfl | rfl | rfl | rfl | rfl | rfl<;>exact⟨rfl,by decide⟩
def ZQy{n:Nat}(h:n<=4096):(absT n).length<=24:=by
 unfold absT
 have h1:=ZCp (n:=((n/8:Nat):Int)) (by omega) (by omega)
 have h2:=(ZJS (k:=n % 8) (by omega)).2
 rw[al_len_append];omega
def ZBg(x:Int):(ZAQ x).length<=25:=by
 unfold ZAQ
 split
 ·rename_i h
  obtain⟨h1,h2⟩:=ZAj.1 h
  split
  ·have:=ZQy (n:=(-x).toNat) (by omega)
   simp only[al_len_cons];omega
  ·have:=ZQy (n:=x.toNat) (by omega)
   omega
 ·simp
def ZFU{n:Nat}(h:n<=4096):w64 (Int.tdiv (n:Int) 8)=((n/8:Nat):Int)/\Int.tmod (n:Int) 8=((n % 8:Nat):Int):=by
 have e:Int.tdiv (n:Int) 8=((n/8:Nat):Int):=by rw[Int.tdiv_eq_ediv_of_nonneg (by omega)];omega
 refine⟨by rw[e,ZAC],?_⟩
 rw[Int.tmod_eq_emod_of_nonneg (by omega)];omega
def ZXB{k:Nat}(h0:0<k)(h:k<8): ∃t:Str,Go.Lib.itoa (1000+(k:Int)*125)=49::t/\t.length=3/\[46]++Go.Lib.trimRightB t 48=ZCH k:=by
 have:k=1\/k=2\/k=3\/k=4\/k=5\/k=6\/k=7:=by omega
 have four: ∀u:Nat,1000<=u->u<10000->Go.Lib.decDigits u=[UInt8.ofNat (48+u/1000),UInt8.ofNat (48+u/100 % 10),UInt8.ofNat (48+u/10 % 10),UInt8.ofNat (48+u % 10)]:=by
  intro u h1 h2
  rw[Go.Lib.decDigits,dif_neg (by omega),Go.Lib.decDigits,dif_neg (by omega),Go.Lib.decDigits_two (by omega) (by omega)]
  simp only[List.cons_append,List.nil_append,Nat.div_div_eq_div_mul]
 rcases this with rfl | rfl | rfl | rfl | rfl | rfl | rfl
 all_goals
  refine⟨_,(ZGE (by decide)).trans ((four _ (by decide) (by decide)).trans rfl),rfl,?_⟩
  decide
def ZXC{t:Str}(h:t.length<=1048576):G58 (t,[48],())=some (Go.Lib.trimRightB t 48,()):=by
 show ZIt (t,[48],())=_
 unfold ZIt
 simp only
 rw[al_if_pos ⟨by decide,by omega⟩]
def isMI(x:Int):G57 (x,())=some (wi x (-4096) 4096,()):=ZGH x
def isMS(x:Int):G248 (x,())=some (wi x (-4096) 4096,()):=ZLU x
def ZQz{n:Nat}(h:n<=4096)(p:Str)(hp:p.length<=1048576):
  (cond (decide (Int.tmod (n:Int) 8>0)) ((G54 (w64 (1000+w64 (Int.tmod (n:Int) 8*125)),())).bind λx3=>okIf ((0:Int)<=1/\(1:Int)<=List.length x3.1) ((G58 (List.drop (Int.toNat 1) x3.1,[48],())).bind λx4=>capK (List.length [46]+List.length x4.1) (capK (List.length p+List.length ([46]++x4.1)) (some (p++([46]++x4.1),())))))
   (some (p,())))=some (p++ZCH (n % 8),()):=by
 rw[(ZFU h).2]
 have hk:n % 8<8:=Nat.mod_lt _ (by omega)
 generalize n % 8=k at hk
 by_cases h0:0<k
 ·rw[ZA]
  obtain⟨t,h1,h2,h3⟩:=ZXB h0 hk
  have e:w64 (1000+w64 ((k:Int)*125))=1000+(k:Int)*125:=by rw[ZAC (n:=(k:Int)*125) (by omega) (by omega),ZAC]
  rw[e,numI (by omega) (by omega),al_bind_some,h1]
  simp only[Int.toNat_one,List.drop_one,List.tail_cons]
  rw[ZBT ⟨by decide,by simp only[al_len_cons];omega⟩,ZXC (by omega)]
  show capK _ (capK _ _)=_
  simp only
  have hl:=(ZJS hk).2
  rw[<-h3]at hl
  simp only[al_len_append,al_len_cons,al_len_nil]at hl
  rw[ZAB (by simp only[al_len_cons,al_len_nil];omega),ZAB (by simp only[al_len_append,al_len_cons,al_len_nil];omega),h3]
 ·rw[ZAA]
  obtain rfl:k=0:=by omega
  simp[ZCH,ZMB]
def fmI(x:Int):G21 (x,())=some (ZAQ x,()):=by
 unfold G21 F21 ZAQ
 simp only[isMI,al_bind_some]
 cases hw:wi x (-4096) 4096
 ·rfl
 ·obtain⟨h1,h2⟩:=ZAj.1 hw
  simp only[ZAG,al_cond_false,if_true]
  by_cases hx:x<0
  ·rw[ZA hx,al_if_pos hx]
   have e:w64 (0-x)=(((-x).toNat:Nat):Int):=by rw[ZAC];omega
   have hn:(-x).toNat<=4096:=by omega
   rw[e]
   generalize (-x).toNat=n at hn
   have hi:=ZCp (n:=((n/8:Nat):Int)) (by omega) (by omega)
   rw[(ZFU hn).1,numI (by omega) (by omega),al_bind_some,ZAB (by simp only[al_len_cons,al_len_nil];omega)]
   exact(ZQz hn _ (by simp only[al_len_append,al_len_cons,al_len_nil];omega)).trans (by unfold absT;simp)
  ·rw[ZAA hx,al_if_neg hx]
   have e:x=((x.toNat:Nat):Int):=by omega
   have hn:x.toNat<=4096:=by omega
   rw[e]
   generalize x.toNat=n at hn
   have hi:=ZCp (n:=((n/8:Nat):Int)) (by omega) (by omega)
   rw[(ZFU hn).1,numI (by omega) (by omega),al_bind_some,ZAB (by simp only[al_len_nil];omega)]
   exact(ZQz hn _ (by simp only[al_len_append,al_len_nil];omega)).trans (by unfold absT;simp)
def fmS(x:Int):G147 (x,())=some (ZAQ x,()):=by
 unfold G147 F147 ZAQ
 simp only[isMS,al_bind_some]
 cases hw:wi x (-4096) 4096
 ·rfl
 ·obtain⟨h1,h2⟩:=ZAj.1 hw
  simp only[ZAG,al_cond_false,if_true]
  by_cases hx:x<0
  ·rw[ZA hx,al_if_pos hx]
   have e:w64 (0-x)=(((-x).toNat:Nat):Int):=by rw[ZAC];omega
   have hn:(-x).toNat<=4096:=by omega
   rw[e]
   generalize (-x).toNat=n at hn
   have hi:=ZCp (n:=((n/8:Nat):Int)) (by omega) (by omega)
   have hf:=ZJS (k:=n % 8) (by omega)
   have hf':=λ(K:Str->Option (Str×Unit))=>ZAF (K:=K) (show([[],[46,49,50,53],[46,50,53],[46,51,55,53],[46,53],[46,54,50,53],[46,55,53],[46,56,55,53]]:List Str)[n % 8]?=some (ZCH (n % 8))from hf.1)
   rw[(ZFU hn).1,numS (by omega) (by omega),al_bind_some,ZAB (by simp only[al_len_cons,al_len_nil];omega),(ZFU hn).2,hf',ZAW,show([[],[46,49,50,53],[46,50,53],[46,51,55,53],[46,53],[46,54,50,53],[46,55,53],[46,56,55,53]]:List Str)[n % 8]?=some (ZCH (n % 8))from hf.1,al_bind_some,
    ZAB (by simp only[al_len_append,al_len_cons,al_len_nil];omega)]
   unfold absT;simp
  ·rw[ZAA hx,al_if_neg hx]
   have e:x=((x.toNat:Nat):Int):=by omega
   have hn:x.toNat<=4096:=by omega
   rw[e]
   generalize x.toNat=n at hn
   have hi:=ZCp (n:=((n/8:Nat):Int)) (by omega) (by omega)
   have hf:=ZJS (k:=n % 8) (by omega)
   have hf':=λ(K:Str->Option (Str×Unit))=>ZAF (K:=K) (show([[],[46,49,50,53],[46,50,53],[46,51,55,53],[46,53],[46,54,50,53],[46,55,53],[46,56,55,53]]:List Str)[n % 8]?=some (ZCH (n % 8))from hf.1)
   rw[(ZFU hn).1,numS (by omega) (by omega),al_bind_some,ZAB (by simp only[al_len_nil];omega),(ZFU hn).2,hf',ZAW,show([[],[46,49,50,53],[46,50,53],[46,51,55,53],[46,53],[46,54,50,53],[46,55,53],[46,56,55,53]]:List Str)[n % 8]?=some (ZCH (n % 8))from hf.1,al_bind_some,
    ZAB (by simp only[al_len_append,al_len_nil];omega)]
   unfold absT;simp
def ZAm(p:Place):Str:=if isPl p=true then(if p.Y<0 then(ZAQ p.X++ZAQ p.Y)++[105]else((ZAQ p.X++[43])++ZAQ p.Y)++[105])else []
def ZCI(p:Place):(ZAm p).length<=60:=by
 have h1:=ZBg p.X
 have h2:=ZBg p.Y
 unfold ZAm
 split
 ·split<;>simp only[al_len_append,al_len_cons,al_len_nil]<;>omega
 ·simp
def fpI(p:Place):G55 (p,())=some (ZAm p,()):=by
 have hp:G124 (p,())=some (isPl p,()):=ZB1 p
 have h1:=ZBg p.X
 have h2:=ZBg p.Y
 unfold G55 F55 ZAm
 simp only[hp,fmI,al_bind_some]
 cases isPl p
 ·rfl
 ·simp only[ZAG,al_cond_false,if_true]
  by_cases hy:p.Y<0
  ·rw[ZA hy,al_if_pos hy,ZAB (by simp only[al_len_nil];omega),ZAB (by simp only[al_len_append,al_len_nil];omega),ZAB (by simp only[al_len_append,al_len_cons,al_len_nil];omega),List.append_nil]
  ·rw[ZAA hy,al_if_neg hy,ZAB (by simp only[al_len_cons,al_len_nil];omega),ZAB (by simp only[al_len_append,al_len_cons,al_len_nil];omega),ZAB (by simp only[al_len_append,al_len_cons,al_len_nil];omega)]
def fpS(p:Place):G88 (p,())=some (ZAm p,()):=by
 have hp:G181 (p,())=some (isPl p,()):=ZDz p
 have h1:=ZBg p.X
 have h2:=ZBg p.Y
 unfold G88 F88 ZAm
 simp only[hp,fmS,al_bind_some]
 cases isPl p
 ·rfl
 ·simp only[ZAG,al_cond_false,if_true]
  by_cases hy:p.Y<0
  ·rw[ZAA,al_if_pos hy,ZAB,ZAB (by simp only[al_len_append,al_len_cons,al_len_nil];omega)]
  ·rw[ZA,al_if_neg hy,ZAB (by simp only[al_len_cons,al_len_nil];omega),ZAB (by simp only[al_len_append,al_len_cons,al_len_nil];omega),ZAB (by simp only[al_len_append,al_len_cons,al_len_nil];omega)]
end Ev
end
noncomputable section
namespace Ev
def splC(c:UInt8):List UInt8->List (List UInt8)
 | []=>[[]]
 | x::r=>if x=c then []::splC c r else match splC c r with
  | h::t=>(x::h)::t
  | []=>[[x]]
def ZCJ(c:UInt8): ∀s,splC c s≠[]
 | []=>by simp[splC]
 | x::r=>by
  unfold splC
  split
  ·simp
  ·split<;>simp
def ZGQ(c:UInt8)(r:List UInt8):splC c (c::r)=[]::splC c r:=by rw[splC,al_if_pos rfl]
def ZGR{c x:UInt8}{r h:List UInt8}{t:List (List UInt8)}(hx:x≠c)(e:splC c r=h::t):splC c (x::r)=(x::h)::t:=by rw[splC,al_if_neg hx,e]
def ZMC{c:UInt8}{r:List UInt8} : ∀ {p:List UInt8},(∀x∈p,x≠c)-> ∀ {h t},splC c r=h::t->splC c (p++r)=(p++h)::t
 | [],_,h,t,e=>e
 | x::p,hp,h,t,e=>ZGR (hp x (by simp)) (ZMC (λy hy=>hp y (by simp[hy])) e)
def ZGS{c:UInt8}{p:List UInt8}(hp: ∀x∈p,x≠c):splC c p=[p]:=by
 have:=ZMC (r:=[]) hp (show splC c []=[]::[]from rfl)
 simpa using this
def ZHo{c:UInt8}{p r:List UInt8}(hp: ∀x∈p,x≠c):splC c (p++c::r)=p::splC c r:=by
 have:=ZMC (r:=c::r) hp (ZGQ c r)
 simpa using this
def ZFV(c:UInt8): ∀s,((∀x∈s,x≠c)/\splC c s=[s])\/ ∃p r,s=p++c::r/\(∀x∈p,x≠c)/\splC c s=p::splC c r
 | []=> .inl ⟨by simp,rfl⟩
 | x::s=>by
  by_cases hx:x=c
  ·subst hx
   exact .inr ⟨[],s,rfl,by simp,ZGQ _ _⟩
  ·rcases ZFV c s with ⟨h1,h2⟩ | ⟨p,r,e,hp,h2⟩
   ·have h3: ∀y∈x::s,y≠c:=λy hy=>by
     rcases List.mem_cons.mp hy with rfl | hy
     ·exact hx
     ·exact h1 y hy
    exact .inl ⟨h3,ZGS h3⟩
   ·have h3: ∀y∈x::p,y≠c:=λy hy=>by
     rcases List.mem_cons.mp hy with rfl | hy
     ·exact hx
     ·exact hp y hy
    subst e
    exact .inr ⟨x::p,r,rfl,h3,by simpa using ZHo (r:=r) h3⟩
open Go.Lib in
def ZQ0{c:UInt8}{s:List UInt8}(h: ∀x∈s,x≠c):index s [c]= -1:=by
 induction s with
 | nil=>rfl
 | cons x s ih=>
  have h0:([c]:List UInt8).isPrefixOf (x::s)=false:=by
   have:=h x (by simp)
   simp[List.isPrefixOf,Ne.symm this]
  unfold index
  rw[h0,ih λy hy=>h y (by simp[hy])]
  rfl
open Go.Lib in
def ZGT{c:UInt8}{r:List UInt8} : ∀ {p:List UInt8},(∀x∈p,x≠c)->index (p++c::r) [c]=(p.length:Int)
 | [],_=>by
  have h0:([c]:List UInt8).isPrefixOf (c::r)=true:=by simp[List.isPrefixOf]
  show index (c::r) [c]=_
  unfold index
  rw[al_if_pos h0]
  rfl
 | x::p,h=>by
  have h0:([c]:List UInt8).isPrefixOf (x::(p++c::r))=false:=by
   have:=h x (by simp)
   simp[List.isPrefixOf,Ne.symm this]
  have ih:=ZGT (r:=r) (p:=p) λy hy=>h y (by simp[hy])
  show index (x::(p++c::r)) [c]=_
  unfold index
  rw[h0,ih]
  have:(((p.length:Nat):Int)== -1)=false:=beq_eq_false_iff_ne.2 (by omega)
  rw[this]
  simp
open Go.Lib in
def ZQ1(c:UInt8): ∀(k:Nat) (s:List UInt8),s.count c=k->splitK [c] 0 k s=splC c s
 | 0,s,h=>by
  have h': ∀x∈s,x≠c:=λx hx e=>by subst e;exact absurd hx (List.count_eq_zero.1 h)
  rw[ZGS h'];rfl
 | k+1,s,h=>by
  rcases ZFV c s with ⟨h1,_⟩ | ⟨p,r,e,hp,h2⟩
  ·have:s.count c=0:=List.count_eq_zero.2 λhc=>h1 c hc rfl
   omega
  ·have hi:=ZGT (r:=r) hp
   rw[<-e]at hi
   have hne:((index s [c])== -1)=false:=by rw[hi];exact beq_eq_false_iff_ne.2 (by omega)
   rw[h2,splitK,hne,hi]
   have h0:p.count c=0:=List.count_eq_zero.2 λhc=>hp c hc rfl
   have h3:r.count c=k:=by
    rw[e,List.count_append,List.count_cons_self]at h
    omega
   rw[<-ZQ1 c k r h3]
   subst e
   simp
def ZXD(s:List UInt8)(c:UInt8):Go.Lib.split s [c]=splC c s:=ZQ1 c _ s (Go.Lib.count_one c s).symm
open Go.Lib in
def ZQ2(s:List UInt8)(c:UInt8):((∀x∈s,x≠c)/\splC c s=[s]/\cut s [c]=(s,[],false))\/ ∃p r,s=p++c::r/\(∀x∈p,x≠c)/\splC c s=p::splC c r/\cut s [c]=(p,r,true):=by
 rcases ZFV c s with ⟨h1,h2⟩ | ⟨p,r,e,hp,h2⟩
 ·refine .inl ⟨h1,h2,?_⟩
  unfold cut
  rw[ZQ0 h1,al_if_neg]
 ·refine .inr ⟨p,r,e,hp,h2,?_⟩
  unfold cut
  rw[e,ZGT hp,al_if_pos]
  simp
def ZMD(c:UInt8): ∀s,(splC c s).length=s.count c+1
 | []=>rfl
 | x::r=>by
  by_cases hx:x=c
  ·subst hx;rw[ZGQ,al_len_cons,ZMD _ r,List.count_cons_self]
  ·have:=ZMD c r
   cases e:splC c r with
   | nil=>exact absurd e (ZCJ c r)
   | cons h t=>rw[ZGR hx e,List.count_cons_of_ne hx,<-this,e];rfl
def ZGU(c:UInt8)(s:List UInt8):(splC c s).length<=s.length+1:=by
 rw[ZMD]
 have:=List.count_le_length (a:=c) (l:=s)
 omega
def ZD6(c:UInt8): ∀s w,w∈splC c s->(∀x∈w,x≠c)/\w.length<=s.length
 | [],w,h=>by
  simp[splC]at h;subst h;simp
 | x::r,w,h=>by
  by_cases hx:x=c
  ·subst hx
   rw[ZGQ]at h
   rcases List.mem_cons.mp h with rfl | h
   ·simp
   ·have:=ZD6 x r w h
    exact⟨this.1,by rw[al_len_cons];omega⟩
  ·cases e:splC c r with
   | nil=>exact absurd e (ZCJ c r)
   | cons a t=>
    rw[ZGR hx e]at h
    rcases List.mem_cons.mp h with rfl | h
    ·have:=ZD6 c r a (by rw[e];simp)
     refine⟨λy hy=> ?_,by simp only[al_len_cons];omega⟩
     rcases List.mem_cons.mp hy with rfl | hy
     ·exact hx
     ·exact this.1 y hy
    ·have:=ZD6 c r w (by rw[e];simp[h])
     exact⟨this.1,by rw[al_len_cons];omega⟩
def ZAl(c:UInt8):List (List UInt8)->List UInt8
 | []=>[]
 | [w]=>w
 | w::v::ws=>w++c::ZAl c (v::ws)
def ZME(c:UInt8): ∀ws,Go.Lib.join ws [c]=ZAl c ws
 | []=>rfl
 | [w]=>Go.Lib.join_one w [c]
 | w::v::ws=>by
  have h:=ZME c (v::ws)
  rw[Go.Lib.join_cons]at h⊢
  rw[ZAl,<-h]
  simp[Go.Lib.joinTail]
def ZJT{c:UInt8} : ∀ {ws:List (List UInt8)},ws≠[]->(∀w∈ws,∀x∈w,x≠c)->splC c (ZAl c ws)=ws
 | [],h,_=>absurd rfl h
 | [w],_,h=>ZGS (h w (by simp))
 | w::v::ws,_,h=>by
  rw[ZAl,ZHo (h w (by simp)),ZJT (by simp) λu hu=>h u (by simp[List.mem_cons.mp hu])]
def ZMF(c:UInt8): ∀s,ZAl c (splC c s)=s
 | []=>rfl
 | x::r=>by
  have ih:=ZMF c r
  by_cases hx:x=c
  ·subst hx
   rw[ZGQ]
   cases e:splC x r with
   | nil=>exact absurd e (ZCJ x r)
   | cons a t=>rw[ZAl,<-e,ih];rfl
  ·cases e:splC c r with
   | nil=>exact absurd e (ZCJ c r)
   | cons a t=>
    rw[ZGR hx e]
    rw[e]at ih
    cases t with
    | nil=>rw[ZAl]at ih⊢;rw[ih]
    | cons b t=>rw[ZAl]at ih⊢;rw[<-ih];rfl
def ZMG{d:Nat}(h:d<10):(UInt8.ofNat (48+d)).toNat=48+d:=by
 rw[UInt8.toNat_ofNat']
 omega
def ZXE(x:UInt8):UInt8.ofNat x.toNat=x:=UInt8.ofNat_toNat
def ZA6(x:UInt8):Bool:=48<=x.toNat && x.toNat<=57
def digV(a:Nat)(s:List UInt8):Nat:=s.foldl (λa x=>10*a+(x.toNat-48)) a
def ZCK(s:List UInt8):Bool:=match s with
 | []=>false
 | [_]=>s.all ZA6
 | x::_::r=>decide (r.length<=1) && decide (x≠48) && s.all ZA6
def ZDW(a:Nat):digV a []=a:=List.foldl_nil
def ZBX(a:Nat)(x:UInt8)(r):digV a (x::r)=digV (10*a+(x.toNat-48)) r:=List.foldl_cons ..
def numP(s:List UInt8):Int×Bool:=if ZCK s=true then(((digV 0 s:Nat):Int),true)else(0,false)
def ZFW{n:Nat}(h:n<=999):Go.Lib.itoa n=(if n<10 then [UInt8.ofNat (48+n)]else if n<100 then [UInt8.ofNat (48+n/10),UInt8.ofNat (48+n % 10)]else [UInt8.ofNat (48+n/100),UInt8.ofNat (48+n/10 % 10),UInt8.ofNat (48+n % 10)]):=by
 have e:Go.Lib.itoa n=Go.Lib.decDigits n:=by
  unfold Go.Lib.itoa
  rw[al_if_neg]
  rfl
 rw[e]
 split
 ·exact Go.Lib.decDigits_one (by assumption)
 ·split
  ·exact Go.Lib.decDigits_two (by assumption) (by assumption)
  ·rw[Go.Lib.decDigits,dif_neg (by omega),Go.Lib.decDigits_two (by omega) (by omega)]
   simp only[List.cons_append,List.nil_append,Nat.div_div_eq_div_mul]
def ZJU{d:Nat}(h:d<10):ZA6 (UInt8.ofNat (48+d))=true:=by
 unfold ZA6
 rw[ZMG h]
 simp only[ZAJ,ZAX]
 omega
def ZGV{d:Nat}(h:d<10): ∃x:UInt8,UInt8.ofNat (48+d)=x/\ZA6 x=true/\x.toNat=48+d/\(d≠0->x≠48):=
 ⟨_,rfl,ZJU h,ZMG h,λh0 e=>by
  have:=congrArg UInt8.toNat e
  rw[ZMG h]at this
  have h48:(48:UInt8).toNat=48:=rfl
  omega⟩
def ZCf{n:Nat}(h:n<=999):numP (Go.Lib.itoa n)=((n:Int),true):=by
 rw[ZFW h]
 split
 ·rename_i h1
  obtain⟨x,e,k1,k2,_⟩:=ZGV h1
  rw[e]
  have hv:digV 0 [x]=n:=by rw[ZBX,ZDW];omega
  have hk:ZCK [x]=true:=by simp only[ZCK,List.all_cons,List.all_nil,k1];rfl
  unfold numP
  rw[al_if_pos hk,hv]
 ·split
  ·rename_i h1 h2
   obtain⟨x,e,k1,k2,k3⟩:=ZGV (d:=n/10) (by omega)
   obtain⟨y,f,l1,l2,_⟩:=ZGV (d:=n % 10) (by omega)
   rw[e,f]
   have k4:=k3 (by omega)
   have hv:digV 0 [x,y]=n:=by rw[ZBX,ZBX,ZDW];omega
   have hk:ZCK [x,y]=true:=by simp only[ZCK,List.all_cons,List.all_nil,k1,l1,al_len_nil,ZAH k4];rfl
   unfold numP
   rw[al_if_pos hk,hv]
  ·rename_i h1 h2
   obtain⟨x,e,k1,k2,k3⟩:=ZGV (d:=n/100) (by omega)
   obtain⟨y,f,l1,l2,_⟩:=ZGV (d:=n/10 % 10) (by omega)
   obtain⟨z,g,m1,m2,_⟩:=ZGV (d:=n % 10) (by omega)
   rw[e,f,g]
   have k4:=k3 (by omega)
   have hd:n/10/10=n/100:=by rw[Nat.div_div_eq_div_mul]
   have hv:digV 0 [x,y,z]=n:=by rw[ZBX,ZBX,ZBX,ZDW];omega
   have hk:ZCK [x,y,z]=true:=by simp only[ZCK,List.all_cons,List.all_nil,k1,l1,m1,al_len_nil,al_len_cons,ZAH k4];rfl
   unfold numP
   rw[al_if_pos hk,hv]
def ZGW{x:UInt8}(h:ZA6 x=true): ∃d,d<10/\x=UInt8.ofNat (48+d)/\x.toNat-48=d:=by
 unfold ZA6 at h
 simp only[ZAJ,ZAX]at h
 refine⟨x.toNat-48,by omega,?_,rfl⟩
 rw[show 48+(x.toNat-48)=x.toNat by omega,ZXE]
def ZXF{s:List UInt8}{n:Int}(h:numP s=(n,true)): ∃m:Nat,n=m/\m<=999/\Go.Lib.itoa m=s:=by
 unfold numP at h
 split at h
 ·rename_i hk
  cases h
  refine⟨_,rfl,?_⟩
  match s,hk with
  | [],hk=>simp[ZCK]at hk
  | [x],hk=>
   simp only[ZCK,List.all_cons,List.all_nil,Bool.and_true]at hk
   obtain⟨d,hd,e1,e2⟩:=ZGW hk
   have hv:digV 0 [x]=d:=by rw[ZBX,ZDW];omega
   rw[hv]
   refine⟨by omega,?_⟩
   rw[ZFW (by omega),al_if_pos hd,<-e1]
  | [x,y],hk=>
   simp only[ZCK,List.all_cons,List.all_nil,Bool.and_true,ZAJ,ZAX]at hk
   obtain⟨⟨_,h0⟩,hx,hy⟩:=hk
   obtain⟨d,hd,e1,e2⟩:=ZGW hx
   obtain⟨f,hf,e3,e4⟩:=ZGW hy
   have hd0:d≠0:=λe=>by subst e;exact h0 e1
   have hv:digV 0 [x,y]=10*d+f:=by rw[ZBX,ZBX,ZDW];omega
   rw[hv]
   refine⟨by omega,?_⟩
   rw[ZFW (by omega),al_if_neg,al_if_pos,show(10*d+f)/10=d by omega,show(10*d+f) % 10=f by omega,<-e1,<-e3]
  | [x,y,z],hk=>
   simp only[ZCK,List.all_cons,List.all_nil,Bool.and_true,ZAJ,ZAX]at hk
   obtain⟨⟨_,h0⟩,hx,hy,hz⟩:=hk
   obtain⟨d,hd,e1,e2⟩:=ZGW hx
   obtain⟨f,hf,e3,e4⟩:=ZGW hy
   obtain⟨g,hg,e5,e6⟩:=ZGW hz
   have hd0:d≠0:=λe=>by subst e;exact h0 e1
   have hv:digV 0 [x,y,z]=100*d+10*f+g:=by rw[ZBX,ZBX,ZBX,ZDW];omega
   rw[hv]
   have hd1:(100*d+10*f+g)/10=10*d+f:=by omega
   refine⟨by omega,?_⟩
   rw[ZFW (by omega),al_if_neg,al_if_neg,show(100*d+10*f+g)/100=d by omega,show(100*d+10*f+g)/10 % 10=f by rw[hd1];omega,show(100*d+10*f+g) % 10=g by omega,<-e1,<-e3,<-e5]
  | x::y::z::u::r,hk=>
   simp only[ZCK,al_len_cons,ZAJ,ZAX]at hk
   have:=hk.1.1
   omega
 ·cases h
def ZFX(s:List UInt8):numP s=(0,false)\/ ∃m:Nat,m<=999/\s=Go.Lib.itoa m/\numP s=((m:Int),true):=by
 by_cases h:ZCK s=true
 ·right
  have e:numP s=(((digV 0 s:Nat):Int),true):=by unfold numP;rw[al_if_pos h]
  obtain⟨m,h1,h2,h3⟩:=ZXF e
  exact⟨m,h2,h3.symm,by rw[e,h1]⟩
 ·left;unfold numP;rw[al_if_neg h]
end Ev
end
noncomputable section
namespace Ev
open Go
def isMc(x:UInt8):Bool:=ZA6 x || x==46
def ZGX{n:Nat}(h:n<=999): ∀x∈Go.Lib.itoa n,ZA6 x=true:=by
 rw[ZFW h]
 split
 ·intro x hx
  obtain rfl:=List.mem_singleton.mp hx
  exact ZJU (by assumption)
 ·split
  ·intro x hx
   simp only[List.mem_cons,List.not_mem_nil,or_false]at hx
   rcases hx with rfl | rfl<;>exact ZJU (by omega)
  ·intro x hx
   simp only[List.mem_cons,List.not_mem_nil,or_false]at hx
   rcases hx with rfl | rfl | rfl<;>exact ZJU (by omega)
def ZJV{n:Nat}(h:n<=999):Go.Lib.itoa n≠[]:=by
 rw[ZFW h]
 split
 ·simp
 ·split<;>simp
def ZHp{x:UInt8}(h:ZA6 x=true):x≠46/\x≠45/\x≠43/\x≠32/\x≠105:=by
 unfold ZA6 at h
 simp only[ZAJ,ZAX]at h
 refine⟨?_,?_,?_,?_,?_⟩<;>(rintro rfl;simp at h)
def ZQ3{k:Nat}(h:k<8):ZCH k=[]\/ ∃t,ZCH k=46::t/\t.length<=3/\ ∀x∈t,ZA6 x=true:=by
 have:k=0\/k=1\/k=2\/k=3\/k=4\/k=5\/k=6\/k=7:=by omega
 rcases this with rfl | rfl | rfl | rfl | rfl | rfl | rfl | rfl
 ·exact .inl rfl
 all_goals (refine .inr ⟨_,rfl,by decide,?_⟩;decide)
def ZXG{k m:Nat}(hk:k<8)(hm:m<8)(h:ZCH k=ZCH m):k=m:=by
 have all: ∀a b:Fin 8,ZCH a.val=ZCH b.val->a=b:=by decide
 exact congrArg Fin.val (all ⟨k,hk⟩ ⟨m,hm⟩ h)
def ZMH{n:Nat}(h:n<=4096): ∀x∈absT n,isMc x=true:=by
 intro x hx
 unfold absT at hx
 unfold isMc
 rcases List.mem_append.mp hx with hx | hx
 ·rw[ZGX (by omega) x hx];rfl
 ·rcases ZQ3 (k:=n % 8) (by omega)with e | ⟨t,e,_,ht⟩
  ·rw[e]at hx;simp at hx
  ·rw[e]at hx
   rcases List.mem_cons.mp hx with rfl | hx
   ·rfl
   ·rw[ht x hx];rfl
def ZEm{x:UInt8}(h:isMc x=true):x≠45/\x≠43/\x≠32/\x≠105:=by
 unfold isMc at h
 rcases Bool.or_eq_true _ _▸h with h | h
 ·exact(ZHp h).2
 ·obtain rfl:x=46:=by simpa using h
  decide
def ZQ4{n:Nat}(h:n<=4096):absT n≠[]:=by
 unfold absT
 intro e
 exact ZJV (n:=n/8) (by omega) (List.append_eq_nil_iff.mp e).1
def ZJW{n:Nat}(h:n<=4096): ∃t,t.length<=3/\((Go.Lib.cut (absT n) [46]).1=Go.Lib.itoa (n/8:Nat)/\(Go.Lib.cut (absT n) [46]).2.1=t)/\ ∃r,splC 46 (absT n)=Go.Lib.itoa (n/8:Nat)::r:=by
 have hd: ∀x∈Go.Lib.itoa (n/8:Nat),x≠46:=λx hx=>(ZHp (ZGX (by omega) x hx)).1
 unfold absT
 rcases ZQ3 (k:=n % 8) (by omega)with e | ⟨t,e,ht,_⟩
 ·rw[e,List.append_nil]
  refine⟨[],by simp,?_,⟨[],ZGS hd⟩⟩
  unfold Go.Lib.cut
  rw[ZQ0 hd,al_if_neg]
  exact⟨rfl,rfl⟩
 ·rw[e]
  refine⟨t,ht,?_,⟨_,ZHo hd⟩⟩
  unfold Go.Lib.cut
  rw[ZGT hd,al_if_pos]
  simp
def ZQ5{n m:Nat}(hn:n<=4096)(hm:m<=4096)(h:absT n=absT m):n=m:=by
 obtain⟨_,_,⟨h1,_⟩,_⟩:=ZJW hn
 obtain⟨_,_,⟨h2,_⟩,_⟩:=ZJW hm
 rw[h,h2]at h1
 have h3:m/8=n/8:=by
  have e1:=ZCf (n:=n/8) (by omega)
  have e2:=ZCf (n:=m/8) (by omega)
  rw[h1,e1]at e2
  have:=(Prod.mk.injEq ..▸e2).1
  omega
 unfold absT at h
 rw[h3]at h
 have:=ZXG (by omega) (by omega) (List.append_cancel_left h)
 omega
def ZEn{x:Int}(h0:0<=x)(h1:x<=4096):ZAQ x=absT x.toNat:=by
 unfold ZAQ
 rw[al_if_pos (ZAZ (by omega) h1),al_if_neg]
def ZEo{x:Int}(h0:x<0)(h1: -4096<=x):ZAQ x=45::absT (-x).toNat:=by
 unfold ZAQ
 rw[al_if_pos (ZAZ h1 (by omega)),al_if_pos h0]
def ZXH{x:Int}(h:wi x (-4096) 4096=false):ZAQ x=[]:=by
 unfold ZAQ
 rw[h,al_if_neg (by simp)]
def ZJX{n:Nat}(h:n<=4096): ∃x r,absT n=x::r/\isMc x=true:=by
 cases e:absT n with
 | nil=>exact absurd e (ZQ4 h)
 | cons x r=>exact⟨x,r,rfl,ZMH h x (by rw[e];simp)⟩
def ZXI{x:Int}(h:wi x (-4096) 4096=true):ZAQ x≠[]:=by
 obtain⟨h1,h2⟩:=ZAj.1 h
 by_cases h0:x<0
 ·rw[ZEo h0 h1];simp
 ·rw[ZEn (by omega) h2];exact ZQ4 (by omega)
def ZMI{x y:Int}(hx:wi x (-4096) 4096=true)(hy:wi y (-4096) 4096=true)(h:ZAQ x=ZAQ y):x=y:=by
 obtain⟨a1,a2⟩:=ZAj.1 hx
 obtain⟨b1,b2⟩:=ZAj.1 hy
 by_cases hx0:x<0
 ·rw[ZEo hx0 a1]at h
  by_cases hy0:y<0
  ·rw[ZEo hy0 b1]at h
   have:=ZQ5 (by omega) (by omega) (List.cons.inj h).2
   omega
  ·rw[ZEn (by omega) b2]at h
   obtain⟨c,r,e,hc⟩:=ZJX (n:=y.toNat) (by omega)
   rw[e]at h
   exact absurd (List.cons.inj h).1.symm (ZEm hc).1
 ·rw[ZEn (by omega) a2]at h
  by_cases hy0:y<0
  ·rw[ZEo hy0 b1]at h
   obtain⟨c,r,e,hc⟩:=ZJX (n:=x.toNat) (by omega)
   rw[e]at h
   exact absurd (List.cons.inj h).1 (ZEm hc).1
  ·rw[ZEn (by omega) b2]at h
   have:=ZQ5 (by omega) (by omega) h
   omega
def ZAg(s:Str):Int×Bool:=open Classical in if h: ∃x,wi x (-4096) 4096=true/\ZAQ x=s then(h.choose,true)else(0,false)
def ZDX{x:Int}(h:wi x (-4096) 4096=true):ZAg (ZAQ x)=(x,true):=by
 have hx: ∃y,wi y (-4096) 4096=true/\ZAQ y=ZAQ x:=⟨x,h,rfl⟩
 unfold ZAg
 rw[dif_pos hx,ZMI hx.choose_spec.1 h hx.choose_spec.2]
def ZXJ(s:Str):(ZAg s=(0,false)/\ ∀x,wi x (-4096) 4096=true->ZAQ x≠s)\/ ∃x,wi x (-4096) 4096=true/\s=ZAQ x/\ZAg s=(x,true):=by
 by_cases h: ∃x,wi x (-4096) 4096=true/\ZAQ x=s
 ·obtain⟨x,hx,e⟩:=h
  right;exact⟨x,hx,e.symm,by rw[<-e];exact ZDX hx⟩
 ·left
  refine⟨?_,λx hx e=>h ⟨x,hx,e⟩⟩
  unfold ZAg
  rw[dif_neg h]
def ZMJ{s:Str}{x:Int}(hs:s≠[])(h:ZAQ x=s):ZAg s=(x,true):=by
 cases hw:wi x (-4096) 4096
 ·rw[ZXH hw]at h;exact absurd h.symm hs
 ·rw[<-h];exact ZDX hw
def ZBr(c:UInt8)(s:Str):Str:=match s with
 | x::r=>if x=c then r else x::r
 | []=>[]
def ZGY(c:UInt8)(r:Str):ZBr c (c::r)=r:=by simp[ZBr]
def ZHq{c x:UInt8}(r:Str)(h:x≠c):ZBr c (x::r)=x::r:=by simp[ZBr,h]
def ZJY{x:Int}(h:wi x (-4096) 4096=true): ∃(n k:Nat) (t:Str),n<=512/\k<8/\t.length<=3/\(Go.Lib.cut (ZBr 45 (ZAQ x)) [46]).1=Go.Lib.itoa n/\(Go.Lib.cut (ZBr 45 (ZAQ x)) [46]).2.1=t/\(∃r,splC 46 (ZAQ x)=(if x<0 then 45::Go.Lib.itoa n else Go.Lib.itoa n)::r)/\
  x=(if x<0 then-(8*(n:Int)+k)else 8*(n:Int)+k):=by
 obtain⟨h1,h2⟩:=ZAj.1 h
 by_cases h0:x<0
 ·obtain⟨t,ht,⟨c1,c2⟩,r,hr⟩:=ZJW (n:=(-x).toNat) (by omega)
  refine⟨(-x).toNat/8,(-x).toNat % 8,t,by omega,by omega,ht,?_,?_,⟨r,?_⟩,?_⟩
  ·rw[ZEo h0 h1,ZGY];exact c1
  ·rw[ZEo h0 h1,ZGY];exact c2
  ·rw[ZEo h0 h1,al_if_pos h0];exact ZGR (by decide) hr
  ·rw[al_if_pos h0];omega
 ·obtain⟨t,ht,⟨c1,c2⟩,r,hr⟩:=ZJW (n:=x.toNat) (by omega)
  obtain⟨y,q,e,hy⟩:=ZJX (n:=x.toNat) (by omega)
  have hu:ZBr 45 (absT x.toNat)=absT x.toNat:=by rw[e];exact ZHq _ (ZEm hy).1
  refine⟨x.toNat/8,x.toNat % 8,t,by omega,by omega,ht,?_,?_,⟨r,?_⟩,?_⟩
  ·rw[ZEn (by omega) h2,hu];exact c1
  ·rw[ZEn (by omega) h2,hu];exact c2
  ·rw[ZEn (by omega) h2,al_if_neg h0];exact hr
  ·rw[al_if_neg h0];omega
def ZQ6{x:Int}(h:wi x (-4096) 4096=true): ∃c r,ZAQ x=c::r/\(isMc c=true\/c=45)/\(c=45↔x<0)/\ ∀y∈r,isMc y=true:=by
 obtain⟨h1,h2⟩:=ZAj.1 h
 by_cases h0:x<0
 ·refine⟨45,_,ZEo h0 h1,.inr rfl,by simp[h0],ZMH (by omega)⟩
 ·obtain⟨y,q,e,hy⟩:=ZJX (n:=x.toNat) (by omega)
  refine⟨y,q,by rw[ZEn (by omega) h2,e],.inl hy,⟨λe=>absurd e (ZEm hy).1,λh=>absurd h h0⟩,λz hz=>ZMH (n:=x.toNat) (by omega) z (by rw[e];simp[hz])⟩
def ZGZ{p:Place}(h:isPl p=true): ∃c r,ZAm p=ZAQ p.X++c::(r++[105])/\(c=43\/c=45)/\(∀y∈r,isMc y=true)/\ZBr 43 (c::r)=ZAQ p.Y:=by
 obtain⟨hx,hy⟩:=Bool.and_eq_true_iff.mp (show(wi p.X (-4096) 4096 && wi p.Y (-4096) 4096)=true from h)
 obtain⟨c,r,e,hc,hn,hr⟩:=ZQ6 hy
 unfold ZAm
 rw[al_if_pos h]
 by_cases h0:p.Y<0
 ·obtain rfl:=hn.2 h0
  rw[al_if_pos h0]
  refine⟨45,r,by rw[e];simp,.inr rfl,hr,by rw[e];exact ZHq _ (by decide)⟩
 ·rw[al_if_neg h0]
  refine⟨43,ZAQ p.Y,by simp,.inl rfl,λy hy=> ?_,ZGY _ _⟩
  rw[e]at hy
  rcases List.mem_cons.mp hy with rfl | hy
  ·rcases hc with hc | rfl
   ·exact hc
   ·exact absurd (hn.1 rfl) h0
  ·exact hr y hy
def ZXK{p:Place}(h:isPl p=false):ZAm p=[]:=by
 unfold ZAm
 rw[h,al_if_neg (by simp)]
def ZQ7: ∀ {l:Str},(∀x∈l,isPM x=false)->ZAV l= -1
 | [],_=>rfl
 | x::r,h=>by
  unfold ZAV
  rw[ZQ7 λy hy=>h y (by simp[hy]),al_if_neg,h x (by simp),al_if_neg (by simp)]
def ZQ8{c:UInt8}{r:Str}(hc:isPM c=true)(hr: ∀x∈r,isPM x=false): ∀p:Str,ZAV (p++c::r)=(p.length:Int)
 | []=>by
  show ZAV (c::r)=_
  unfold ZAV
  rw[ZQ7 hr,al_if_neg,al_if_pos hc];rfl
 | x::p=>by
  have:=ZQ8 hc hr p
  show ZAV (x::(p++c::r))=_
  unfold ZAV
  rw[this,al_if_pos]
  simp
def ZMK{p:Place}(h:isPl p=true):ZAV (ZAm p)=((ZAQ p.X).length:Int):=by
 obtain⟨c,r,e,hc,hr,_⟩:=ZGZ h
 rw[e]
 refine ZQ8 (by rcases hc with rfl | rfl<;>rfl) (λx hx=> ?_) _
 unfold isPM
 rcases List.mem_append.mp hx with hx | hx
 ·have:=ZEm (hr x hx)
  simp[this.1,this.2.1]
 ·obtain rfl:=List.mem_singleton.mp hx
  rfl
def ZXL{p q:Place}(hp:isPl p=true)(hq:isPl q=true)(h:ZAm p=ZAm q):p=q:=by
 have l1:=ZMK hp
 have l2:=ZMK hq
 rw[h,l2]at l1
 obtain⟨c,r,e,_,_,hu⟩:=ZGZ hp
 obtain⟨d,t,f,_,_,hv⟩:=ZGZ hq
 rw[e,f]at h
 have hl:(ZAQ p.X).length=(ZAQ q.X).length:=by omega
 obtain⟨h1,h2⟩:=List.append_inj h hl
 obtain⟨ap,bp⟩:=Bool.and_eq_true_iff.mp (show(wi p.X (-4096) 4096 && wi p.Y (-4096) 4096)=true from hp)
 obtain⟨aq,bq⟩:=Bool.and_eq_true_iff.mp (show(wi q.X (-4096) 4096 && wi q.Y (-4096) 4096)=true from hq)
 have h3:=(List.cons.inj h2).1
 have h4:=List.append_cancel_right (List.cons.inj h2).2
 rw[h3,h4,hv]at hu
 have e1:=ZMI ap aq h1
 have e2:=ZMI bp bq hu.symm
 cases p;cases q
 simp only at e1 e2
 rw[e1,e2]
def ZAR(s:Str):Place×Bool:=open Classical in if h: ∃p,isPl p=true/\ZAm p=s then(h.choose,true)else(⟨0,0⟩,false)
def ZML{p:Place}(h:isPl p=true):ZAR (ZAm p)=(p,true):=by
 have hx: ∃y,isPl y=true/\ZAm y=ZAm p:=⟨p,h,rfl⟩
 unfold ZAR
 rw[dif_pos hx,ZXL hx.choose_spec.1 h hx.choose_spec.2]
def ZMM(s:Str):(ZAR s=(⟨0,0⟩,false)/\ ∀p,isPl p=true->ZAm p≠s)\/ ∃p,isPl p=true/\s=ZAm p/\ZAR s=(p,true):=by
 by_cases h: ∃p,isPl p=true/\ZAm p=s
 ·obtain⟨p,hp,e⟩:=h
  right;exact⟨p,hp,e.symm,by rw[<-e];exact ZML hp⟩
 ·left
  refine⟨?_,λx hx e=>h ⟨x,hx,e⟩⟩
  unfold ZAR
  rw[dif_neg h]
def ZQ9{s:Str}{p:Place}(hs:s≠[])(h:ZAm p=s):ZAR s=(p,true):=by
 cases hw:isPl p
 ·rw[ZXK hw]at h;exact absurd h.symm hs
 ·rw[<-h];exact ZML hw
end Ev
end
noncomputable section
namespace Ev
open Go
def Free(s:Str):Prop:= ∀x∈s,x≠32
def ZR: ∀(i:Nat) (s:Str),nm i s=true->Free s
 | _,[],_=>by intro x hx;simp at hx
 | i,c::r,h=>by
  obtain⟨h1,h2⟩:=Bool.and_eq_true_iff.mp (show(chOK i c && nm (i+1) r)=true from h)
  intro x hx
  rcases List.mem_cons.mp hx with rfl | hx
  ·rintro rfl
   unfold chOK at h1
   have e:(((32:UInt8).toNat:Nat):Int)=32:=rfl
   rw[e]at h1
   simp[wi]at h1
  ·exact ZR (i+1) r h2 x hx
def ZGa{s:Str}(h:isNm s=true):Free s/\s≠[]:=by
 obtain⟨h1,h2⟩:=Bool.and_eq_true_iff.mp (show(nm 0 s && wi (Int.ofNat s.length) 1 8)=true from h)
 refine⟨ZR 0 s h1,?_⟩
 rintro rfl
 simp[wi]at h2
def ZGb{x:Int}(h:wi x (-4096) 4096=true):Free (ZAQ x):=by
 obtain⟨c,r,e,hc,_,hr⟩:=ZQ6 h
 intro y hy
 rw[e]at hy
 rcases List.mem_cons.mp hy with rfl | hy
 ·rcases hc with hc | rfl
  ·exact(ZEm hc).2.2.1
  ·decide
 ·exact(ZEm (hr y hy)).2.2.1
def ZRA{p:Place}(h:isPl p=true):Free (ZAm p):=by
 obtain⟨c,r,e,hc,hr,_⟩:=ZGZ h
 obtain⟨hx,_⟩:=Bool.and_eq_true_iff.mp (show(wi p.X (-4096) 4096 && wi p.Y (-4096) 4096)=true from h)
 intro y hy
 rw[e]at hy
 rcases List.mem_append.mp hy with hy | hy
 ·exact ZGb hx y hy
 ·rcases List.mem_cons.mp hy with rfl | hy
  ·rcases hc with rfl | rfl<;>decide
  ·rcases List.mem_append.mp hy with hy | hy
   ·exact(ZEm (hr y hy)).2.2.1
   ·obtain rfl:=List.mem_singleton.mp hy
    decide
def ZJZ{n:Nat}(h:n<=999):Free (Go.Lib.itoa n):=λx hx=>(ZHp (ZGX h x hx)).2.2.2.1
def ZD7:Str:=[112,117,109,112]
def ZD8:Str:=[110,111,122,122,108,101]
def ZD9:Str:=[108,97,109,112]
def ZGc:Str:=[109,111,115,116]
def onW:Str:=[111,110]
def atW:Str:=[97,116]
def ZMN:Str:=[104,101,97,100,105,110,103]
def ZMO:Str:=[116,105,108,116]
def inW:Str:=[105,110]
def ZC6{s:Str}(h:(s.all λx=> !(x==32))=true):Free s:=λx hx e=>by
 have:=List.all_eq_true.mp h x hx
 subst e;simp at this
def ZB8(d:Device):List Str:=
 if d.Kind=1 then [ZD7,d.Name,ZGc,ZAQ d.Most]
 else if d.Kind=2 then [ZD8,d.Name,onW,d.Line,atW,ZAm d.At,ZMN,Go.Lib.itoa d.Heading,ZMO,ZAQ d.Tilt,ZGc,ZAQ d.Most]
 else [ZD9,d.Name,onW,d.Line,atW,ZAm d.At]
def ZBY(d:Device):Str:=if devB d=true then ZAl 32 (ZB8 d)else []
structure DevK(d:Device):Prop where
 nm:isNm d.Name=true
 k:(d.Kind=1/\d.Line=[]/\d.At=⟨0,0⟩/\d.Heading=0/\d.Tilt=0/\wi d.Most (-4096) 4096=true)\/
  (d.Kind=2/\isNm d.Line=true/\isPl d.At=true/\(∃n:Nat,d.Heading=n/\n<=999)/\wi d.Tilt (-4096) 4096=true/\wi d.Most (-4096) 4096=true)\/
  (d.Kind=3/\isNm d.Line=true/\isPl d.At=true/\d.Heading=0/\d.Tilt=0/\d.Most=0)
def ZMP{a b c b' c':Int}(h:wi a b c=true)(h1:b'<=b)(h2:c<=c'):wi a b' c'=true:=by
 obtain⟨x,y⟩:=ZAj.1 h
 exact ZAZ (by omega) (by omega)
def ZC7{d:Device}(h:devB d=true):DevK d:=by
 unfold devB at h
 obtain⟨h1,h2⟩:=Bool.and_eq_true_iff.mp h
 refine⟨h1,?_⟩
 split at h2
 ·rename_i k
  simp only[ZAJ,ZAX]at h2
  obtain⟨a,b,c,e,f,g⟩:=h2
  refine .inl ⟨k,a,?_,e,f,ZMP g (by decide) (by decide)⟩
  cases hd:d.At
  rw[hd]at b c
  simp only at b c
  rw[b,c]
 ·split at h2
  ·rename_i k
   simp only[ZAJ]at h2
   obtain⟨a,b,c,e⟩:=h2
   have J:=ZBk c
   unfold devJ at J
   refine .inr (.inl ⟨k,a,?_,⟨d.Heading.toNat,by have:=J.h;simp only at this;omega,by have:=J.h;simp only at this;omega⟩,ZAZ (by have:=J.t;simp only at this;omega) (by have:=J.t;simp only at this;omega),ZMP e (by decide) (by decide)⟩)
   unfold isPl
   rw[ZAJ]
   exact⟨ZAZ (by have:=J.x;simp only at this;omega) (by have:=J.x;simp only at this;omega),ZAZ (by have:=J.y;simp only at this;omega) (by have:=J.y;simp only at this;omega)⟩
  ·split at h2
   ·rename_i k
    simp only[ZAJ,ZAX]at h2
    obtain⟨a,b,c,e,f,g⟩:=h2
    exact .inr (.inr ⟨k,e,g,a,b,c⟩)
   ·cases h2
def ZXM{d:Device}(h:DevK d): ∀w∈ZB8 d,Free w:=by
 have hn:=(ZGa h.nm).1
 unfold ZB8
 rcases h.k with ⟨k,_,_,_,_,hm⟩ | ⟨k,hl,hp,⟨n,e,hn9⟩,ht,hm⟩ | ⟨k,hl,hp,_⟩
 ·rw[al_if_pos k]
  simp only[List.mem_cons,List.not_mem_nil,or_false,forall_eq_or_imp,forall_eq]
  exact⟨ZC6 rfl,hn,ZC6 rfl,ZGb hm⟩
 ·rw[al_if_neg,al_if_pos k,e]
  simp only[List.mem_cons,List.not_mem_nil,or_false,forall_eq_or_imp,forall_eq]
  exact⟨ZC6 rfl,hn,ZC6 rfl,(ZGa hl).1,ZC6 rfl,ZRA hp,ZC6 rfl,ZJZ hn9,ZC6 rfl,ZGb ht,ZC6 rfl,ZGb hm⟩
 ·rw[al_if_neg,al_if_neg]
  simp only[List.mem_cons,List.not_mem_nil,or_false,forall_eq_or_imp,forall_eq]
  exact⟨ZC6 rfl,hn,ZC6 rfl,(ZGa hl).1,ZC6 rfl,ZRA hp⟩
def ZXN(d:Device):ZB8 d≠[]:=by
 unfold ZB8
 split
 ·simp
 ·split<;>simp
def ZRB{d:Device}(h:devB d=true):splC 32 (ZBY d)=ZB8 d:=by
 unfold ZBY
 rw[al_if_pos h]
 exact ZJT (ZXN d) (ZXM (ZC7 h))
def ZMQ{c:UInt8}{w:List UInt8}{ws:List (List UInt8)}(h:w≠[]):ZAl c (w::ws)≠[]:=by
 cases ws with
 | nil=>exact h
 | cons v ws=>rw[ZAl];simp
def ZRC{d:Device}(h:devB d=true):ZBY d≠[]:=by
 unfold ZBY
 rw[al_if_pos h]
 unfold ZB8
 split
 ·exact ZMQ (by decide)
 ·split<;>exact ZMQ (by decide)
def wAt(w:List Str)(i:Nat):Str:=(w[i]?).getD []
def ZBJ(s:Str):Int:=(ZAg s).1
def numV(s:Str):Int:=(numP s).1
def plV(s:Str):Place:=(ZAR s).1
def ZHr{x:Int}(h:wi x (-4096) 4096=true):ZBJ (ZAQ x)=x:=by unfold ZBJ;rw[ZDX h]
def ZRD{p:Place}(h:isPl p=true):plV (ZAm p)=p:=by unfold plV;rw[ZML h]
def ZJa{n:Nat}(h:n<=999):numV (Go.Lib.itoa n)=n:=by unfold numV;rw[ZCf h]
def ZBK(w:List Str):Device:=
 if w.length=4/\wAt w 0=ZD7 then⟨wAt w 1,1,[],⟨0,0⟩,0,0,ZBJ (wAt w 3)⟩
 else if w.length=12/\wAt w 0=ZD8 then⟨wAt w 1,2,wAt w 3,plV (wAt w 5),numV (wAt w 7),ZBJ (wAt w 9),ZBJ (wAt w 11)⟩
 else if w.length=6/\wAt w 0=ZD9 then⟨wAt w 1,3,wAt w 3,plV (wAt w 5),0,0,0⟩
 else⟨[],0,[],⟨0,0⟩,0,0,0⟩
def ZCL(w:List Str):Device:=
 if wAt w 0=ZD7 then⟨wAt w 1,1,[],⟨0,0⟩,0,0,ZBJ (wAt w 3)⟩
 else if wAt w 0=ZD8 then⟨wAt w 1,2,wAt w 3,plV (wAt w 5),numV (wAt w 7),ZBJ (wAt w 9),ZBJ (wAt w 11)⟩
 else if wAt w 0=ZD9 then⟨wAt w 1,3,wAt w 3,plV (wAt w 5),0,0,0⟩
 else⟨wAt w 1,0,[],⟨0,0⟩,0,0,0⟩
def ZRE{d:Device}(h:devB d=true):ZBK (ZB8 d)=d/\ZCL (ZB8 d)=d:=by
 have K:=ZC7 h
 have n1: ¬(ZD8=ZD7):=by decide
 have n2: ¬(ZD9=ZD7):=by decide
 have n3: ¬(ZD9=ZD8):=by decide
 obtain⟨nm,kd,ln,p,hd,tl,ms⟩:=d
 rcases K.k with ⟨k,a,b,c,e,hm⟩ | ⟨k,hl,hp,⟨n,e,hn9⟩,ht,hm⟩ | ⟨k,hl,hp,a,b,c⟩
 ·simp only at k a b c e hm
  subst k;subst a;subst b;subst c;subst e
  unfold ZB8 ZBK ZCL wAt
  simp only[if_true,al_len_cons,al_len_nil,List.getElem?_cons_zero,List.getElem?_cons_succ,Option.getD_some,ZHr hm,and_self]
 ·simp only at k hl hp e ht hm
  subst k;subst e
  unfold ZB8 ZBK ZCL wAt
  simp only[show¬((2:Int)=1)by decide,if_false,if_true,al_len_cons,al_len_nil,List.getElem?_cons_zero,List.getElem?_cons_succ,Option.getD_some,ZHr hm,ZHr ht,ZRD hp,ZJa hn9,and_self,n1,and_false]
 ·simp only at k hl hp a b c
  subst k;subst a;subst b;subst c
  unfold ZB8 ZBK ZCL wAt
  simp only[show¬((3:Int)=1)by decide,show¬((3:Int)=2)by decide,if_false,if_true,al_len_cons,al_len_nil,List.getElem?_cons_zero,List.getElem?_cons_succ,Option.getD_some,ZRD hp,and_self,n2,n3,and_false]
def ZRF{α:Type}(T:α->Str)(ok:α->Bool)(hno: ∀d,ok d=false->T d=[])(R R':Str->α)(C C':Str->Prop)[DecidablePred C][DecidablePred C'](z:α)
  (hR: ∀d,ok d=true->R (T d)=d) (hR': ∀d,ok d=true->R' (T d)=d) (hC: ∀d,ok d=true->C (T d)) (hC': ∀d,ok d=true->C' (T d)) (h0: ¬C []) (h0': ¬C' []) (s:Str):
  (if C s/\T (R s)=s then(R s,true)else(z,false))=(if C' s/\T (R' s)=s then(R' s,true)else(z,false)):=by
 have key: ∀(R R':Str->α) (C C':Str->Prop),(∀d,ok d=true->R' (T d)=d)->(∀d,ok d=true->C' (T d))-> ¬C []->C s/\T (R s)=s->R' s=R s/\C' s/\T (R' s)=s:=by
  rintro R R' C C' h1 h2 h3 ⟨c,e⟩
  cases hk:ok (R s)
  ·rw[hno _ hk]at e;rw[<-e]at c;exact absurd c h3
  ·have e1:=h1 _ hk
   have e2:=h2 _ hk
   rw[e]at e1 e2
   exact⟨e1,e2,by rw[e1];exact e⟩
 by_cases h:C s/\T (R s)=s
 ·obtain⟨e1,e2,e3⟩:=key R R' C C' hR' hC' h0 h
  rw[al_if_pos h,al_if_pos ⟨e2,e3⟩,e1]
 ·rw[al_if_neg h]
  by_cases h':C' s/\T (R' s)=s
  ·obtain⟨e1,e2,e3⟩:=key R' R C' C hR hC h0' h'
   exact absurd ⟨e2,e3⟩ h
  ·rw[al_if_neg h']
def devP(s:Str):Device×Bool:=if s≠[]/\ZBY (ZBK (splC 32 s))=s then(ZBK (splC 32 s),true)else(⟨[],0,[],⟨0,0⟩,0,0,0⟩,false)
def ZXO(s:Str):(if s≠[]/\ZBY (ZCL (splC 32 s))=s then(ZCL (splC 32 s),true)else(⟨[],0,[],⟨0,0⟩,0,0,0⟩,false))=devP s:=
 ZRF ZBY devB (λd h=>by unfold ZBY;rw[h,al_if_neg (by simp)]) (λs=>ZCL (splC 32 s)) (λs=>ZBK (splC 32 s)) (λs=>s≠[]) (λs=>s≠[]) _
  (λd h=>by rw[ZRB h];exact(ZRE h).2) (λd h=>by rw[ZRB h];exact(ZRE h).1) (λd h=>ZRC h) (λd h=>ZRC h) (by simp) (by simp) s
def ZCU(c:Cue):List Str:=Go.Lib.itoa c.Tick::c.Name::ZAQ c.Level::(if c.Ramp=0 then []else [inW,Go.Lib.itoa c.Ramp])
def ZBO(c:Cue):Str:=if ZAz c=true then ZAl 32 (ZCU c)else []
structure CueK(c:Cue):Prop where
 t: ∃n:Nat,c.Tick=n/\n<=999
 nm:isNm c.Name=true
 l:wi c.Level (-4096) 4096=true
 r: ∃n:Nat,c.Ramp=n/\n<=999
def ZEp{c:Cue}(h:ZAz c=true):CueK c:=by
 unfold ZAz at h
 simp only[ZAJ]at h
 obtain⟨a,b,e,d⟩:=h
 obtain⟨a1,a2⟩:=ZAj.1 a
 obtain⟨d1,d2⟩:=ZAj.1 d
 exact⟨⟨c.Tick.toNat,by omega,by omega⟩,b,ZMP e (by decide) (by decide),⟨c.Ramp.toNat,by omega,by omega⟩⟩
def ZXP{c:Cue}(h:CueK c): ∀w∈ZCU c,Free w:=by
 obtain⟨⟨n,e,hn⟩,b,l,⟨m,f,hm⟩⟩:=h
 unfold ZCU
 rw[e,f]
 split
 ·simp only[List.mem_cons,List.not_mem_nil,or_false,forall_eq_or_imp,forall_eq]
  exact⟨ZJZ hn,(ZGa b).1,ZGb l⟩
 ·simp only[List.mem_cons,List.not_mem_nil,or_false,forall_eq_or_imp,forall_eq]
  exact⟨ZJZ hn,(ZGa b).1,ZGb l,ZC6 rfl,ZJZ hm⟩
def ZMR{c:Cue}(h:ZAz c=true):splC 32 (ZBO c)=ZCU c:=by
 unfold ZBO
 rw[al_if_pos h]
 exact ZJT (by unfold ZCU;simp) (ZXP (ZEp h))
def ZXQ{c:Cue}(h:ZAz c=true):ZBO c≠[]:=by
 unfold ZBO
 rw[al_if_pos h]
 obtain⟨n,e,hn⟩:=(ZEp h).t
 unfold ZCU
 rw[e]
 exact ZMQ (ZJV hn)
def ZCg(w:List Str):Cue:=⟨numV (wAt w 0),wAt w 1,ZBJ (wAt w 2),if w.length=5 then numV (wAt w 4)else 0⟩
def ZFY(w:List Str):Cue:=⟨numV (wAt w 0),wAt w 1,ZBJ (wAt w 2),numV (wAt w 4)⟩
theorem Za1:numV []=0:=rfl
def ZRG{c:Cue}(h:ZAz c=true):ZCg (ZCU c)=c/\ZFY (ZCU c)=c:=by
 obtain⟨⟨n,e,hn⟩,b,l,⟨m,f,hm⟩⟩:=ZEp h
 obtain⟨t,nm,lv,rp⟩:=c
 simp only at e b l f
 subst e;subst f
 unfold ZCU ZCg ZFY wAt
 by_cases h0:((m:Nat):Int)=0
 ·obtain rfl:m=0:=by omega
  simp[ZJa hn,ZHr l,Za1]
 ·simp only[h0,if_false]
  simp[ZJa hn,ZHr l,ZJa hm]
def cueC(s:Str):Prop:=((splC 32 s).length=3\/(splC 32 s).length=5)/\(numP (wAt (splC 32 s) 0)).2=true/\(ZAg (wAt (splC 32 s) 2)).2=true/\((splC 32 s).length=5->(numP (wAt (splC 32 s) 4)).2=true)
def cueP(s:Str):Cue×Bool:=open Classical in if cueC s/\ZBO (ZCg (splC 32 s))=s then(ZCg (splC 32 s),true)else(⟨0,[],0,0⟩,false)
def ZXR{c:Cue}(h:ZAz c=true):cueC (ZBO c):=by
 unfold cueC
 rw[ZMR h]
 obtain⟨⟨n,e,hn⟩,b,l,⟨m,f,hm⟩⟩:=ZEp h
 unfold ZCU wAt
 rw[e,f]
 by_cases h0:((m:Nat):Int)=0
 ·rw[al_if_pos h0]
  simp[ZCf hn,ZDX l]
 ·rw[al_if_neg h0]
  simp[ZCf hn,ZDX l,ZCf hm]
def ZJb: ¬cueC []:=by
 intro h
 have:splC 32 []=[[]]:=rfl
 unfold cueC at h
 rw[this]at h
 simp at h
open Classical in
def ZXS(s:Str):(if s≠[]/\ZBO (ZFY (splC 32 s))=s then(ZFY (splC 32 s),true)else(⟨0,[],0,0⟩,false))=cueP s:=
 ZRF ZBO ZAz (λd h=>by unfold ZBO;rw[h,al_if_neg (by simp)]) (λs=>ZFY (splC 32 s)) (λs=>ZCg (splC 32 s)) (λs=>s≠[]) cueC _
  (λd h=>by rw[ZMR h];exact(ZRG h).2) (λd h=>by rw[ZMR h];exact(ZRG h).1) (λd h=>ZXQ h) (λd h=>ZXR h) (by simp) ZJb s
end Ev
end
noncomputable section
namespace Ev
open Go
def ZXT{R T:Type}{f:T->(T->Option R)->(T->Option R)->Option R}{K:T->Option R}(st:Nat->T)(hit:Nat->Bool)(res:Nat->Option R)(n:Nat)
  (hs: ∀i,i<n-> ∀rec K,f (st i) rec K=cond (hit i) (res i) (rec (st (i+1)))) (he: ∀rec K,f (st n) rec K=K (st n)):
  ∀(d i m:Nat),i+d=n->d<m->(∃j,i<=j/\j<n/\hit j=true/\ZAD f m (st i) K=res j)\/((∀j,i<=j->j<n->hit j=false)/\ZAD f m (st i) K=K (st n)):=by
 intro d
 induction d with
 | zero=>
  intro i m h1 h2
  obtain⟨m,rfl⟩: ∃k,m=k+1:=⟨m-1,by omega⟩
  have:i=n:=by omega
  subst this
  right
  exact⟨λj h1 h2=>by omega,by rw[ZAS,he]⟩
 | succ d ih=>
  intro i m h1 h2
  obtain⟨m,rfl⟩: ∃k,m=k+1:=⟨m-1,by omega⟩
  rw[ZAS,hs i (by omega)]
  cases hh:hit i
  ·rw[al_cond_false]
   rcases ih (i+1) m (by omega) (by omega)with ⟨j,a,b,c,e⟩ | ⟨a,e⟩
   ·exact .inl ⟨j,by omega,b,c,e⟩
   ·refine .inr ⟨λj h1 h2=> ?_,e⟩
    by_cases hj:j=i
    ·subst hj;exact hh
    ·exact a j (by omega) h2
  ·exact .inl ⟨i,Nat.le_refl _,by omega,hh,rfl⟩
def ZJc{R T:Type}{f:T->(T->Option R)->(T->Option R)->Option R}{K:T->Option R}(st:Nat->T)(hit:Nat->Bool)(res:Nat->Option R)(n:Nat)(hn:n<=18446744073709551616)
  (hs: ∀i,i<n-> ∀rec K,f (st i) rec K=cond (hit i) (res i) (rec (st (i+1)))) (he: ∀rec K,f (st n) rec K=K (st n)):
  (∃j,j<n/\hit j=true/\ZAD f fuel (st 0) K=res j)\/((∀j,j<n->hit j=false)/\ZAD f fuel (st 0) K=K (st n)):=by
 rcases ZXT st hit res n hs he n 0 fuel (by omega) (by rw[ZBx];omega)with ⟨j,_,b,c,e⟩ | ⟨a,e⟩
 ·exact .inl ⟨j,b,c,e⟩
 ·exact .inr ⟨λj hj=>a j (Nat.zero_le _) hj,e⟩
def ZGd(s:Str)(c:UInt8)(hs:s.length<=1048576):G10 (s,[c],())=some (splC c s,()):=by
 unfold G10 F10
 rw[ZAA]
 have:G38 (s,[c],())=some (splC c s,()):=by
  show ZIr (s,[c],())=_
  unfold ZIr
  rw[al_if_pos ⟨by show s.length<_;omega,by simp⟩,ZXD]
 rw[this];rfl
def spF(c:UInt8)(a:List Str×Str)(x:UInt8):List Str×Str:=if x=c then(a.1++[a.2],[])else(a.1,a.2++[x])
def ZMS(c:UInt8): ∀(s:Str) (o:List Str) (w h:Str) (t:List Str),splC c s=h::t->(s.foldl (spF c) (o,w)).1++[(s.foldl (spF c) (o,w)).2]=o++(w++h)::t
 | [],o,w,h,t,e=>by simp[splC]at e;obtain⟨rfl,rfl⟩:=e;simp
 | x::s,o,w,h,t,e=>by
  rw[List.foldl_cons]
  by_cases hx:x=c
  ·subst hx
   rw[ZGQ]at e
   obtain⟨rfl,rfl⟩:=List.cons.inj e
   cases e2:splC x s with
   | nil=>exact absurd e2 (ZCJ x s)
   | cons p q=>
    have:=ZMS x s (o++[w]) [] p q e2
    have hsp:spF x (o,w) x=(o++[w],[]):=by simp[spF]
    rw[hsp,this]
    simp
  ·cases e2:splC c s with
   | nil=>exact absurd e2 (ZCJ c s)
   | cons a b=>
    rw[ZGR hx e2]at e
    obtain⟨rfl,rfl⟩:=List.cons.inj e
    have hsp:spF c (o,w) x=(o,w++[x]):=by simp[spF,hx]
    rw[hsp,ZMS c s o (w++[x]) a b e2]
    simp
def ZXU(c:UInt8)(s:Str):(s.foldl (spF c) ([],[])).1++[(s.foldl (spF c) ([],[])).2]=splC c s:=by
 cases e:splC c s with
 | nil=>exact absurd e (ZCJ c s)
 | cons h t=>rw[ZMS c s [] [] h t e];simp
def ZMT(c:UInt8)(s:Str): ∀i,i<=s.length->((s.take i).foldl (spF c) ([],[])).1.length<=i/\((s.take i).foldl (spF c) ([],[])).2.length<=i/\(s.take i).drop (i-((s.take i).foldl (spF c) ([],[])).2.length)=((s.take i).foldl (spF c) ([],[])).2
 | 0,_=>by simp
 | i+1,h=>by
  obtain⟨h1,h2,h3⟩:=ZMT c s i (by omega)
  have e:=ZBq s i (by omega)
  rw[e,List.foldl_append,List.foldl_cons,List.foldl_nil]
  generalize (s.take i).foldl (spF c) ([],[])=a at h1 h2 h3⊢
  have hl:(s.take i).length=i:=by rw[al_len_take];omega
  unfold spF
  by_cases hx:s[i]=c
  ·rw[al_if_pos hx]
   refine⟨by simp;omega,by simp,?_⟩
   show List.drop (i+1-0) _=[]
   apply List.drop_eq_nil_of_le
   rw[al_len_append,hl];exact Nat.le_refl _
  ·rw[al_if_neg hx]
   refine⟨Nat.le_trans h1 (Nat.le_succ _),by simp;omega,?_⟩
   show List.drop (i+1-(a.2++[s[i]]).length) (s.take i++[s[i]])=a.2++[s[i]]
   rw[al_len_append,List.length_singleton,show i+1-(a.2.length+1)=i-a.2.length by omega,List.drop_append_of_le_length (by omega),h3]
def ZHs(s:Str)(c:UInt8)(hs:s.length<=1048576):G41 (s,[c],())=some (splC c s,()):=by
 unfold G41 F41
 have run:=ZAU (f:=s41_0) (K:=λx1=>okIf ((0:Int)<=x1.2.2.2.1/\(x1.2.2.2.1:Int)<=List.length x1.1) (capK (List.length x1.2.2.1+List.length ([(List.drop (Int.toNat x1.2.2.2.1) x1.1)]:List Str)) (some ((x1.2.2.1++([(List.drop (Int.toNat x1.2.2.2.1) x1.1)]:List Str)),()))))
  (λi=>(s,[c],((s.take i).foldl (spF c) ([],[])).1,((i-((s.take i).foldl (spF c) ([],[])).2.length:Nat):Int),(i:Int),())) s.length (by omega)
  (by
   intro i hi rec K
   obtain⟨h1,h2,h3⟩:=ZMT c s i (by omega)
   have e:=ZBq s i hi
   have e2:((s.take (i+1)).foldl (spF c) ([],[]))=spF c ((s.take i).foldl (spF c) ([],[])) s[i]:=by rw[e,List.foldl_append];rfl
   rw[e2]
   generalize (s.take i).foldl (spF c) ([],[])=a at h1 h2 h3⊢
   have w1:w64 ((i:Int)+Int.ofNat 1)=((i+1:Nat):Int):=ZAC
   have w2:w64 ((i:Int)+1)=((i+1:Nat):Int):=ZAC
   have hd:List.drop i (List.take (i+1) s)=[s[i]]:=by
    rw[e,List.drop_append_of_le_length (by simp;omega)]
    rw[List.drop_eq_nil_of_le (by simp;omega)];rfl
   simp only[s41_0,al_len_cons,al_len_nil,Nat.zero_add,w1,w2,ZAW,hd]
   rw[show(!decide (([c]:Str)=[]))=true by simp,al_cond_true,ZA,ZBT (by refine⟨by omega,by omega,?_⟩;simp;omega)]
   unfold spF
   by_cases hx:s[i]=c
   ·rw[ZA (by rw[hx]),al_if_pos hx,ZBT ⟨by omega,by omega,by simp;omega⟩,ZAB,h3]
    simp
   ·rw[ZAA (by simpa using hx),al_if_neg hx]
    congr 1
    simp only[al_len_append,al_len_cons,al_len_nil]
    congr 4
    omega)
  (by
   intro rec K
   simp only[s41_0,al_len_cons,al_len_nil,Nat.zero_add]
   rw[show(!decide (([c]:Str)=[]))=true by simp,al_cond_true,ZAA (by rw[ZAC];simp;omega)])
 refine run.trans ?_
 obtain⟨h1,h2,h3⟩:=ZMT c s s.length (Nat.le_refl _)
 have hall:=ZXU c s
 rw[List.take_length]at h1 h2 h3⊢
 simp only
 rw[ZBT ⟨by omega,by omega⟩,ZAW,h3,ZAB,hall]
def ZMU(s t:Str)(hs:s.length<=1048576):G96 (s,t,())=some ((Go.Lib.cut s t).1,(Go.Lib.cut s t).2.1,(Go.Lib.cut s t).2.2,()):=by
 show cutF (s,t,())=_
 unfold cutF
 rw[al_if_pos (by show s.length<_;omega)]
def ZRH(s:Str)(c:UInt8):G190 (s,[c],())=some (ZBr c s,()):=by
 unfold G190 F190 G279 F279 G339 F339
 cases s with
 | nil=>
  simp only[al_len_nil,al_len_cons]
  rw[ZAA];rfl
 | cons x r=>
  simp only[al_len_nil,al_len_cons,Nat.zero_add]
  rw[ZA,ZBT ⟨by simp,by simp;omega⟩]
  simp only[al_bind_some]
  have ht:List.take (Int.toNat (Int.ofNat 1)) (x::r)=[x]:=rfl
  have hd:List.drop (Int.toNat (Int.ofNat 1)) (x::r)=r:=rfl
  rw[ht,hd]
  by_cases hx:x=c
  ·subst hx
   rw[ZA rfl,ZBT ⟨by simp,by simp;omega⟩,ZGY];rfl
  ·rw[ZAA (by simpa using hx),ZHq r hx];rfl
end Ev
end
noncomputable section
namespace Ev
open Go
def rd0{R α:Type}{x:α}{r:List α}{K:α->Option R} :rdL (x::r) 0 K=K x:=ZAF (i:=0) rfl
def ZXV(a:Nat)(s:Str)(x:UInt8):digV a (s++[x])=10*digV a s+(x.toNat-48):=by
 unfold digV;rw[List.foldl_append];rfl
def ZB9(x:UInt8):x.toNat<256:=x.toNat_lt
def ZXW: ∀(s:Str),s.length<=4->digV 0 s<=1000000:=by
 intro s h
 match s,h with
 | [],_=>rw[ZDW];omega
 | [a],_=>rw[ZBX,ZDW];have:=ZB9 a;omega
 | [a,b],_=>rw[ZBX,ZBX,ZDW];have:=ZB9 a;have:=ZB9 b;omega
 | [a,b,c],_=>rw[ZBX,ZBX,ZBX,ZDW];have:=ZB9 a;have:=ZB9 b;have:=ZB9 c;omega
 | [a,b,c,d],_=>rw[ZBX,ZBX,ZBX,ZBX,ZDW];have:=ZB9 a;have:=ZB9 b;have:=ZB9 c;have:=ZB9 d;omega
 | _::_::_::_::_::_,h=>simp at h
def ZXX{x:UInt8}(h:ZA6 x=true):IntKind.wrap .u8 (Int.ofNat x.toNat-48)=((x.toNat-48:Nat):Int):=by
 unfold ZA6 at h
 simp only[ZAJ,ZAX]at h
 have:=ZB9 x
 show IntKind.wrap .u8 ((x.toNat:Int) -48)=_
 simp[IntKind.wrap,IntKind.signed,IntKind.bits]
 omega
def ZRI(s:Str):ZCK s=(decide (s≠[]) && (decide (s.length<=3) && (!(decide (1<s.length) && decide (s[0]?=some 48)) && s.all ZA6))):=by
 match s with
 | []=>rfl
 | [x]=>simp[ZCK]
 | x::y::r=>
  unfold ZCK
  simp only[al_len_cons,List.getElem?_cons_zero]
  by_cases h1:r.length<=1
  ·by_cases h2:x=48
   ·simp[h1,h2]
   ·simp[h1,h2]
  ·simp[h1]
def ZRJ(s:Str)(h:s.length<=3):ZAD s99_0 fuel (s,0,Int.ofNat s.length,0,()) (λx=>some (x.2.1,true,()))=some (if s.all ZA6=true then((digV 0 s:Nat):Int)else 0,s.all ZA6,()):=by
 have run:=ZDi (f:=s99_0) (K:=λx=>some (x.2.1,true,())) (λi=>(s,((digV 0 (s.take i):Nat):Int),Int.ofNat s.length,(i:Int),())) (λi=>((s[i]?).map ZA6).getD true) (some (0,false,())) s.length (by omega)
  (by
   intro i hi rec K
   have hx:s[i]?=some s[i]:=by simp
   have e:=ZBq s i hi
   have hb:=ZXW (s.take i) (by rw[al_len_take];omega)
   have w2:w64 ((i:Int)+1)=((i+1:Nat):Int):=ZAC
   simp only[s99_0,ZAF hx,w2,hx,Option.map_some,Option.getD_some]
   rw[ZA,e,ZXV]
   generalize digV 0 (s.take i)=v at hb
   have hl:=ZB9 s[i]
   by_cases h1:(Int.ofNat s[i].toNat)<48
   ·have hd:ZA6 s[i]=false:=by unfold ZA6;simp at h1⊢;omega
    rw[hd,ZAH h1];rfl
   ·by_cases h2:(Int.ofNat s[i].toNat)>57
    ·have hd:ZA6 s[i]=false:=by unfold ZA6;simp at h1 h2⊢;omega
     rw[hd,ZAE h1,ZAH h2];rfl
    ·have hd:ZA6 s[i]=true:=by unfold ZA6;simp at h1 h2⊢;omega
     rw[hd,ZAE h1,ZAE h2,ZXX hd]
     simp only[ZAK,al_cond_true,al_cond_false]
     have e1:w64 (10*(v:Int))=10*(v:Int):=ZAC
     have e2:w64 ((s[i].toNat-48:Nat):Int)=((s[i].toNat-48:Nat):Int):=ZAC
     rw[e1,e2,ZAC]
     congr 2)
  (by
   intro rec K
   simp only[s99_0]
   rw[ZAA])
 have ea:(List.range s.length).all (λi=>((s[i]?).map ZA6).getD true)=s.all ZA6:=by
  rw[Bool.eq_iff_iff,List.all_eq_true,List.all_eq_true]
  constructor
  ·intro h x hx
   obtain⟨i,hi⟩:=List.mem_iff_getElem?.mp hx
   have:=h i (by simpa using (al_get_iff.mp hi).1)
   rw[hi]at this;exact this
  ·intro h i hi
   have hi:i<s.length:=by simpa using hi
   have hx:s[i]?=some s[i]:=by simp
   rw[hx];exact h _ (by simp)
 rw[ea]at run
 rw[List.take_zero]at run
 refine run.trans ?_
 cases s.all ZA6
 ·rfl
 ·rw[List.take_length];rfl
def ZGe(s:Str)(hs:s.length<=1048576):G99 (s,())=some ((numP s).1,(numP s).2,()):=by
 unfold G99 F99 numP
 rw[ZRI]
 simp only
 by_cases h0:s=[]
 ·subst h0;rfl
 ·rw[ZAH h0,Bool.true_and]
  have hl0:s.length≠0:=λe=>h0 (List.length_eq_zero_iff.mp e)
  rw[show(!(decide ((Int.ofNat s.length)=0)))=true by simp[h0],al_cond_true]
  by_cases h3:s.length<=3
  ·rw[show(!(decide ((Int.ofNat s.length)>3)))=true by simp;omega,al_cond_true,ZAH h3,Bool.true_and]
   obtain⟨x,r,rfl⟩: ∃x r,s=x::r:=by
    cases s with
    | nil=>exact absurd rfl h0
    | cons x r=>exact⟨x,r,rfl⟩
   by_cases h1:1<(x::r).length
   ·rw[ZA (by simp at h1⊢;omega),rd0,ZAH h1,Bool.true_and]
    by_cases hx:x=48
    ·subst hx
     rw[show(decide (Int.ofNat (UInt8.toNat 48)=48))=true from rfl,al_cond_true];rfl
    ·have hx': ¬(Int.ofNat x.toNat=48):=λe=>hx (by
      have:x.toNat=48:=by simp only[ZAT]at e;omega
      exact UInt8.toNat_inj.1 this)
     rw[ZAA hx',ZRJ _ h3]
     simp only[List.getElem?_cons_zero,Option.some.injEq,hx,decide_false,ZAK,Bool.true_and]
     cases (x::r).all ZA6<;>rfl
   ·rw[ZAA (by simp only[al_len_cons,ZAT]at h1⊢;omega),ZRJ _ h3,ZAE h1,Bool.false_and,ZAK,Bool.true_and]
    cases (x::r).all ZA6<;>rfl
  ·rw[show(!(decide ((Int.ofNat s.length)>3)))=false by simp;omega,al_cond_false,ZAE h3,Bool.false_and]
   rfl
def sumV(s:Str):Int:=s.foldl (λa x=>10*a+(x.toNat:Int) -48) 0
def ZRK(s:Str)(x:UInt8):sumV (s++[x])=10*sumV s+(x.toNat:Int) -48:=by
 unfold sumV;rw[List.foldl_append];rfl
def ZXY(s:Str): ∀i,i<=s.length->i<=4-> -1000000<=sumV (s.take i)/\sumV (s.take i)<=1000000:=by
 have step: ∀i,(hi:i<s.length)->sumV (s.take (i+1))=10*sumV (s.take i)+(s[i].toNat:Int) -48:=λi hi=>by rw[ZBq s i hi,ZRK]
 intro i h1 h4
 have h0:sumV (s.take 0)=0:=by rw[List.take_zero];rfl
 have s1:1<=s.length-> -48<=sumV (s.take 1)/\sumV (s.take 1)<=255:=λh=>by
  have e1:sumV (s.take 1)=_:=step 0 h
  have:=ZB9 s[0]
  omega
 have s2:2<=s.length-> -1000<=sumV (s.take 2)/\sumV (s.take 2)<=3000:=λh=>by
  have e1:sumV (s.take 2)=_:=step 1 h
  have:=ZB9 s[1]
  have:=s1 (by omega)
  omega
 have s3:3<=s.length-> -11000<=sumV (s.take 3)/\sumV (s.take 3)<=31000:=λh=>by
  have e1:sumV (s.take 3)=_:=step 2 h
  have:=ZB9 s[2]
  have:=s2 (by omega)
  omega
 have s4:4<=s.length-> -111000<=sumV (s.take 4)/\sumV (s.take 4)<=311000:=λh=>by
  have e1:sumV (s.take 4)=_:=step 3 h
  have:=ZB9 s[3]
  have:=s3 (by omega)
  omega
 have:i=0\/i=1\/i=2\/i=3\/i=4:=by omega
 rcases this with rfl | rfl | rfl | rfl | rfl
 ·rw[h0];omega
 ·have:=s1 h1;omega
 ·have:=s2 h1;omega
 ·have:=s3 h1;omega
 ·have:=s4 h1;omega
def ZRL: ∀(s:Str),s.all ZA6=true-> ∀a:Nat,s.foldl (λa x=>10*a+(x.toNat:Int) -48) (a:Int)=((digV a s:Nat):Int)
 | [],_,a=>rfl
 | x::s,h,a=>by
  simp only[List.all_cons,ZAJ]at h
  have hx:=h.1
  unfold ZA6 at hx
  simp only[ZAJ,ZAX]at hx
  rw[List.foldl_cons,ZBX,<-ZRL s h.2]
  congr 1
  omega
def ZFZ(s:Str)(hs:s.length<=1048576):G144 (s,())=some ((numP s).1,(numP s).2,()):=by
 unfold G144 F144
 have run:=ZAU (f:=s144_0 G78) (K:=λx1=>cond (!(decide ((Int.ofNat (List.length x1.1))=0))) (cond (!(decide (x1.2.1<0))) (cond (!(decide (x1.2.1>999))) ((G78 (x1.2.1,())).bind λx2=>cond (!decide (x2.1=x1.1)) (some ((0:Int),false,())) (some (x1.2.1,true,()))) (some (0,false,()))) (some (0,false,()))) (some (0,false,())))
  (λi=>(s,sumV (s.take i),(i:Int),())) (min s.length 4) (by omega)
  (by
   intro i hi rec K
   have hx:s[i]?=some s[i]:=by simp
   obtain⟨b1,b2⟩:=ZXY s i (by omega) (by omega)
   have hl:=ZB9 s[i]
   have w2:w64 ((i:Int)+1)=((i+1:Nat):Int):=ZAC
   simp only[s144_0,ZAF hx,w2]
   rw[ZA,ZA,ZBq s i (by omega),ZRK]
   generalize sumV (s.take i)=v at b1 b2
   have e1:w64 (10*v)=10*v:=ZAC
   have e2:w64 (Int.ofNat s[i].toNat)=(s[i].toNat:Int):=ZAC (by simp only[ZAT];omega) (by simp only[ZAT];omega)
   rw[e1,e2,ZAC (n:=10*v+(s[i].toNat:Int)) (by omega) (by omega),ZAC])
  (by
   intro rec K
   simp only[s144_0]
   by_cases h4:s.length<=4
   ·rw[ZAA]
   ·rw[ZA,ZAA])
 rw[List.take_zero]at run
 refine run.trans ?_
 simp only
 generalize hv:sumV (s.take (min s.length 4))=v
 have key: ∀m:Nat,m<=999->s=Go.Lib.itoa m->v=m:=λm hm e=>by
  have h1:=ZCf hm
  rw[<-e]at h1
  unfold numP at h1
  split at h1
  ·rename_i hk
   rw[ZRI]at hk
   simp only[ZAJ,ZAX]at hk
   have ht:s.take (min s.length 4)=s:=List.take_of_length_le (by omega)
   rw[ht]at hv
   have:=ZRL s hk.2.2.2 0
   rw[<-hv]
   unfold sumV
   rw[show(0:Int)=((0:Nat):Int)from rfl,this]
   exact(Prod.mk.injEq ..▸h1).1
  ·cases h1
 by_cases h0:s=[]
 ·subst h0;rfl
 ·rw[show(!(decide ((Int.ofNat s.length)=0)))=true by simp[h0],al_cond_true]
  rcases ZFX s with hn | ⟨m,hm,e,hn⟩
  ·rw[hn]
   by_cases c1:v<0
   ·rw[ZAH c1];rfl
   ·by_cases c2:v>999
    ·rw[ZAE c1,ZAH c2];rfl
    ·rw[ZAE c1,ZAE c2,numS (by omega) (by omega)]
     simp only[ZAK,al_cond_true,al_bind_some]
     have hne: ¬Go.Lib.itoa v=s:=λe=>by
      obtain⟨k,rfl⟩: ∃k:Nat,v=k:=⟨v.toNat,by omega⟩
      have:=ZCf (n:=k) (by omega)
      rw[e,hn]at this
      cases this
     rw[ZAE hne];rfl
  ·have hvm:=key m hm e
   subst hvm
   rw[hn,ZAE (by omega),ZAE (by omega),numS (by omega) (by omega)]
   simp only[ZAK,al_cond_true,al_bind_some]
   rw[ZAH e.symm];rfl
end Ev
end
noncomputable section
namespace Ev
open Go
def ZFa{s:Str}(h: ∀x,wi x (-4096) 4096=true->ZAQ x≠s):ZAg s=(0,false):=by
 rcases ZXJ s with ⟨e,_⟩ | ⟨x,hx,e,_⟩
 ·exact e
 ·exact absurd e.symm (h x hx)
def ZRM(c:UInt8)(s:Str):(ZBr c s).length<=s.length:=by
 cases s with
 | nil=>exact Nat.le_refl _
 | cons x r=>
  by_cases h:x=c
  ·subst h;rw[ZGY];simp
  ·rw[ZHq r h];exact Nat.le_refl _
def ZXZ(s:Str)(c:UInt8):(Go.Lib.cut s [c]).1.length<=s.length/\(Go.Lib.cut s [c]).2.1.length<=s.length:=by
 rcases ZQ2 s c with ⟨_,_,e⟩ | ⟨p,r,h,_,_,e⟩
 ·rw[e];simp
 ·rw[e,h];simp;omega
def ZXa(f1 f2 f3)(s:Str)(x k a b:Int)(n:Nat)(K):ZAD (s189_2 f1 f2 f3 G21) (n+3) (s,x,k,[a,b],2,0,()) K=
  (G21 (a,())).bind λx2=>cond (decide (x2.1=s)) (some (a,true,())) ((G21 (b,())).bind λx2=>cond (decide (x2.1=s)) (some (b,true,())) (K (s,x,k,[a,b],2,2,()))):=by kernel_rfl
def ZJd(s:Str)(hs:s.length<=1048576):G189 (s,())=some ((ZAg s).1,(ZAg s).2,()):=by
 unfold G189 F189
 have hu:=ZRM 45 s
 have hc:=ZXZ (ZBr 45 s) 46
 simp only[ZRH,al_bind_some,ZMU (ZBr 45 s) [46] (by omega),ZGe _ (show(Go.Lib.cut (ZBr 45 s) [46]).1.length<=1048576 by omega)]
 rcases ZFX (Go.Lib.cut (ZBr 45 s) [46]).1 with hn | ⟨n,hn9,e,hn⟩
 ·rw[hn]
  have:ZAg s=(0,false):=ZFa λx hx e=>by
   obtain⟨n,k,t,h1,_,_,h4,_⟩:=ZJY hx
   rw[e]at h4
   rw[h4,ZCf (by omega)]at hn
   cases hn
  rw[this];rfl
 ·rw[hn]
  simp only[ZAG,ZAK,al_cond_true]
  by_cases h3:(Go.Lib.cut (ZBr 45 s) [46]).2.1.length<=3
  ·rw[ZAA]
   have e8:w64 (8*(n:Int))=8*(n:Int):=ZAC
   rw[e8]
   have hne:s≠[]:=by
    rintro rfl
    exact ZJV hn9 e.symm
   have run:=ZJc (f:=s189_0 G190 G96 G99 G21) (K:=λ_=>some ((0:Int),false,()))
    (λk=>(s,8*(n:Int),(k:Int),())) (λk=>decide (ZAQ (8*(n:Int)+k)=s) || decide (ZAQ (-(8*(n:Int)) -k)=s)) (λk=>some (if ZAQ (8*(n:Int)+k)=s then 8*(n:Int)+k else-(8*(n:Int)) -k,true,())) 8 (by omega)
    (by
     intro k hk rec K
     simp only[s189_0]
     rw[ZA]
     have w1:w64 (8*(n:Int)+k)=8*(n:Int)+k:=ZAC
     have w2:w64 (0-8*(n:Int))= -(8*(n:Int)):=by rw[ZAC];omega
     have w3:w64 (-(8*(n:Int)) -k)= -(8*(n:Int)) -k:=ZAC
     have w4:w64 ((k:Int)+1)=((k+1:Nat):Int):=ZAC
     rw[w1,w2,w3]
     obtain⟨m,hm⟩:=ZB0 3 (by omega)
     rw[hm]
     have hl:(Int.ofNat ([8*(n:Int)+k,-(8*(n:Int)) -k]:List Int).length)=2:=rfl
     rw[hl]
     refine(ZXa _ _ _ s _ _ _ _ m _).trans ?_
     have f1: ∀y,G21 (y,())=some (ZAQ y,()):=fmI
     simp only[f1,al_bind_some,w4]
     by_cases h1:ZAQ (8*(n:Int)+k)=s
     ·rw[ZAH h1,al_if_pos h1];rfl
     ·rw[ZAE h1,al_if_neg h1]
      by_cases h2:ZAQ (-(8*(n:Int)) -k)=s
      ·rw[ZAH h2];rfl
      ·rw[ZAE h2];rfl)
    (by
     intro rec K
     simp only[s189_0]
     rw[ZAA])
   rcases run with ⟨k,hk,hh,hr⟩ | ⟨hh,hr⟩
   ·refine hr.trans ?_
    by_cases h1:ZAQ (8*(n:Int)+k)=s
    ·rw[al_if_pos h1,ZMJ hne h1]
    ·rw[ZAE h1,Bool.false_or]at hh
     rw[al_if_neg h1,ZMJ hne (of_decide_eq_true hh)]
   ·refine hr.trans ?_
    have:ZAg s=(0,false):=ZFa λx hx ex=>by
     obtain⟨n',k,t,g1,g2,g3,g4,g5,g6,g7⟩:=ZJY hx
     rw[ex]at g4
     have hnn:n'=n:=by
      have a1:=ZCf (n:=n') (by omega)
      rw[<-g4,hn]at a1
      have:=(Prod.mk.injEq ..▸a1).1
      omega
     subst hnn
     have:=hh k g2
     rw[Bool.or_eq_false_iff]at this
     by_cases h0:x<0
     ·rw[al_if_pos h0]at g7
      have e2: -(8*(n':Int)) -(k:Int)=x:=by omega
      rw[e2,ZAH ex]at this
      cases this.2
     ·rw[al_if_neg h0]at g7
      rw[<-g7,ZAH ex]at this
      cases this.1
    rw[this]
  ·rw[ZA]
   have:ZAg s=(0,false):=ZFa λx hx e=>by
    obtain⟨n,k,t,h1,_,h2,h4,h5,_⟩:=ZJY hx
    rw[e]at h5
    rw[h5]at h3
    exact h3 h2
   rw[this]
def ZRN(s:Str)(hne:s≠[])(mi:Bool)(n:Nat)(hn9:n<=999)(hk: ∀x,wi x (-4096) 4096=true->s=ZAQ x-> ∃k:Nat,k<8/\x=if mi=true then-(8*(n:Int)+k)else 8*(n:Int)+k):
  ZAD (s250_0 G41 G144 G147) fuel (s,mi,(n:Int),true,0,()) (λx5=>some ((0:Int),false,()))=some ((ZAg s).1,(ZAg s).2,()):=by
 have run:=ZJc (f:=s250_0 G41 G144 G147) (K:=λ_=>some ((0:Int),false,()))
  (λk=>(s,mi,(n:Int),true,(k:Int),())) (λk=>decide (ZAQ (if mi=true then-(8*(n:Int)+k)else 8*(n:Int)+k)=s)) (λk=>some (if mi=true then-(8*(n:Int)+k)else 8*(n:Int)+k,true,())) 8 (by omega)
  (by
   intro k hk rec K
   simp only[s250_0,al_cond_true]
   rw[ZA]
   have w0:w64 (8*(n:Int))=8*(n:Int):=ZAC
   have w1:w64 (8*(n:Int)+k)=8*(n:Int)+k:=ZAC
   have w3:w64 (0-(8*(n:Int)+k))= -(8*(n:Int)+k):=by rw[ZAC];omega
   have w4:w64 ((k:Int)+1)=((k+1:Nat):Int):=ZAC
   have f1: ∀y,G147 (y,())=some (ZAQ y,()):=fmS
   simp only[w0,w1,w3,w4,f1,al_bind_some]
   cases mi
   ·simp only[al_cond_false,Bool.false_eq_true,if_false]
   ·simp only[al_cond_true,if_true])
  (by
   intro rec K
   simp only[s250_0]
   rw[ZAA])
 rcases run with ⟨k,hk',hh,hr⟩ | ⟨hh,hr⟩
 ·refine hr.trans ?_
  rw[ZMJ hne (of_decide_eq_true hh)]
 ·refine hr.trans ?_
  have:ZAg s=(0,false):=ZFa λx hx ex=>by
   obtain⟨k,h1,h2⟩:=hk x hx ex.symm
   have:=hh k h1
   rw[<-h2,ZAH ex]at this
   cases this
  rw[this]
def ZMV(s:Str)(mi:Bool)(n:Int):ZAD (s250_0 G41 G144 G147) fuel (s,mi,n,false,0,()) (λx5=>some ((0:Int),false,()))=some (0,false,()):=by
 obtain⟨m,hm⟩:=ZB0 3 (by omega)
 rw[hm,ZAS]
 simp only[s250_0]
 rfl
def ZHt(s:Str)(hs:s.length<=1048576):G250 (s,())=some ((ZAg s).1,(ZAg s).2,()):=by
 unfold G250 F250
 cases e:splC 46 s with
 | nil=>exact absurd e (ZCJ 46 s)
 | cons w ws=>
  have hw:=(ZD6 46 s w (by rw[e];simp)).2
  have hsp:G41 (s,[46],())=some (w::ws,()):=by rw[ZHs s 46 hs,e]
  have g0:(w::ws)[(Int.toNat 0)]?=some w:=rfl
  simp only[hsp,al_bind_some,rd0,g0]
  have head: ∀x,wi x (-4096) 4096=true->s=ZAQ x-> ∃(n k:Nat),n<=512/\k<8/\w=(if x<0 then 45::Go.Lib.itoa n else Go.Lib.itoa n)/\x=(if x<0 then-(8*(n:Int)+k)else 8*(n:Int)+k):=λx hx ex=>by
   obtain⟨n,k,t,g1,g2,g3,g4,g5,⟨r,g6⟩,g7⟩:=ZJY hx
   rw[<-ex,e]at g6
   exact⟨n,k,g1,g2,(List.cons.inj g6).1,g7⟩
  cases w with
  | nil=>
   have:ZAg s=(0,false):=ZFa λx hx ex=>by
    obtain⟨n,k,g1,g2,g3,g4⟩:=head x hx ex.symm
    split at g3
    ·cases g3
    ·exact ZJV (by omega) g3.symm
   rw[ZAA,this,show G144 (([]:Str),())=some (0,false,())from by rw[ZFZ [] (by simp)];rfl]
   simp only[al_bind_some]
   exact ZMV s false 0
  | cons x r=>
   rw[ZA (by simp only[al_len_cons,ZAT];omega),rd0]
   have hne:s≠[]:=by
    rintro rfl
    cases e
   by_cases hx:x=45
   ·subst hx
    have hd:decide ((Int.ofNat (UInt8.toNat 45))=45)=true:=rfl
    rw[hd,al_cond_true,ZBT ⟨by decide,by simp only[al_len_cons];omega⟩]
    have hdr:List.drop (Int.toNat 1) ((45:UInt8)::r)=r:=rfl
    have hr:r.length<=1048576:=by simp at hw;omega
    rw[hdr,ZFZ r hr]
    simp only[al_bind_some]
    rcases ZFX r with hn | ⟨n,hn9,er,hn⟩
    ·rw[hn,ZMV]
     have:ZAg s=(0,false):=ZFa λy hy ey=>by
      obtain⟨n,k,g1,g2,g3,g4⟩:=head y hy ey.symm
      split at g3
      ·have:=(List.cons.inj g3).2
       rw[this,ZCf (by omega)]at hn
       cases hn
      ·have:=ZGX (n:=n) (by omega) 45 (by rw[<-g3];simp)
       exact(ZHp this).2.1 rfl
     rw[this]
    ·rw[hn]
     refine ZRN s hne true n hn9 λy hy ey=> ?_
     obtain⟨n',k,g1,g2,g3,g4⟩:=head y hy ey
     by_cases h0:y<0
     ·rw[al_if_pos h0]at g3 g4
      have g5:=(List.cons.inj g3).2
      have a1:=ZCf (n:=n') (by omega)
      rw[<-g5,hn]at a1
      have:(n:Int)=n':=(Prod.mk.injEq ..▸a1).1
      exact⟨k,g2,by rw[al_if_pos rfl,this];exact g4⟩
     ·rw[al_if_neg h0]at g3
      have:=ZGX (n:=n') (by omega) 45 (by rw[<-g3];simp)
      exact absurd rfl (ZHp this).2.1
   ·have hd:decide ((Int.ofNat (UInt8.toNat x))=45)=false:=ZAE λe=>hx (by
     simp only[ZAT]at e
     exact UInt8.toNat_inj.1 (show x.toNat=45 by omega))
    rw[hd,al_cond_false,ZFZ _ (by omega)]
    simp only[al_bind_some]
    rcases ZFX (x::r)with hn | ⟨n,hn9,er,hn⟩
    ·rw[hn,ZMV]
     have:ZAg s=(0,false):=ZFa λy hy ey=>by
      obtain⟨n,k,g1,g2,g3,g4⟩:=head y hy ey.symm
      split at g3
      ·exact hx (List.cons.inj g3).1
      ·rw[g3,ZCf (by omega)]at hn
       cases hn
     rw[this]
    ·rw[hn]
     refine ZRN s hne false n hn9 λy hy ey=> ?_
     obtain⟨n',k,g1,g2,g3,g4⟩:=head y hy ey
     by_cases h0:y<0
     ·rw[al_if_pos h0]at g3
      exact absurd (List.cons.inj g3).1 hx
     ·rw[al_if_neg h0]at g3 g4
      have a1:=ZCf (n:=n') (by omega)
      rw[<-g3,hn]at a1
      have:(n:Int)=n':=(Prod.mk.injEq ..▸a1).1
      exact⟨k,g2,by rw[al_if_neg (by simp),this];exact g4⟩
end Ev
end
noncomputable section
namespace Ev
open Go
def ZMW{s:Str}(h: ∀p,isPl p=true->ZAm p≠s):ZAR s=(⟨0,0⟩,false):=by
 rcases ZMM s with ⟨e,_⟩ | ⟨x,hx,e,_⟩
 ·exact e
 ·exact absurd e.symm (h x hx)
def ZMX{p:Place}(h:isPl p=true):wi p.X (-4096) 4096=true/\wi p.Y (-4096) 4096=true:=Bool.and_eq_true_iff.mp (show(wi p.X (-4096) 4096 && wi p.Y (-4096) 4096)=true from h)
def ZJe{p:Place}{s:Str}(h:isPl p=true)(hs:s=ZAm p): ∃at_:Nat,1<=at_/\at_+2<=s.length/\ZAV s=at_/\s.take at_=ZAQ p.X/\ZBr 43 ((s.take (s.length-1)).drop at_)=ZAQ p.Y/\s[s.length-1]?=some 105/\
  (s[at_]?=some 43->(s.take (s.length-1)).drop (at_+1)=ZAQ p.Y)/\(s[at_]?≠some 43->(s.take (s.length-1)).drop at_=ZAQ p.Y):=by
 obtain⟨hX,hY⟩:=ZMX h
 obtain⟨c,r,e,hc,hr,hu⟩:=ZGZ h
 have hl:=ZMK h
 rw[<-hs]at hl
 rw[<-hs]at e
 have hne:=ZXI hX
 have hlen:s.length=(ZAQ p.X).length+(r.length+2):=by rw[e];simp
 have htk:s.take (s.length-1)=ZAQ p.X++c::r:=by
  have e2:s=(ZAQ p.X++c::r)++[105]:=by rw[e];simp
  have e3:s.length-1=(ZAQ p.X++c::r).length:=by rw[hlen];simp<;>omega
  rw[e3]
  conv=>lhs;rw[e2]
  exact List.take_left' rfl
 have hdr:(s.take (s.length-1)).drop (ZAQ p.X).length=c::r:=by rw[htk];exact List.drop_left' rfl
 have hdr1:(s.take (s.length-1)).drop ((ZAQ p.X).length+1)=r:=by rw[<-List.drop_drop,hdr];rfl
 have hat:s[(ZAQ p.X).length]?=some c:=by rw[e,List.getElem?_append_right (Nat.le_refl _),Nat.sub_self];rfl
 refine⟨(ZAQ p.X).length,List.length_pos_iff.mpr hne,by omega,hl,by rw[e];exact List.take_left' rfl,by rw[hdr];exact hu,?_,λh1=> ?_,λh1=> ?_⟩
 ·have e2:s=(ZAQ p.X++c::r)++[105]:=by rw[e];simp
  have e3:s.length-1=(ZAQ p.X++c::r).length:=by rw[hlen];simp<;>omega
  rw[e3]
  conv=>lhs;rw[e2]
  rw[List.getElem?_append_right (Nat.le_refl _),Nat.sub_self];rfl
 ·rw[hat]at h1
  cases h1
  rw[hdr1,<-hu,ZGY]
 ·rw[hat]at h1
  rw[hdr,<-hu,ZHq r (λe=>h1 (by rw[e]))]
def ZXb(s:Str)(hs:s.length<=1048576):G188 (s,[43,45],())=some (ZAV s,()):=by
 show ZIx (s,[43,45],())=_
 unfold ZIx
 rw[al_if_pos ⟨rfl,by show s.length<_;omega⟩]
def ZGf(s:Str)(hs:s.length<=1048576):G100 (s,())=some ((ZAR s).1,(ZAR s).2,()):=by
 unfold G100 F100
 rw[ZXb s hs]
 simp only[al_bind_some]
 have hge:=ZLQ s
 by_cases h1:ZAV s<1
 ·have:ZAR s=(⟨0,0⟩,false):=ZMW λp hp e=>by
   obtain⟨k,a1,_,a3,_⟩:=ZJe hp e.symm
   omega
  rw[ZAH h1,this];rfl
 ·rw[ZAE h1]
  simp only[ZAK,al_cond_true]
  obtain⟨k,hk⟩: ∃k:Nat,ZAV s=k:=⟨(ZAV s).toNat,by omega⟩
  rw[hk]at h1 hge⊢
  have hw:w64 (Int.ofNat s.length-1)=((s.length-1:Nat):Int):=by rw[ZAC (by simp only[ZAT];omega) (by simp only[ZAT];omega)];simp only[ZAT];omega
  rw[hw]
  have hlast:s[s.length-1]?=some (s[s.length-1]'(by omega)):=al_get_get (by omega)
  generalize s[s.length-1]'(by omega)=z at hlast
  rw[ZAF hlast]
  by_cases hz:z=105
  ·subst hz
   have hd:decide ((Int.ofNat (UInt8.toNat 105))=105)=true:=rfl
   rw[hd]
   simp only[ZAG,al_cond_false,ZAW]
   have l1:(s.take k).length<=1048576:=by rw[al_len_take];omega
   have l2:(ZBr 43 ((s.take (s.length-1)).drop k)).length<=1048576:=by
    have:=ZRM 43 ((s.take (s.length-1)).drop k)
    rw[List.length_drop,al_len_take]at this
    omega
   rw[ZBT ⟨by omega,by omega⟩,ZJd _ l1]
   simp only[al_bind_some]
   rw[ZBT ⟨by omega,by omega,by omega⟩,ZRH]
   simp only[al_bind_some]
   rw[ZJd _ l2]
   simp only[al_bind_some]
   have f1: ∀p,G55 (p,())=some (ZAm p,()):=fpI
   rcases ZMM s with ⟨hn,hno⟩ | ⟨p,hp,hs',hn⟩
   ·rw[hn]
    cases (ZAg (s.take k)).2
    ·rfl
    ·simp only[ZAG,ZAK,al_cond_true]
     cases (ZAg (ZBr 43 ((s.take (s.length-1)).drop k))).2
     ·rfl
     ·simp only[ZAG,ZAK,al_cond_true,f1,al_bind_some]
      have hne: ¬ZAm ⟨(ZAg (s.take k)).1,(ZAg (ZBr 43 ((s.take (s.length-1)).drop k))).1⟩=s:=λe=>by
       have:=ZQ9 (by rintro rfl;simp at hge;omega) e
       rw[hn]at this
       exact absurd (congrArg Prod.snd this) (by simp)
      rw[ZAE hne];rfl
   ·obtain⟨k',a1,a2,a3,a4,a5,_⟩:=ZJe hp hs'
    have:k'=k:=by omega
    subst this
    obtain⟨hX,hY⟩:=ZMX hp
    rw[hn,a4,a5,ZDX hX,ZDX hY]
    simp only[ZAG,ZAK,al_cond_true,f1,al_bind_some]
    rw[ZAH (show ZAm ⟨p.X,p.Y⟩=s from hs'.symm)];rfl
  ·have hd:decide ((Int.ofNat (UInt8.toNat z))=105)=false:=ZAE λe=>hz (by
    simp only[ZAT]at e
    exact UInt8.toNat_inj.1 (show z.toNat=105 by omega))
   have:ZAR s=(⟨0,0⟩,false):=ZMW λp hp e=>by
    obtain⟨k,_,_,_,_,_,a6,_⟩:=ZJe hp e.symm
    rw[hlast]at a6
    cases a6
    exact hz rfl
   rw[hd,this];rfl
def ZEq(s:Str)(i:Nat):Nat:=if s[i]?=some 43 then i+1 else i
def ZEr(s:Str)(i:Nat):Place:=⟨(ZAg (s.take i)).1,(ZAg ((s.take (s.length-1)).drop (ZEq s i))).1⟩
def ZJf(s:Str)(i:Nat):Bool:=(ZAg (s.take i)).2 && ((ZAg ((s.take (s.length-1)).drop (ZEq s i))).2 && decide (ZAm (ZEr s i)=s))
def ZMY(s:Str)(hs:s.length<=1048576):G149 (s,())=some ((ZAR s).1,(ZAR s).2,()):=by
 unfold G149 F149
 have f1: ∀p,G88 (p,())=some (ZAm p,()):=fpS
 have run:=ZJc (f:=s149_0 G250 G88) (K:=λ_=>some ((⟨0,0⟩:Place),false,()))
  (λk=>(s,(⟨0,0⟩:Place),((k+1:Nat):Int),())) (λk=>ZJf s (k+1)) (λk=>some (ZEr s (k+1),true,())) (s.length-2) (by omega)
  (by
   intro k hk rec K
   have w1:w64 (((k+1:Nat):Int)+1)=((k+1+1:Nat):Int):=ZAC
   have w2:w64 (Int.ofNat s.length-1)=((s.length-1:Nat):Int):=by rw[ZAC (by simp only[ZAT];omega) (by simp only[ZAT];omega)];simp only[ZAT];omega
   have hx:s[k+1]?=some (s[k+1]'(by omega)):=al_get_get (by omega)
   generalize s[k+1]'(by omega)=z at hx
   simp only[s149_0,w1,w2,ZAW]
   rw[ZA (by simp only[ZAT];omega),ZBT ⟨by omega,by omega⟩,ZHt _ (by rw[al_len_take];omega)]
   simp only[al_bind_some,ZAF hx]
   unfold ZJf
   by_cases hz:z=43
   ·have hfr:ZEq s (k+1)=k+1+1:=by unfold ZEq;rw[hx,hz,al_if_pos rfl]
    have hd:decide ((Int.ofNat (UInt8.toNat z))=43)=true:=by rw[hz];rfl
    rw[hd,al_cond_true,ZBT ⟨by omega,by omega,by omega⟩,ZHt _ (by rw[List.length_drop,al_len_take];omega)]
    have ht:ZEr s (k+1)=⟨(ZAg (s.take (k+1))).1,(ZAg ((s.take (s.length-1)).drop (k+1+1))).1⟩:=by unfold ZEr;rw[hfr]
    rw[ht,hfr]
    simp only[al_bind_some,f1]
    cases (ZAg (s.take (k+1))).2
    ·rfl
    ·simp only[al_cond_true,Bool.true_and]
     cases (ZAg ((s.take (s.length-1)).drop (k+1+1))).2
     ·rfl
     ·simp only[al_cond_true,Bool.true_and]
   ·have hfr:ZEq s (k+1)=k+1:=by unfold ZEq;rw[hx,al_if_neg (λe=>hz (Option.some.inj e))]
    have hd:decide ((Int.ofNat (UInt8.toNat z))=43)=false:=ZAE λe=>hz (by
     simp only[ZAT]at e
     exact UInt8.toNat_inj.1 (show z.toNat=43 by omega))
    rw[hd,al_cond_false,ZBT ⟨by omega,by omega,by omega⟩,ZHt _ (by rw[List.length_drop,al_len_take];omega)]
    have ht:ZEr s (k+1)=⟨(ZAg (s.take (k+1))).1,(ZAg ((s.take (s.length-1)).drop (k+1))).1⟩:=by unfold ZEr;rw[hfr]
    rw[ht,hfr]
    simp only[al_bind_some,f1]
    cases (ZAg (s.take (k+1))).2
    ·rfl
    ·simp only[al_cond_true,Bool.true_and]
     cases (ZAg ((s.take (s.length-1)).drop (k+1))).2
     ·rfl
     ·simp only[al_cond_true,Bool.true_and])
  (by
   intro rec K
   have w1:w64 (((s.length-2+1:Nat):Int)+1)=((s.length-2+1+1:Nat):Int):=ZAC
   simp only[s149_0,w1]
   rw[ZAA (by simp only[ZAT];omega)])
 rcases run with ⟨k,hk,hh,hr⟩ | ⟨hh,hr⟩
 ·refine hr.trans ?_
  unfold ZJf at hh
  simp only[ZAJ,ZAX]at hh
  rw[ZQ9 (by rintro rfl;simp at hk) hh.2.2]
 ·refine hr.trans ?_
  have:ZAR s=(⟨0,0⟩,false):=ZMW λp hp e=>by
   obtain⟨at_,a1,a2,a3,a4,a5,a6,a7,a8⟩:=ZJe hp e.symm
   obtain⟨hX,hY⟩:=ZMX hp
   have:=hh (at_-1) (by omega)
   rw[show at_-1+1=at_ by omega]at this
   have hY':(s.take (s.length-1)).drop (ZEq s at_)=ZAQ p.Y:=by
    unfold ZEq
    by_cases h43:s[at_]?=some 43
    ·rw[al_if_pos h43];exact a7 h43
    ·rw[al_if_neg h43];exact a8 h43
   have ht:ZEr s at_=p:=by
    unfold ZEr
    rw[hY',a4,ZDX hX,ZDX hY]
   unfold ZJf at this
   rw[ht,hY',a4,ZDX hX,ZDX hY,ZAH e]at this
   cases this
  rw[this]
end Ev
end
noncomputable section
namespace Ev
open Go
def ZBP{s:Str}(h:isNm s=true):s.length<=8:=by
 obtain⟨_,h2⟩:=Bool.and_eq_true_iff.mp (show(nm 0 s && wi (Int.ofNat s.length) 1 8)=true from h)
 have:=(ZAj.1 h2).2
 simp only[ZAT]at this;omega
def ZE{n:Nat}(h:n<=999):(Go.Lib.itoa n).length<=3:=by
 rw[ZFW h]
 split
 ·simp
 ·split<;>simp
def ZRO(a m:Str):(([112,117,109,112,32]++a)++[32,109,111,115,116,32])++m=ZAl 32 [ZD7,a,ZGc,m]:=by simp[ZAl,ZD7,ZGc]
def ZRP(a l p h t m:Str):(((((((((([110,111,122,122,108,101,32]++a)++[32,111,110,32])++l)++[32,97,116,32])++p)++[32,104,101,97,100,105,110,103,32])++h)++[32,116,105,108,116,32])++t)++[32,109,111,115,116,32])++m=ZAl 32 [ZD8,a,onW,l,atW,p,ZMN,h,ZMO,t,ZGc,m]:=by
 simp[ZAl,ZD8,onW,atW,ZMN,ZMO,ZGc]
def ZRQ(a l p:Str):(((([108,97,109,112,32]++a)++[32,111,110,32])++l)++[32,97,116,32])++p=ZAl 32 [ZD9,a,onW,l,atW,p]:=by simp[ZAl,ZD9,onW,atW]
def fdI(d:Device)(h1:d.Name.length<=1048576)(h2:d.Line.length<=1048576):G191 (d,())=some (ZBY d,()):=by
 have hb:G192 (d,())=some (devB d,()):=(ZC1 d h1 h2).2
 unfold G191 F191 ZBY
 rw[hb]
 simp only[al_bind_some]
 cases hk:devB d
 ·rfl
 ·have K:=ZC7 hk
  have l1:=ZBP K.nm
  have l2:=ZBg d.Most
  have l3:=ZBg d.Tilt
  have l4:=ZCI d.At
  simp only[ZAG,al_cond_false,if_true,fmI,fpI,al_bind_some]
  unfold ZB8
  rcases K.k with ⟨k,_⟩ | ⟨k,hl,_,⟨n,e,hn9⟩,_⟩ | ⟨k,hl,_⟩
  ·rw[ZA k,al_if_pos k]
   simp only[al_len_append,al_len_cons,al_len_nil]
   rw[ZAB,ZAB,ZAB,ZRO]
  ·have l5:=ZBP hl
   have l6:=ZE hn9
   rw[ZAA,ZA k,al_if_neg,al_if_pos k,e,numI (by omega) (by omega)]
   simp only[al_len_append,al_len_cons,al_len_nil,al_bind_some]
   rw[ZAB,ZAB,ZAB,ZAB,ZAB,ZAB,ZAB,ZAB,ZAB,ZAB,ZAB,ZRP]
  ·have l5:=ZBP hl
   rw[ZAA,ZAA,al_if_neg,al_if_neg]
   simp only[al_len_append,al_len_cons,al_len_nil]
   rw[ZAB,ZAB,ZAB,ZAB,ZAB,ZRQ]
def fdS(d:Device)(h1:d.Name.length<=1048576)(h2:d.Line.length<=1048576):G77 (d,())=some (ZBY d,()):=by
 have hb:G169 (d,())=some (devB d,()):=(ZC1 d h1 h2).1
 unfold G77 F77 ZBY
 rw[hb]
 simp only[al_bind_some]
 cases hk:devB d
 ·rfl
 ·have K:=ZC7 hk
  have l1:=ZBP K.nm
  have l2:=ZBg d.Most
  have l3:=ZBg d.Tilt
  have l4:=ZCI d.At
  simp only[ZAG,al_cond_false,if_true,fmS,fpS,al_bind_some]
  unfold ZB8
  rcases K.k with ⟨k,_⟩ | ⟨k,hl,_,⟨n,e,hn9⟩,_⟩ | ⟨k,hl,_⟩
  ·rw[ZA k,al_if_pos k]
   simp only[al_len_append,al_len_cons,al_len_nil]
   rw[ZAB,ZAB,ZAB,ZRO]
  ·have l5:=ZBP hl
   have l6:=ZE hn9
   rw[ZAA,ZA k,al_if_neg,al_if_pos k,e,numS (by omega) (by omega)]
   simp only[al_len_append,al_len_cons,al_len_nil,al_bind_some]
   rw[ZAB,ZAB,ZAB,ZAB,ZAB,ZAB,ZAB,ZAB,ZAB,ZAB,ZAB,ZRP]
  ·have l5:=ZBP hl
   rw[ZAA,ZAA,al_if_neg,al_if_neg]
   simp only[al_len_append,al_len_cons,al_len_nil]
   rw[ZAB,ZAB,ZAB,ZAB,ZAB,ZRQ]
def ZRR(t n l:Str):(((t++[32])++n)++[32])++l=ZAl 32 [t,n,l]:=by simp[ZAl]
def ZXc(t n l r:Str):(((((t++[32])++n)++[32])++l)++[32,105,110,32])++r=ZAl 32 [t,n,l,inW,r]:=by simp[ZAl,inW]
def ZXd(t n l r:Str):((((t++[32])++n)++[32])++l)++([32,105,110,32]++r)=ZAl 32 [t,n,l,inW,r]:=by simp[ZAl,inW]
def fcI(c:Cue)(h:c.Name.length<=1048576):G198 (c,())=some (ZBO c,()):=by
 have hb:G199 (c,())=some (ZAz c,()):=cueI c h
 unfold G198 F198 ZBO
 rw[hb]
 simp only[al_bind_some]
 cases hk:ZAz c
 ·rfl
 ·have K:=ZEp hk
  obtain⟨n,e,hn⟩:=K.t
  obtain⟨m,f,hm⟩:=K.r
  have l1:=ZBP K.nm
  have l2:=ZBg c.Level
  have l3:=ZE hn
  have l4:=ZE hm
  simp only[ZAG,al_cond_false,if_true,fmI,al_bind_some,e,f,numI (n:=(n:Int)) (by omega) (by omega),numI (n:=(m:Int)) (by omega) (by omega)]
  unfold ZCU
  rw[e,f]
  simp only[al_len_append,al_len_cons,al_len_nil]
  rw[ZAB,ZAB,ZAB,ZAB]
  by_cases h0:((m:Nat):Int)=0
  ·rw[ZAH h0,al_if_pos h0]
   simp only[ZAG,al_cond_false]
   rw[ZRR]
  ·rw[ZAE h0,al_if_neg h0]
   simp only[ZAK,al_cond_true]
   rw[ZAB,ZAB,ZXd]
def fcS(c:Cue)(h:c.Name.length<=1048576):G80 (c,())=some (ZBO c,()):=by
 have hb:G171 (c,())=some (ZAz c,()):=cueS c h
 unfold G80 F80 ZBO
 rw[hb]
 simp only[al_bind_some]
 cases hk:ZAz c
 ·rfl
 ·have K:=ZEp hk
  obtain⟨n,e,hn⟩:=K.t
  obtain⟨m,f,hm⟩:=K.r
  have l1:=ZBP K.nm
  have l2:=ZBg c.Level
  have l3:=ZE hn
  have l4:=ZE hm
  simp only[ZAG,al_cond_false,if_true,fmS,al_bind_some,e,f,numS (n:=(n:Int)) (by omega) (by omega),numS (n:=(m:Int)) (by omega) (by omega)]
  unfold ZCU
  rw[e,f]
  simp only[al_len_append,al_len_cons,al_len_nil]
  rw[ZAB,ZAB,ZAB,ZAB]
  by_cases h0:((m:Nat):Int)=0
  ·rw[ZAA,al_if_pos h0,ZRR]
  ·rw[ZA,al_if_neg h0,ZAB,ZAB,ZXc]
def ZC8{s:Str}{i:Nat} :(wAt (splC 32 s) i).length<=s.length:=by
 unfold wAt
 cases h:(splC 32 s)[i]? with
 | none=>simp
 | some w=>exact(ZD6 32 s w (al_mem_get h)).2
def ZBh{w:List Str}{i:Nat}(h:i<w.length):w[i]?=some (wAt w i):=by
 unfold wAt
 rw[al_get_get h];rfl
def rdW{R:Type}{w:List Str}(i:Nat)(h:i<w.length){K:Str->Option R} :rdL w (i:Int) K=K (wAt w i):=ZAF (ZBh h)
abbrev ZD:Device:=⟨[],0,[],⟨0,0⟩,0,0,0⟩
def endT{α:Type}(T:α->Str)(z:α)(s:Str)(d:α):α×Bool:=if s≠[]/\T d=s then(d,true)else(z,false)
def endI(s:Str)(d:Device)(h1:d.Name.length<=1048576)(h2:d.Line.length<=1048576):cond (!(decide (s=[]))) ((G191 (d,())).bind λx=>cond (!decide (x.1=s)) (some (ZD,false,())) (some (d,true,()))) (some (ZD,false,()))=some ((endT ZBY ZD s d).1,(endT ZBY ZD s d).2,()):=by
 unfold endT
 rw[fdI d h1 h2]
 by_cases h0:s=[]
 ·rw[ZAH h0,al_if_neg (λh=>h.1 h0)];rfl
 ·rw[ZAE h0]
  simp only[ZAK,al_cond_true,al_bind_some]
  by_cases h:ZBY d=s
  ·rw[ZAH h,al_if_pos ⟨h0,h⟩];rfl
  ·rw[ZAE h,al_if_neg (λk=>h k.2)];rfl
def endS(s:Str)(d:Device)(h1:d.Name.length<=1048576)(h2:d.Line.length<=1048576):cond (!(decide (s=[]))) ((G77 (d,())).bind λx=>cond (!decide (x.1=s)) (some (ZD,false,())) (some (d,true,()))) (some (ZD,false,()))=some ((endT ZBY ZD s d).1,(endT ZBY ZD s d).2,()):=by
 unfold endT
 rw[fdS d h1 h2]
 by_cases h0:s=[]
 ·rw[ZAH h0,al_if_neg (λh=>h.1 h0)];rfl
 ·rw[ZAE h0]
  simp only[ZAK,al_cond_true,al_bind_some]
  by_cases h:ZBY d=s
  ·rw[ZAH h,al_if_pos ⟨h0,h⟩];rfl
  ·rw[ZAE h,al_if_neg (λk=>h k.2)];rfl
theorem ZXe(s:Str):devP s=endT ZBY ZD s (ZBK (splC 32 s)):=rfl
def ZXf(s:Str):endT ZBY ZD s (ZCL (splC 32 s))=devP s:=ZXO s
def ZXg(s:Str)(hs:s.length<=1048576):G101 (s,())=some ((devP s).1,(devP s).2,()):=by
 unfold G101 F101
 rw[ZGd s 32 hs,ZXe]
 simp only[al_bind_some]
 have hw: ∀i,(wAt (splC 32 s) i).length<=1048576:=λi=>Nat.le_trans ZC8 hs
 generalize splC 32 s=w at hw
 have hm:=λi=>ZJd (wAt w i) (hw i)
 have hp:=λi=>ZGf (wAt w i) (hw i)
 have hn:=λi=>ZGe (wAt w i) (hw i)
 have z1:=endI s ZD (by simp) (by simp)
 by_cases l4:w.length=4
 ·have e4:decide ((Int.ofNat w.length)=4)=true:=ZAH (by rw[l4];rfl)
  have e12:decide ((Int.ofNat w.length)=12)=false:=ZAE (by rw[l4];decide)
  have e6:decide ((Int.ofNat w.length)=6)=false:=ZAE (by rw[l4];decide)
  have r0: ∀K:Str->Option (Device×Bool×Unit),rdL w 0 K=K (wAt w 0):=λK=>rdW 0 (by omega)
  have r1: ∀K:Str->Option (Device×Bool×Unit),rdL w 1 K=K (wAt w 1):=λK=>rdW 1 (by omega)
  have r3: ∀K:Str->Option (Device×Bool×Unit),rdL w 3 K=K (wAt w 3):=λK=>rdW 3 (by omega)
  have g0:w[(Int.toNat 0)]?=some (wAt w 0):=ZBh (by omega)
  have g1:w[(Int.toNat 1)]?=some (wAt w 1):=ZBh (by omega)
  have g3:w[(Int.toNat 3)]?=some (wAt w 3):=ZBh (by omega)
  simp only[e4,e12,e6,al_cond_true,al_cond_false,r0,r1,r3,g0,g1,g3,al_bind_some,hm]
  by_cases hpw:wAt w 0=ZD7
  ·have hd:decide (wAt w 0=[112,117,109,112])=true:=ZAH hpw
   rw[hd,al_cond_true]
   have:ZBK w=⟨wAt w 1,1,[],⟨0,0⟩,0,0,ZBJ (wAt w 3)⟩:=by unfold ZBK;rw[al_if_pos ⟨l4,hpw⟩]
   rw[this]
   exact endI s ⟨wAt w 1,1,[],⟨0,0⟩,0,0,ZBJ (wAt w 3)⟩ (hw 1) (by simp)
  ·have hd:decide (wAt w 0=[112,117,109,112])=false:=ZAE hpw
   rw[hd,al_cond_false]
   have:ZBK w=ZD:=by unfold ZBK;rw[al_if_neg (λh=>hpw h.2),al_if_neg (λh=>by omega),al_if_neg (λh=>by omega)]
   rw[this]
   exact z1
 ·have e4:decide ((Int.ofNat w.length)=4)=false:=ZAE (by simp only[ZAT];omega)
  by_cases l12:w.length=12
  ·have e12:decide ((Int.ofNat w.length)=12)=true:=ZAH (by rw[l12];rfl)
   have e6:decide ((Int.ofNat w.length)=6)=false:=ZAE (by rw[l12];decide)
   have r0: ∀K:Str->Option (Device×Bool×Unit),rdL w 0 K=K (wAt w 0):=λK=>rdW 0 (by omega)
   have r1: ∀K:Str->Option (Device×Bool×Unit),rdL w 1 K=K (wAt w 1):=λK=>rdW 1 (by omega)
   have r3: ∀K:Str->Option (Device×Bool×Unit),rdL w 3 K=K (wAt w 3):=λK=>rdW 3 (by omega)
   have r5: ∀K:Str->Option (Device×Bool×Unit),rdL w 5 K=K (wAt w 5):=λK=>rdW 5 (by omega)
   have r7: ∀K:Str->Option (Device×Bool×Unit),rdL w 7 K=K (wAt w 7):=λK=>rdW 7 (by omega)
   have r9: ∀K:Str->Option (Device×Bool×Unit),rdL w 9 K=K (wAt w 9):=λK=>rdW 9 (by omega)
   have r11: ∀K:Str->Option (Device×Bool×Unit),rdL w 11 K=K (wAt w 11):=λK=>rdW 11 (by omega)
   have g0:w[(Int.toNat 0)]?=some (wAt w 0):=ZBh (by omega)
   have g1:w[(Int.toNat 1)]?=some (wAt w 1):=ZBh (by omega)
   have g3:w[(Int.toNat 3)]?=some (wAt w 3):=ZBh (by omega)
   have g5:w[(Int.toNat 5)]?=some (wAt w 5):=ZBh (by omega)
   have g7:w[(Int.toNat 7)]?=some (wAt w 7):=ZBh (by omega)
   have g9:w[(Int.toNat 9)]?=some (wAt w 9):=ZBh (by omega)
   have g11:w[(Int.toNat 11)]?=some (wAt w 11):=ZBh (by omega)
   simp only[e4,e12,e6,al_cond_true,al_cond_false,r0,r1,r3,r5,r7,r9,r11,g0,g1,g3,g5,g7,g9,g11,al_bind_some,hm,hp,hn]
   by_cases hpw:wAt w 0=ZD8
   ·have hd:decide (wAt w 0=[110,111,122,122,108,101])=true:=ZAH hpw
    rw[hd,al_cond_true]
    have:ZBK w=⟨wAt w 1,2,wAt w 3,plV (wAt w 5),numV (wAt w 7),ZBJ (wAt w 9),ZBJ (wAt w 11)⟩:=by unfold ZBK;rw[al_if_neg (λh=>by omega),al_if_pos ⟨l12,hpw⟩]
    rw[this]
    exact endI s ⟨wAt w 1,2,wAt w 3,plV (wAt w 5),numV (wAt w 7),ZBJ (wAt w 9),ZBJ (wAt w 11)⟩ (hw 1) (hw 3)
   ·have hd:decide (wAt w 0=[110,111,122,122,108,101])=false:=ZAE hpw
    rw[hd,al_cond_false]
    have:ZBK w=ZD:=by unfold ZBK;rw[al_if_neg (λh=>by omega),al_if_neg (λh=>hpw h.2),al_if_neg (λh=>by omega)]
    rw[this]
    exact z1
  ·have e12:decide ((Int.ofNat w.length)=12)=false:=ZAE (by simp only[ZAT];omega)
   by_cases l6:w.length=6
   ·have e6:decide ((Int.ofNat w.length)=6)=true:=ZAH (by rw[l6];rfl)
    have r0: ∀K:Str->Option (Device×Bool×Unit),rdL w 0 K=K (wAt w 0):=λK=>rdW 0 (by omega)
    have r1: ∀K:Str->Option (Device×Bool×Unit),rdL w 1 K=K (wAt w 1):=λK=>rdW 1 (by omega)
    have r3: ∀K:Str->Option (Device×Bool×Unit),rdL w 3 K=K (wAt w 3):=λK=>rdW 3 (by omega)
    have r5: ∀K:Str->Option (Device×Bool×Unit),rdL w 5 K=K (wAt w 5):=λK=>rdW 5 (by omega)
    have g0:w[(Int.toNat 0)]?=some (wAt w 0):=ZBh (by omega)
    have g1:w[(Int.toNat 1)]?=some (wAt w 1):=ZBh (by omega)
    have g3:w[(Int.toNat 3)]?=some (wAt w 3):=ZBh (by omega)
    have g5:w[(Int.toNat 5)]?=some (wAt w 5):=ZBh (by omega)
    simp only[e4,e12,e6,al_cond_true,al_cond_false,r0,r1,r3,r5,g0,g1,g3,g5,al_bind_some,hp]
    by_cases hpw:wAt w 0=ZD9
    ·have hd:decide (wAt w 0=[108,97,109,112])=true:=ZAH hpw
     rw[hd,al_cond_true]
     have:ZBK w=⟨wAt w 1,3,wAt w 3,plV (wAt w 5),0,0,0⟩:=by unfold ZBK;rw[al_if_neg (λh=>by omega),al_if_neg (λh=>by omega),al_if_pos ⟨l6,hpw⟩]
     rw[this]
     exact endI s ⟨wAt w 1,3,wAt w 3,plV (wAt w 5),0,0,0⟩ (hw 1) (hw 3)
    ·have hd:decide (wAt w 0=[108,97,109,112])=false:=ZAE hpw
     rw[hd,al_cond_false]
     have:ZBK w=ZD:=by unfold ZBK;rw[al_if_neg (λh=>by omega),al_if_neg (λh=>by omega),al_if_neg (λh=>hpw h.2)]
     rw[this]
     exact z1
   ·have e6:decide ((Int.ofNat w.length)=6)=false:=ZAE (by simp only[ZAT];omega)
    simp only[e4,e12,e6,al_cond_false]
    have:ZBK w=ZD:=by unfold ZBK;rw[al_if_neg (λh=>by omega),al_if_neg (λh=>by omega),al_if_neg (λh=>by omega)]
    rw[this]
    exact z1
end Ev
end
