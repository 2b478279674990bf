/- Laid together by program (what the claim does not reach is left out): WetA, Text, TxtA, TxtB, TxtC, ParA, ParB, ParC, ParD, ParE. -/
import Derived.Test.YtoafhcjocdjkjaaGreatDoorZB10
import Derived.Lib.TrimByte
import Derived.Lib.SplitLaws
import Derived.Lib.Join
import Derived.Lib.ItoaNum
set_option linter.all false
set_option maxRecDepth 100000
open Go.Proofs.Tryz
noncomputable section
namespace Ev
open Go
def rotX(h:Int)(p:Place):Int:=(rotN (q4 (w64 (0-h))) p).X
def wdF(h:Int)(a p:Place):Place:=if rotX h p>rotX h a then p else a
def wdV(h:Int)(r:List Place):Place:=match r with
 | []=>⟨0,0⟩
 | p::_=>r.foldl (wdF h) p
theorem ZV0(p:Place)(h:Int):G355 (p,w64 (0-h),())=some (rotN (q4 (w64 (0-h))) p,()):=ZIg p _
theorem ZV1(p:Place)(h:Int):G220 (p,w64 (0-h),())=some (rotN (q4 (w64 (0-h))) p,()):=ZHA p _
theorem ZQ(r:List Place)(hr:r.length<=4)(h1:1<=r.length)(hv:G141 (r,())=some (true,())){h:Int}(hh:0<=h/\h<=3):G315 (r,h,())=some (wdV h r,()):=by
 obtain⟨p0,l,rfl⟩: ∃p l,r=p::l:=by
  cases r with
  | nil=>simp at h1
  | cons p l=>exact⟨p,l,rfl⟩
 unfold G315 F315
 dsimp only
 have hd:G354 (h,())=some (wi h 0 3,()):=ZKq h
 rw[hv]
 simp only[al_bind_some,ZAF,al_cond_false,hd,ZAa hh.1 hh.2]
 generalize hrr:p0::l=r at hr h1 hv⊢
 have hr0:r[0]?=some p0:=by rw[<-hrr];rfl
 have:=ZAW (f:=s315_0 G141 G354 G355) (K:=λt6=>some (t6.2.2.1,())) (λi=>(h,⟨0,0⟩,(if i=0 then⟨0,0⟩else(r.take i).foldl (wdF h) p0),r,Int.ofNat r.length,(i:Int),())) r.length (by omega)
  (by
   intro i hi rec K
   have hx:r[i]?=some r[i]:=by simp
   have e1:w64 ((i:Int)+1)=((i+1:Nat):Int):=ZAB
   rw[al_if_neg (show¬i+1=0 by omega)]
   simp only[s315_0]
   rw[ZA,ZAE hx,e1,ZB8 _ _ r i hi]
   by_cases hz:i=0
   ·subst hz
    have:r[0]=p0:=by rw[hx]at hr0;exact Option.some.inj hr0
    rw[this]
    simp[wdF]
   ·rw[ZAG (show¬(i:Int)=0 by omega),al_if_neg hz]
    simp only[ZAH,al_cond_true,ZV0,al_bind_some]
    generalize (r.take i).foldl (wdF h) p0=acc
    unfold wdF
    by_cases hc:rotX h r[i]>rotX h acc
    ·rw[al_if_pos hc];unfold rotX at hc;rw[ZA hc]
    ·rw[al_if_neg hc];unfold rotX at hc;rw[ZAA hc])
  (by
   intro rec K
   simp only[s315_0]
   rw[ZAA])
 refine this.trans ?_
 simp only[al_if_neg (show¬r.length=0 by omega),List.take_length]
 subst hrr
 rfl
theorem ZV2(r:List Place)(hr:r.length<=4)(h1:1<=r.length)(hv:G51 (r,())=some (true,())){h:Int}(hh:0<=h/\h<=3):G127 (r,h,())=some (wdV h r,()):=by
 obtain⟨p0,l,rfl⟩: ∃p l,r=p::l:=by
  cases r with
  | nil=>simp at h1
  | cons p l=>exact⟨p,l,rfl⟩
 unfold G127 F127
 dsimp only
 have hd:G219 (h,())=some (wi h 0 3,()):=ZG2 h
 rw[hv]
 simp only[al_bind_some,ZAF,al_cond_false,hd,ZAa hh.1 hh.2]
 generalize hrr:p0::l=r at hr h1 hv⊢
 have hr0:r[0]?=some p0:=by rw[<-hrr];rfl
 have hr0':=λ(K:Place->Option (Place×Unit))=>ZAE (i:=0) (K:=K) hr0
 simp only[Int.ofNat_zero,Int.natCast_zero]at hr0'
 rw[hr0']
 have:=ZAW (f:=s127_0 G51 G219 G220) (K:=λt6=>some (t6.2.2.1,())) (λi=>(h,⟨0,0⟩,(r.take i).foldl (wdF h) p0,r,Int.ofNat r.length,(i:Int),())) r.length (by omega)
  (by
   intro i hi rec K
   have hx:r[i]?=some r[i]:=by simp
   have e1:w64 ((i:Int)+1)=((i+1:Nat):Int):=ZAB
   simp only[s127_0]
   rw[ZA,ZAE hx,e1,ZB8 _ _ r i hi]
   simp only[ZV1,al_bind_some]
   generalize (r.take i).foldl (wdF h) p0=acc
   unfold wdF
   by_cases hc:rotX h r[i]>rotX h acc
   ·rw[al_if_pos hc];unfold rotX at hc;rw[ZA hc]
   ·rw[al_if_neg hc];unfold rotX at hc;rw[ZAA hc])
  (by
   intro rec K
   simp only[s127_0]
   rw[ZAA])
 refine this.trans ?_
 simp only[List.take_length]
 subst hrr
 rfl
end Ev
namespace Ev
open Go
theorem ZV3{R T A:Type}{f:T->(T->Option R)->(T->Option R)->Option R}{K:T->Option R}(st:Nat->T)(q:Nat->Option A)(r:A->Option R)(n:Nat)
  (hs: ∀i,i<n-> ∀rec K,f (st i) rec K=(q i).elim (rec (st (i+1))) r) (he: ∀rec K,f (st n) rec K=K (st n)):
  ∀(d i m:Nat),i+d=n->d<m->ZAD f m (st i) K=((List.range' i d).findSome? q).elim (K (st n)) r:=by
 intro d
 induction d with
 | zero=>
  intro i m h1 h2
  obtain⟨m,rfl⟩: ∃k,m=k+1:=⟨m-1,by omega⟩
  have:i=n:=by omega
  subst this
  rw[ZAT,he];rfl
 | succ d ih=>
  intro i m h1 h2
  obtain⟨m,rfl⟩: ∃k,m=k+1:=⟨m-1,by omega⟩
  rw[ZAT,hs i (by omega),ih (i+1) m (by omega) (by omega),List.range'_succ,List.findSome?_cons]
  cases q i<;>rfl
theorem ZIz{R T A:Type}{f:T->(T->Option R)->(T->Option R)->Option R}{K:T->Option R}(st:Nat->T)(q:Nat->Option A)(r:A->Option R)(n:Nat)(hn:n<=18446744073709551616)
  (hs: ∀i,i<n-> ∀rec K,f (st i) rec K=(q i).elim (rec (st (i+1))) r) (he: ∀rec K,f (st n) rec K=K (st n)):
  ZAD f fuel (st 0) K=((List.range n).findSome? q).elim (K (st n)) r:=by
 rw[List.range_eq_range']
 exact ZV3 st q r n hs he n 0 fuel (by omega) (by rw[ZBu];omega)
def wq(r:List Place)(x:Throw)(h:Nat):Place:=plus (ZBV x.jet).1 ⟨w64 (fl x.jet*(wdV (h:Int) r).X),w64 (fl x.jet*(wdV (h:Int) r).Y)⟩
def ZEO(p:Place)(c:Box)(h:Nat):Bool:=if h=0 then decide (p.X>c.High.X)else if h=1 then decide (p.Y>c.High.Y)else if h=2 then decide (p.X<c.Low.X)else decide (p.Y<c.Low.Y)
def hitH(r:List Place)(c:Box)(x:Throw):Option Nat:=(List.range 4).findSome? λh=>if ZEO (wq r x h) c h=true then some h else none
def hitL(r:List Place)(c:Box)(l:List Throw):Option (Throw×Nat):=(List.range l.length).findSome? λi=>(l[i]?).bind λx=>(hitH r c x).map λh=>(x,h)
theorem ZV4{r:List Place}{c:Box}{x:Throw}{h:Nat}(e:hitH r c x=some h):h<4/\ZEO (wq r x h) c h=true:=by
 unfold hitH at e
 obtain⟨k,hk,e⟩:=List.exists_of_findSome?_eq_some e
 have hk:k<4:=by simpa using hk
 split at e
 ·cases e;exact⟨hk,by assumption⟩
 ·cases e
theorem ZLV{r:List Place}{c:Box}{l:List Throw}{x:Throw}{h:Nat}(e:hitL r c l=some (x,h)):x∈l/\hitH r c x=some h:=by
 unfold hitL at e
 obtain⟨i,hi,e⟩:=List.exists_of_findSome?_eq_some e
 cases hx:l[i]? with
 | none=>rw[hx]at e;cases e
 | some y=>
  rw[hx]at e
  simp only[al_bind_some]at e
  cases hh:hitH r c y with
  | none=>rw[hh]at e;cases e
  | some k=>
   rw[hh]at e
   simp only[Option.map_some,Option.some.injEq,Prod.mk.injEq]at e
   obtain⟨rfl,rfl⟩:=e
   exact⟨List.mem_iff_getElem?.mpr ⟨i,hx⟩,hh⟩
theorem ZV5(p:Place)(c:Box)(h:Nat)(hh:h<4):G353 (p,c,(h:Int),())=some (ZEO p c h,()):=by
 rcases k4 hh with rfl | rfl | rfl | rfl<;>rfl
theorem ZV6(p:Place)(c:Box)(h:Nat)(hh:h<4):G128 (p,c,(h:Int),())=some (ZEO p c h,()):=by
 rcases k4 hh with rfl | rfl | rfl | rfl<;>rfl
theorem ZQA(j:Jet):G316 (j,())=some ((ZBV j).1,(ZBV j).2,()):=ZO3 j
theorem ZV7(j:Jet):G125 (j,())=some ((ZBV j).1,(ZBV j).2,()):=ZO4 j
def ZCR:Throw:=⟨[],0,⟨⟨0,0⟩,0,0,0⟩⟩
section
variable {r:List Place} (hr:r.length<=4) (h1:1<=r.length) (hS:G141 (r,())=some (true,())) (hI:G51 (r,())=some (true,()))
include hr h1 hS in
theorem ZV8(c:Box)(x:Throw)(l:List Throw)(n i0:Int)(K:List Place×Box×Throw×Throw×Place×Int×List Throw×Int×Int×Unit->Option (Throw×Int×Bool×Unit)):
  ZAD (s314_2 G309 G316 G315 G311 G317 G353) fuel (r,c,ZCR,x,(ZBV x.jet).1,0,l,n,i0,()) K=(hitH r c x).elim (K (r,c,ZCR,x,(ZBV x.jet).1,4,l,n,i0,())) (λh=>some (x,(h:Int),true,())):=by
 refine ZIz (f:=s314_2 G309 G316 G315 G311 G317 G353) (K:=K) (λh=>(r,c,ZCR,x,(ZBV x.jet).1,(h:Int),l,n,i0,())) (λh=>if ZEO (wq r x h) c h=true then some h else none) (λh=>some (x,(h:Int),true,())) 4 (by omega) ?_ ?_
 ·intro h hh rec K
  have e1:w64 ((h:Int)+1)=((h+1:Nat):Int):=ZAB
  simp only[s314_2]
  rw[ZA,ZQ r hr h1 hS (by omega)]
  simp only[al_bind_some,ZE7,ZHI]
  have hq:plus (ZBV x.jet).1 ⟨w64 (fl x.jet*(wdV (h:Int) r).X),w64 (fl x.jet*(wdV (h:Int) r).Y)⟩=wq r x h:=rfl
  rw[hq,ZV5 _ c h hh,e1]
  simp only[al_bind_some]
  cases ZEO (wq r x h) c h<;>rfl
 ·intro rec K
  simp only[s314_2]
  rw[ZAA]
include hr h1 hI in
theorem ZV9(c:Box)(x:Throw)(l:List Throw)(n i0:Int)(K:List Place×Box×Throw×Place×Place×Throw×Place×Int×List Throw×Int×Int×Int×Unit->Option (Throw×Place×Place×Bool×Unit)):
  ZAD (s53_2 G51 G52 G59 G125 G126 G127 G128) fuel (r,c,ZCR,⟨0,0⟩,⟨0,0⟩,x,(ZBV x.jet).1,fl x.jet,l,n,i0,0,()) K=(hitH r c x).elim (K (r,c,ZCR,⟨0,0⟩,⟨0,0⟩,x,(ZBV x.jet).1,fl x.jet,l,n,i0,4,())) (λh=>some (x,wq r x h,wdV (h:Int) r,true,())):=by
 refine ZIz (f:=s53_2 G51 G52 G59 G125 G126 G127 G128) (K:=K) (λh=>(r,c,ZCR,⟨0,0⟩,⟨0,0⟩,x,(ZBV x.jet).1,fl x.jet,l,n,i0,(h:Int),())) (λh=>if ZEO (wq r x h) c h=true then some h else none) (λh=>some (x,wq r x h,wdV (h:Int) r,true,())) 4 (by omega) ?_ ?_
 ·intro h hh rec K
  have e1:w64 ((h:Int)+1)=((h+1:Nat):Int):=ZAB
  simp only[s53_2]
  rw[ZA,ZV2 r hr h1 hI (by omega)]
  simp only[al_bind_some]
  have hq:(⟨w64 ((ZBV x.jet).1.X+w64 (fl x.jet*(wdV (h:Int) r).X)),w64 ((ZBV x.jet).1.Y+w64 (fl x.jet*(wdV (h:Int) r).Y))⟩:Place)=wq r x h:=rfl
  rw[hq,ZV6 _ c h hh,e1]
  simp only[al_bind_some,ZFu]
  cases ZEO (wq r x h) c h<;>rfl
 ·intro rec K
  simp only[s53_2]
  rw[ZAA]
include hr h1 hS in
theorem ZW(c:Box)(l:List Throw)(hl:l.length<=1048576)(K:List Place×Box×Throw×List Throw×Int×Int×Unit->Option (Throw×Int×Bool×Unit)):
  ZAD (s314_0 G309 G316 G315 G311 G317 G353) fuel (r,c,ZCR,l,Int.ofNat l.length,0,()) K=(hitL r c l).elim (K (r,c,ZCR,l,Int.ofNat l.length,Int.ofNat l.length,())) (λa=>some (a.1,(a.2:Int),true,())):=by
 refine ZIz (f:=s314_0 G309 G316 G315 G311 G317 G353) (K:=K) (λi=>(r,c,ZCR,l,Int.ofNat l.length,(i:Int),())) (λi=>(l[i]?).bind λx=>(hitH r c x).map λh=>(x,h)) (λa=>some (a.1,(a.2:Int),true,())) l.length (by omega) ?_ ?_
 ·intro i hi rec K
  have hx:l[i]?=some l[i]:=by simp
  have hx':=λ(K:Throw->Option (Throw×Int×Bool×Unit))=>ZAE (K:=K) hx
  have e1:w64 ((i:Int)+1)=((i+1:Nat):Int):=ZAB
  simp only[s314_0]
  rw[ZA]
  simp only[hx',hx,ZAX,al_bind_some,ZQA]
  rw[ZV8 hr h1 hS,e1]
  cases hitH r c l[i]<;>rfl
 ·intro rec K
  simp only[s314_0]
  rw[ZAA]
include hr h1 hI in
theorem ZWA(c:Box)(l:List Throw)(hl:l.length<=1048576)(K:List Place×Box×Throw×Place×Place×List Throw×Int×Int×Unit->Option (Throw×Place×Place×Bool×Unit)):
  ZAD (s53_0 G51 G52 G59 G125 G126 G127 G128) fuel (r,c,ZCR,⟨0,0⟩,⟨0,0⟩,l,Int.ofNat l.length,0,()) K=(hitL r c l).elim (K (r,c,ZCR,⟨0,0⟩,⟨0,0⟩,l,Int.ofNat l.length,Int.ofNat l.length,())) (λa=>some (a.1,wq r a.1 a.2,wdV (a.2:Int) r,true,())):=by
 refine ZIz (f:=s53_0 G51 G52 G59 G125 G126 G127 G128) (K:=K) (λi=>(r,c,ZCR,⟨0,0⟩,⟨0,0⟩,l,Int.ofNat l.length,(i:Int),())) (λi=>(l[i]?).bind λx=>(hitH r c x).map λh=>(x,h)) (λa=>some (a.1,wq r a.1 a.2,wdV (a.2:Int) r,true,())) l.length (by omega) ?_ ?_
 ·intro i hi rec K
  have hx:l[i]?=some l[i]:=by simp
  have hx':=λ(K:Throw->Option (Throw×Place×Place×Bool×Unit))=>ZAE (K:=K) hx
  have e1:w64 ((i:Int)+1)=((i+1:Nat):Int):=ZAB
  simp only[s53_0]
  rw[ZA]
  simp only[hx',hx,ZAX,al_bind_some,ZV7,ZIs]
  rw[ZV9 hr h1 hI,e1]
  cases hitH r c l[i]<;>rfl
 ·intro rec K
  simp only[s53_0]
  rw[ZAA]
end
def wwL(s:ZAN)(r:List Place)(c:Box):Option (Throw×Nat):=hitL r c (ZAO s)
theorem ZWB{s:ZAN}(h:ShowV s){r:List Place}(hr:r.length<=1048576)(hI:G51 (r,())=some (true,())){c:Box}(hc:isBx c=true):
  G53 (s,r,c,())=(wwL s r c).elim (some (ZCR,⟨0,0⟩,⟨0,0⟩,false,())) (λa=>some (a.1,wq r a.1 a.2,wdV (a.2:Int) r,true,())):=by
 obtain⟨b,q1,q2,q3⟩:=ZEN r hr
 have hb:b=true:=by rw[hI]at q1;cases q1;rfl
 obtain⟨p1,p2,_⟩:=q3 hb
 have hl:=ZBx h
 unfold G53 F53 wwL
 simp only[ZBC,hI,al_bind_some,ZAF,ZAH,al_cond_true,al_cond_false,ZEM,hc]
 rw[ZDX h]
 simp only[al_bind_some]
 refine(ZWA p2 p1 hI c (ZAO s) (by omega) _).trans ?_
 cases hitL r c (ZAO s)<;>rfl
theorem ZWC{s:ZAN}(h:ShowV s){r:List Place}(hr:r.length<=1048576)(hS:G141 (r,())=some (true,()))(c:Box):
  G314 (s,r,c,())=(wwL s r c).elim (some (ZCR,0,false,())) (λa=>some (a.1,(a.2:Int),true,())):=by
 obtain⟨b,q1,q2,q3⟩:=ZEN r hr
 have hb:b=true:=by rw[hS]at q2;cases q2;rfl
 obtain⟨p1,p2,_⟩:=q3 hb
 have hl:=ZBx h
 unfold G314 F314 wwL
 try simp only[ZBC]
 rw[ZE6 h]
 simp only[al_bind_some]
 refine(ZW p2 p1 hS c (ZAO s) (by omega) _).trans ?_
 cases hitL r c (ZAO s)<;>rfl
theorem ZWD(l:List Device)(hl:l.length<=1048576):G184 (l,())=some (l,()):=by
 unfold G184 F184 ZBe
 cases l with
 | nil=>rw[ZAC];exact ZFu
 | cons x l=>rw[ZAC (by simp at hl⊢;omega)];rfl
theorem ZWE(l:List Gust)(hl:l.length<=1048576):G186 (l,())=some (l,()):=by
 unfold G186 F186 ZBe
 cases l with
 | nil=>rw[ZAC];exact ZFu
 | cons x l=>rw[ZAC (by simp at hl⊢;omega)];rfl
theorem ZWF(l:List Device)(hl:l.length<=1048576):G228 (l,())=some (l,()):=by
 unfold G228 F228
 rw[ZAC];rfl
theorem ZQB(s:ZAN)(h:ShowOK s):G94 (s,())=some (s,()):=by
 have h1:=ZWD s.1 h.rig
 have h2:G185 (s.2.1,())=some (s.2.1,()):=ZIh s.2.1 h.score
 have h3:=ZWE s.2.2.1 h.wind
 unfold G94 F94
 simp only[h1,h2,h3,al_bind_some]
theorem ZWG(s:ZAN)(h:ShowOK s):G139 (s,())=some (s,()):=by
 have h1:=ZWF s.1 h.rig
 have h2:G229 (s.2.1,())=some (s.2.1,()):=ZK7 s.2.1 h.score
 have h3:=h.wind
 unfold G139 F139
 simp only[h1,h2,al_bind_some]
 rw[ZAC]
 rfl
def limV(r:List Place)(c:Box)(d:Device):Int:=((G208 (d,r,c,())).map λx=>x.1).getD 0
theorem ZQC(d:Device)(r:List Place)(c:Box)(h1:d.Name.length<=1048576)(h2:d.Line.length<=1048576)(hr:r.length<=1048576):G308 (d,r,c,())=some (limV r c d,())/\G208 (d,r,c,())=some (limV r c d,())/\((devB d=true/\d.Kind=2/\LimP d r c (limV r c d))\/(¬(devB d=true/\d.Kind=2)/\limV r c d=0)):=by
 obtain⟨v,g1,g2,g3⟩:=ZVq d r c h1 h2 hr
 have g1:G308 (d,r,c,())=some (v,()):=g1
 have g2:G208 (d,r,c,())=some (v,()):=g2
 have:limV r c d=v:=by unfold limV;rw[g2];rfl
 rw[this]
 exact⟨g1,g2,g3⟩
def lmD(r:List Place)(c:Box)(d:Device):Device:=if d.Kind=2 then⟨d.Name,d.Kind,d.Line,⟨d.At.X,d.At.Y⟩,d.Heading,d.Tilt,limV r c d⟩else d
def lmS(r:List Place)(c:Box)(s:ZAN):ZAN:=(s.1.map (lmD r c),s.2.1,s.2.2.1,s.2.2.2.1,())
def lmAt(r:List Place)(c:Box)(l:List Device)(i:Nat):List Device:=(l.take i).map (lmD r c)++l.drop i
theorem ZI0(r:List Place)(c:Box)(l:List Device)(i:Nat)(hi:i<l.length):(lmAt r c l i)[i]?=some l[i]:=by
 unfold lmAt
 rw[List.getElem?_append_right (by simp;omega)]
 have:i-((l.take i).map (lmD r c)).length=0:=by simp;omega
 rw[this];simp[List.getElem?_drop]
theorem ZI1(r:List Place)(c:Box)(l:List Device)(i:Nat)(hi:i<l.length):(lmAt r c l i).set i (lmD r c l[i])=lmAt r c l (i+1):=by
 unfold lmAt
 have hn:((l.take i).map (lmD r c)).length=i:=by simp;omega
 rw[List.set_append_right _ _ (by omega),hn,Nat.sub_self,ZG6 l i hi,List.set_cons_zero,<-ZDk (lmD r c) l i hi,List.append_assoc];rfl
theorem ZWH{α:Type}{l:List α}{i:Nat}{x:α}(h:l[i]?=some x):l.set i x=l:=by
 apply List.ext_getElem?;intro m
 rw[List.getElem?_set]
 by_cases e:i=m
 ·subst e
  have:=(al_get_iff.mp h).1
  rw[al_if_pos rfl,h];simp[this]
 ·rw[al_if_neg e]
theorem ZLW(r:List Place)(c:Box)(l:List Device)(i:Nat)(hi:i<l.length)(hk: ¬l[i].Kind=2):lmAt r c l i=lmAt r c l (i+1):=by
 have e:lmD r c l[i]=l[i]:=by unfold lmD;rw[al_if_neg hk]
 rw[<-ZI1 r c l i hi,e]
 exact(ZWH (ZI0 r c l i hi)).symm
section
variable (r:List Place) (hr:r.length<=1048576) (c:Box) (s:ZAN) (hs:ShowOK s)
include hr hs
theorem ZWI:ZAD (s236_0 G140 G141 G142 G139 G308) fuel (r,c,([],[],[],0,()),s,(),Int.ofNat s.1.length,0,()) (λt9=>some ((t9.2.2.2.1.1,t9.2.2.2.1.2.1,t9.2.2.2.1.2.2.1,t9.2.2.2.1.2.2.2.1,()),true,()))=some (lmS r c s,true,()):=by
 have hlen:=hs.rig
 refine(ZAW (f:=s236_0 G140 G141 G142 G139 G308) (K:=λt9=>some ((t9.2.2.2.1.1,t9.2.2.2.1.2.1,t9.2.2.2.1.2.2.1,t9.2.2.2.1.2.2.2.1,()),true,())) (λi=>(r,c,([],[],[],0,()),(lmAt r c s.1 i,s.2.1,s.2.2.1,s.2.2.2.1,()),(),Int.ofNat s.1.length,(i:Int),())) s.1.length (by omega) ?_ ?_).trans ?_
 ·intro i hi rec K
  have hx:=ZI0 r c s.1 i hi
  have hx':=λ(K:Device->Option ((List Device×List Cue×List Gust×Int×Unit)×Bool×Unit))=>ZAE (K:=K) hx
  have e1:w64 ((i:Int)+1)=((i+1:Nat):Int):=ZAB
  obtain⟨n1,n2⟩:=hs.devs s.1[i] (by simp)
  have hv:=(ZQC s.1[i] r c n1 n2 hr).1
  simp only[s236_0]
  rw[ZA]
  simp only[hx',hx,ZAX,al_bind_some,e1]
  by_cases hk:s.1[i].Kind=2
  ·rw[ZA hk,hv]
   simp only[hx',hx,al_bind_some]
   have:=ZI1 r c s.1 i hi
   unfold lmD at this
   rw[al_if_pos hk]at this
   rw[this]
  ·rw[ZAA hk,<-ZLW r c s.1 i hi hk]
 ·intro rec K
  simp only[s236_0]
  rw[ZAA]
 ·simp[lmAt,lmS]
theorem ZWJ:ZAD (s109_0 G50 G51 G52 G94 G208) fuel (r,c,([],[],[],0,()),s,(),Int.ofNat s.1.length,0,()) (λt9=>some ((t9.2.2.2.1.1,t9.2.2.2.1.2.1,t9.2.2.2.1.2.2.1,t9.2.2.2.1.2.2.2.1,()),true,()))=some (lmS r c s,true,()):=by
 have hlen:=hs.rig
 refine(ZAW (f:=s109_0 G50 G51 G52 G94 G208) (K:=λt9=>some ((t9.2.2.2.1.1,t9.2.2.2.1.2.1,t9.2.2.2.1.2.2.1,t9.2.2.2.1.2.2.2.1,()),true,())) (λi=>(r,c,([],[],[],0,()),(lmAt r c s.1 i,s.2.1,s.2.2.1,s.2.2.2.1,()),(),Int.ofNat s.1.length,(i:Int),())) s.1.length (by omega) ?_ ?_).trans ?_
 ·intro i hi rec K
  have hx:=ZI0 r c s.1 i hi
  have hx':=λ(K:Device->Option ((List Device×List Cue×List Gust×Int×Unit)×Bool×Unit))=>ZAE (K:=K) hx
  have e1:w64 ((i:Int)+1)=((i+1:Nat):Int):=ZAB
  obtain⟨n1,n2⟩:=hs.devs s.1[i] (by simp)
  have hv:=(ZQC s.1[i] r c n1 n2 hr).2.1
  simp only[s109_0]
  rw[ZA]
  simp only[hx',hx,ZAX,al_bind_some,e1]
  by_cases hk:s.1[i].Kind=2
  ·rw[ZA hk,hv]
   simp only[hx',hx,al_bind_some]
   have:=ZI1 r c s.1 i hi
   unfold lmD at this
   rw[al_if_pos hk]at this
   rw[this]
  ·rw[ZAA hk,<-ZLW r c s.1 i hi hk]
 ·intro rec K
  simp only[s109_0]
  rw[ZAA]
 ·simp[lmAt,lmS]
end
theorem ZWK(s:ZAN)(h:ShowOK s)(r:List Place)(hr:r.length<=1048576)(c:Box): ∃(x:ZAN) (b:Bool),G236 (s,r,c,())=some (x,b,())/\G109 (s,r,c,())=some (x,b,())/\x.1.length<=1048576/\x.2.1.length<=1048576/\x.2.2.1.length<=1048576:=by
 obtain⟨b,r1,r2,r3⟩:=ZEN r hr
 unfold G236 F236 G109 F109
 try simp only[ZBC]
 rw[ZCQ s h,ZDE s h,r1,r2]
 simp only[al_bind_some,ZHL,ZEM,ZWG s h,ZQB s h]
 cases ZA2 s
 ·exact⟨([],[],[],0,()),false,rfl,rfl,by simp,by simp,by simp⟩
 ·cases b
  ·exact⟨([],[],[],0,()),false,rfl,rfl,by simp,by simp,by simp⟩
  ·cases isBx c
   ·exact⟨([],[],[],0,()),false,rfl,rfl,by simp,by simp,by simp⟩
   ·refine⟨lmS r c s,true,ZWI r hr c s h,ZWJ r hr c s h,?_,h.score,h.wind⟩
    unfold lmS
    have:=h.rig
    simpa using this
end Ev
end
noncomputable section
namespace Ev
open Go
def ZWL{n:Int}(h0: -4611686018427387904<n)(h1:n<4611686018427387904):G129 (n,())=some (Go.Lib.itoa n,()):=by
 show ZIR (n,())=_
 unfold ZIR
 rw[al_if_pos ⟨by show _<=n;omega,by show n<=_;omega⟩]
def numI{n:Int}(h0: -4611686018427387904<n)(h1:n<4611686018427387904):G54 (n,())=some (Go.Lib.itoa n,()):=by
 unfold G54 F54
 simp only[ZWL h0 h1,al_bind_some]
def ZCr{n:Int}(h0: -4611686018427387904<n)(h1:n<4611686018427387904):(Go.Lib.itoa n).length<=20:=by
 by_cases h:n<0
 ·rw[ZOZ h]
  have:=ZIP (u:=(-n).toNat) (by omega)
  simp only[al_len_cons];omega
 ·rw[ZFq (by omega)]
  have:=ZIP (u:=n.toNat) (by omega)
  omega
def ZLX:List Str:=[[],[46,49,50,53],[46,50,53],[46,51,55,53],[46,53],[46,54,50,53],[46,55,53],[46,56,55,53]]
def ZCA(k:Nat):Str:=(ZLX[k]?).getD []
def absT(n:Nat):Str:=Go.Lib.itoa ((n/8:Nat):Int)++ZCA (n % 8)
def ZAR(x:Int):Str:=if wi x (-4096) 4096=true then(if x<0 then 45::absT (-x).toNat else absT x.toNat)else []
def ZI2{k:Nat}(h:k<8):ZLX[k]?=some (ZCA k)/\(ZCA k).length<=4:=by
 have:k=0\/k=1\/k=2\/k=3\/k=4\/k=5\/k=6\/k=7:=by omega
 rcases this with rfl | rfl | rfl | rfl | rfl | rfl | rfl | rfl<;>exact⟨rfl,by decide⟩
def ZQD{n:Nat}(h:n<=4096):(absT n).length<=24:=by
 unfold absT
 have h1:=ZCr (n:=((n/8:Nat):Int)) (by omega) (by omega)
 have h2:=(ZI2 (k:=n % 8) (by omega)).2
 rw[al_len_append];omega
def ZBq(x:Int):(ZAR x).length<=25:=by
 unfold ZAR
 split
 ·rename_i h
  obtain⟨h1,h2⟩:=ZAr.1 h
  split
  ·have:=ZQD (n:=(-x).toNat) (by omega)
   simp only[al_len_cons];omega
  ·have:=ZQD (n:=x.toNat) (by omega)
   omega
 ·simp
def ZE8{n:Nat}(h:n<=4096):w64 (Int.tdiv (n:Int) 8)=((n/8:Nat):Int)/\Int.tmod (n:Int) 8=((n % 8:Nat):Int):=by
 have e:Int.tdiv (n:Int) 8=((n/8:Nat):Int):=by rw[Int.tdiv_eq_ediv_of_nonneg (by omega)];omega
 refine⟨by rw[e,ZAB],?_⟩
 rw[Int.tmod_eq_emod_of_nonneg (by omega)];omega
def ZWM{k:Nat}(h0:0<k)(h:k<8): ∃t:Str,Go.Lib.itoa (1000+(k:Int)*125)=49::t/\t.length=3/\[46]++Go.Lib.trimRightB t 48=ZCA k:=by
 have:k=1\/k=2\/k=3\/k=4\/k=5\/k=6\/k=7:=by omega
 have four: ∀u:Nat,1000<=u->u<10000->Go.Lib.decDigits u=[UInt8.ofNat (48+u/1000),UInt8.ofNat (48+u/100 % 10),UInt8.ofNat (48+u/10 % 10),UInt8.ofNat (48+u % 10)]:=by
  intro u h1 h2
  rw[Go.Lib.decDigits,dif_neg (by omega),Go.Lib.decDigits,dif_neg (by omega),Go.Lib.decDigits_two (by omega) (by omega)]
  simp only[List.cons_append,List.nil_append,Nat.div_div_eq_div_mul]
 rcases this with rfl | rfl | rfl | rfl | rfl | rfl | rfl
 all_goals
  refine⟨_,(ZFq (by decide)).trans ((four _ (by decide) (by decide)).trans rfl),rfl,?_⟩
  decide
def ZWN{t:Str}(h:t.length<=1048576):G58 (t,[48],())=some (Go.Lib.trimRightB t 48,()):=by
 show ZIS (t,[48],())=_
 unfold ZIS
 simp only
 rw[al_if_pos ⟨by decide,by omega⟩]
def isMI(x:Int):G57 (x,())=some (wi x (-4096) 4096,()):=ZFs x
def isMS(x:Int):G248 (x,())=some (wi x (-4096) 4096,()):=ZKr x
def ZQE{n:Nat}(h:n<=4096)(p:Str)(hp:p.length<=1048576):
  (cond (decide (Int.tmod (n:Int) 8>0)) ((G54 (w64 (1000+w64 (Int.tmod (n:Int) 8*125)),())).bind λx3=>okIf ((0:Int)<=1/\(1:Int)<=List.length x3.1) ((G58 (List.drop (Int.toNat 1) x3.1,[48],())).bind λx4=>capK (List.length [46]+List.length x4.1) (capK (List.length p+List.length ([46]++x4.1)) (some (p++([46]++x4.1),())))))
   (some (p,())))=some (p++ZCA (n % 8),()):=by
 rw[(ZE8 h).2]
 have hk:n % 8<8:=Nat.mod_lt _ (by omega)
 generalize n % 8=k at hk
 by_cases h0:0<k
 ·rw[ZA]
  obtain⟨t,h1,h2,h3⟩:=ZWM h0 hk
  have e:w64 (1000+w64 ((k:Int)*125))=1000+(k:Int)*125:=by rw[ZAB (n:=(k:Int)*125) (by omega) (by omega),ZAB]
  rw[e,numI (by omega) (by omega),al_bind_some,h1]
  simp only[Int.toNat_one,List.drop_one,List.tail_cons]
  rw[ZBB ⟨by decide,by simp only[al_len_cons];omega⟩,ZWN (by omega)]
  show capK _ (capK _ _)=_
  simp only
  have hl:=(ZI2 hk).2
  rw[<-h3]at hl
  simp only[al_len_append,al_len_cons,al_len_nil]at hl
  rw[ZAC (by simp only[al_len_cons,al_len_nil];omega),ZAC (by simp only[al_len_append,al_len_cons,al_len_nil];omega),h3]
 ·rw[ZAA]
  obtain rfl:k=0:=by omega
  simp[ZCA,ZLX]
def fmI(x:Int):G21 (x,())=some (ZAR x,()):=by
 unfold G21 F21 ZAR
 simp only[isMI,al_bind_some]
 cases hw:wi x (-4096) 4096
 ·rfl
 ·obtain⟨h1,h2⟩:=ZAr.1 hw
  simp only[ZAF,al_cond_false,if_true]
  by_cases hx:x<0
  ·rw[ZA hx,al_if_pos hx]
   have e:w64 (0-x)=(((-x).toNat:Nat):Int):=by rw[ZAB];omega
   have hn:(-x).toNat<=4096:=by omega
   rw[e]
   generalize (-x).toNat=n at hn
   have hi:=ZCr (n:=((n/8:Nat):Int)) (by omega) (by omega)
   rw[(ZE8 hn).1,numI (by omega) (by omega),al_bind_some,ZAC (by simp only[al_len_cons,al_len_nil];omega)]
   exact(ZQE hn _ (by simp only[al_len_append,al_len_cons,al_len_nil];omega)).trans (by unfold absT;simp)
  ·rw[ZAA hx,al_if_neg hx]
   have e:x=((x.toNat:Nat):Int):=by omega
   have hn:x.toNat<=4096:=by omega
   rw[e]
   generalize x.toNat=n at hn
   have hi:=ZCr (n:=((n/8:Nat):Int)) (by omega) (by omega)
   rw[(ZE8 hn).1,numI (by omega) (by omega),al_bind_some,ZAC (by simp only[al_len_nil];omega)]
   exact(ZQE hn _ (by simp only[al_len_append,al_len_nil];omega)).trans (by unfold absT;simp)
def fmS(x:Int):G147 (x,())=some (ZAR x,()):=by
 unfold G147 F147 ZAR
 simp only[isMS,al_bind_some]
 cases hw:wi x (-4096) 4096
 ·rfl
 ·obtain⟨h1,h2⟩:=ZAr.1 hw
  simp only[ZAF,al_cond_false,if_true]
  by_cases hx:x<0
  ·rw[ZA hx,al_if_pos hx]
   have e:w64 (0-x)=(((-x).toNat:Nat):Int):=by rw[ZAB];omega
   have hn:(-x).toNat<=4096:=by omega
   rw[e]
   generalize (-x).toNat=n at hn
   have hi:=ZCr (n:=((n/8:Nat):Int)) (by omega) (by omega)
   have hf:=ZI2 (k:=n % 8) (by omega)
   have hf':=λ(K:Str->Option (Str×Unit))=>ZAE (K:=K) (show([[],[46,49,50,53],[46,50,53],[46,51,55,53],[46,53],[46,54,50,53],[46,55,53],[46,56,55,53]]:List Str)[n % 8]?=some (ZCA (n % 8))from hf.1)
   rw[(ZE8 hn).1,numS (by omega) (by omega),al_bind_some,ZAC (by simp only[al_len_cons,al_len_nil];omega),(ZE8 hn).2,hf',ZAX,show([[],[46,49,50,53],[46,50,53],[46,51,55,53],[46,53],[46,54,50,53],[46,55,53],[46,56,55,53]]:List Str)[n % 8]?=some (ZCA (n % 8))from hf.1,al_bind_some,
    ZAC (by simp only[al_len_append,al_len_cons,al_len_nil];omega)]
   unfold absT;simp
  ·rw[ZAA hx,al_if_neg hx]
   have e:x=((x.toNat:Nat):Int):=by omega
   have hn:x.toNat<=4096:=by omega
   rw[e]
   generalize x.toNat=n at hn
   have hi:=ZCr (n:=((n/8:Nat):Int)) (by omega) (by omega)
   have hf:=ZI2 (k:=n % 8) (by omega)
   have hf':=λ(K:Str->Option (Str×Unit))=>ZAE (K:=K) (show([[],[46,49,50,53],[46,50,53],[46,51,55,53],[46,53],[46,54,50,53],[46,55,53],[46,56,55,53]]:List Str)[n % 8]?=some (ZCA (n % 8))from hf.1)
   rw[(ZE8 hn).1,numS (by omega) (by omega),al_bind_some,ZAC (by simp only[al_len_nil];omega),(ZE8 hn).2,hf',ZAX,show([[],[46,49,50,53],[46,50,53],[46,51,55,53],[46,53],[46,54,50,53],[46,55,53],[46,56,55,53]]:List Str)[n % 8]?=some (ZCA (n % 8))from hf.1,al_bind_some,
    ZAC (by simp only[al_len_append,al_len_nil];omega)]
   unfold absT;simp
def ZAk(p:Place):Str:=if isPl p=true then(if p.Y<0 then(ZAR p.X++ZAR p.Y)++[105]else((ZAR p.X++[43])++ZAR p.Y)++[105])else []
def ZCS(p:Place):(ZAk p).length<=60:=by
 have h1:=ZBq p.X
 have h2:=ZBq p.Y
 unfold ZAk
 split
 ·split<;>simp only[al_len_append,al_len_cons,al_len_nil]<;>omega
 ·simp
def fpI(p:Place):G55 (p,())=some (ZAk p,()):=by
 have hp:G124 (p,())=some (isPl p,()):=ZBv p
 have h1:=ZBq p.X
 have h2:=ZBq p.Y
 unfold G55 F55 ZAk
 simp only[hp,fmI,al_bind_some]
 cases isPl p
 ·rfl
 ·simp only[ZAF,al_cond_false,if_true]
  by_cases hy:p.Y<0
  ·rw[ZA hy,al_if_pos hy,ZAC (by simp only[al_len_nil];omega),ZAC (by simp only[al_len_append,al_len_nil];omega),ZAC (by simp only[al_len_append,al_len_cons,al_len_nil];omega),List.append_nil]
  ·rw[ZAA hy,al_if_neg hy,ZAC (by simp only[al_len_cons,al_len_nil];omega),ZAC (by simp only[al_len_append,al_len_cons,al_len_nil];omega),ZAC (by simp only[al_len_append,al_len_cons,al_len_nil];omega)]
def fpS(p:Place):G88 (p,())=some (ZAk p,()):=by
 have hp:G181 (p,())=some (isPl p,()):=ZDh p
 have h1:=ZBq p.X
 have h2:=ZBq p.Y
 unfold G88 F88 ZAk
 simp only[hp,fmS,al_bind_some]
 cases isPl p
 ·rfl
 ·simp only[ZAF,al_cond_false,if_true]
  by_cases hy:p.Y<0
  ·rw[ZAA,al_if_pos hy,ZAC,ZAC (by simp only[al_len_append,al_len_cons,al_len_nil];omega)]
  ·rw[ZA,al_if_neg hy,ZAC (by simp only[al_len_cons,al_len_nil];omega),ZAC (by simp only[al_len_append,al_len_cons,al_len_nil];omega),ZAC (by simp only[al_len_append,al_len_cons,al_len_nil];omega)]
end Ev
end
noncomputable section
namespace Ev
def splC(c:UInt8):List UInt8->List (List UInt8)
 | []=>[[]]
 | x::r=>if x=c then []::splC c r else match splC c r with
  | h::t=>(x::h)::t
  | []=>[[x]]
def ZCd(c:UInt8): ∀s,splC c s≠[]
 | []=>by simp[splC]
 | x::r=>by
  unfold splC
  split
  ·simp
  ·split<;>simp
def ZHM(c:UInt8)(r:List UInt8):splC c (c::r)=[]::splC c r:=by rw[splC,al_if_pos rfl]
def ZHN{c x:UInt8}{r h:List UInt8}{t:List (List UInt8)}(hx:x≠c)(e:splC c r=h::t):splC c (x::r)=(x::h)::t:=by rw[splC,al_if_neg hx,e]
def ZLY{c:UInt8}{r:List UInt8} : ∀ {p:List UInt8},(∀x∈p,x≠c)-> ∀ {h t},splC c r=h::t->splC c (p++r)=(p++h)::t
 | [],_,h,t,e=>e
 | x::p,hp,h,t,e=>ZHN (hp x (by simp)) (ZLY (λy hy=>hp y (by simp[hy])) e)
def ZHO{c:UInt8}{p:List UInt8}(hp: ∀x∈p,x≠c):splC c p=[p]:=by
 have:=ZLY (r:=[]) hp (show splC c []=[]::[]from rfl)
 simpa using this
def ZHP{c:UInt8}{p r:List UInt8}(hp: ∀x∈p,x≠c):splC c (p++c::r)=p::splC c r:=by
 have:=ZLY (r:=c::r) hp (ZHM c r)
 simpa using this
def ZE9(c:UInt8): ∀s,((∀x∈s,x≠c)/\splC c s=[s])\/ ∃p r,s=p++c::r/\(∀x∈p,x≠c)/\splC c s=p::splC c r
 | []=> .inl ⟨by simp,rfl⟩
 | x::s=>by
  by_cases hx:x=c
  ·subst hx
   exact .inr ⟨[],s,rfl,by simp,ZHM _ _⟩
  ·rcases ZE9 c s with ⟨h1,h2⟩ | ⟨p,r,e,hp,h2⟩
   ·have h3: ∀y∈x::s,y≠c:=λy hy=>by
     rcases List.mem_cons.mp hy with rfl | hy
     ·exact hx
     ·exact h1 y hy
    exact .inl ⟨h3,ZHO h3⟩
   ·have h3: ∀y∈x::p,y≠c:=λy hy=>by
     rcases List.mem_cons.mp hy with rfl | hy
     ·exact hx
     ·exact hp y hy
    subst e
    exact .inr ⟨x::p,r,rfl,h3,by simpa using ZHP (r:=r) h3⟩
open Go.Lib in
def ZQF{c:UInt8}{s:List UInt8}(h: ∀x∈s,x≠c):index s [c]= -1:=by
 induction s with
 | nil=>rfl
 | cons x s ih=>
  have h0:([c]:List UInt8).isPrefixOf (x::s)=false:=by
   have:=h x (by simp)
   simp[List.isPrefixOf,Ne.symm this]
  unfold index
  rw[h0,ih λy hy=>h y (by simp[hy])]
  rfl
open Go.Lib in
def ZF3{c:UInt8}{r:List UInt8} : ∀ {p:List UInt8},(∀x∈p,x≠c)->index (p++c::r) [c]=(p.length:Int)
 | [],_=>by
  have h0:([c]:List UInt8).isPrefixOf (c::r)=true:=by simp[List.isPrefixOf]
  show index (c::r) [c]=_
  unfold index
  rw[al_if_pos h0]
  rfl
 | x::p,h=>by
  have h0:([c]:List UInt8).isPrefixOf (x::(p++c::r))=false:=by
   have:=h x (by simp)
   simp[List.isPrefixOf,Ne.symm this]
  have ih:=ZF3 (r:=r) (p:=p) λy hy=>h y (by simp[hy])
  show index (x::(p++c::r)) [c]=_
  unfold index
  rw[h0,ih]
  have:(((p.length:Nat):Int)== -1)=false:=beq_eq_false_iff_ne.2 (by omega)
  rw[this]
  simp
open Go.Lib in
def ZQG(c:UInt8): ∀(k:Nat) (s:List UInt8),s.count c=k->splitK [c] 0 k s=splC c s
 | 0,s,h=>by
  have h': ∀x∈s,x≠c:=λx hx e=>by subst e;exact absurd hx (List.count_eq_zero.1 h)
  rw[ZHO h'];rfl
 | k+1,s,h=>by
  rcases ZE9 c s with ⟨h1,_⟩ | ⟨p,r,e,hp,h2⟩
  ·have:s.count c=0:=List.count_eq_zero.2 λhc=>h1 c hc rfl
   omega
  ·have hi:=ZF3 (r:=r) hp
   rw[<-e]at hi
   have hne:((index s [c])== -1)=false:=by rw[hi];exact beq_eq_false_iff_ne.2 (by omega)
   rw[h2,splitK,hne,hi]
   have h0:p.count c=0:=List.count_eq_zero.2 λhc=>hp c hc rfl
   have h3:r.count c=k:=by
    rw[e,List.count_append,List.count_cons_self]at h
    omega
   rw[<-ZQG c k r h3]
   subst e
   simp
def ZWO(s:List UInt8)(c:UInt8):Go.Lib.split s [c]=splC c s:=ZQG c _ s (Go.Lib.count_one c s).symm
open Go.Lib in
def ZQH(s:List UInt8)(c:UInt8):((∀x∈s,x≠c)/\splC c s=[s]/\cut s [c]=(s,[],false))\/ ∃p r,s=p++c::r/\(∀x∈p,x≠c)/\splC c s=p::splC c r/\cut s [c]=(p,r,true):=by
 rcases ZE9 c s with ⟨h1,h2⟩ | ⟨p,r,e,hp,h2⟩
 ·refine .inl ⟨h1,h2,?_⟩
  unfold cut
  rw[ZQF h1,al_if_neg]
 ·refine .inr ⟨p,r,e,hp,h2,?_⟩
  unfold cut
  rw[e,ZF3 hp,al_if_pos]
  simp
def ZLZ(c:UInt8): ∀s,(splC c s).length=s.count c+1
 | []=>rfl
 | x::r=>by
  by_cases hx:x=c
  ·subst hx;rw[ZHM,al_len_cons,ZLZ _ r,List.count_cons_self]
  ·have:=ZLZ c r
   cases e:splC c r with
   | nil=>exact absurd e (ZCd c r)
   | cons h t=>rw[ZHN hx e,List.count_cons_of_ne hx,<-this,e];rfl
def ZF4(c:UInt8)(s:List UInt8):(splC c s).length<=s.length+1:=by
 rw[ZLZ]
 have:=List.count_le_length (a:=c) (l:=s)
 omega
def ZEP(c:UInt8): ∀s w,w∈splC c s->(∀x∈w,x≠c)/\w.length<=s.length
 | [],w,h=>by
  simp[splC]at h;subst h;simp
 | x::r,w,h=>by
  by_cases hx:x=c
  ·subst hx
   rw[ZHM]at h
   rcases List.mem_cons.mp h with rfl | h
   ·simp
   ·have:=ZEP x r w h
    exact⟨this.1,by rw[al_len_cons];omega⟩
  ·cases e:splC c r with
   | nil=>exact absurd e (ZCd c r)
   | cons a t=>
    rw[ZHN hx e]at h
    rcases List.mem_cons.mp h with rfl | h
    ·have:=ZEP c r a (by rw[e];simp)
     refine⟨λy hy=> ?_,by simp only[al_len_cons];omega⟩
     rcases List.mem_cons.mp hy with rfl | hy
     ·exact hx
     ·exact this.1 y hy
    ·have:=ZEP c r w (by rw[e];simp[h])
     exact⟨this.1,by rw[al_len_cons];omega⟩
def ZBi(c:UInt8):List (List UInt8)->List UInt8
 | []=>[]
 | [w]=>w
 | w::v::ws=>w++c::ZBi c (v::ws)
def ZLa{c:UInt8} : ∀ {ws:List (List UInt8)},ws≠[]->(∀w∈ws,∀x∈w,x≠c)->splC c (ZBi c ws)=ws
 | [],h,_=>absurd rfl h
 | [w],_,h=>ZHO (h w (by simp))
 | w::v::ws,_,h=>by
  rw[ZBi,ZHP (h w (by simp)),ZLa (by simp) λu hu=>h u (by simp[List.mem_cons.mp hu])]
def ZLb{d:Nat}(h:d<10):(UInt8.ofNat (48+d)).toNat=48+d:=by
 rw[UInt8.toNat_ofNat']
 omega
def ZWP(x:UInt8):UInt8.ofNat x.toNat=x:=UInt8.ofNat_toNat
def ZA3(x:UInt8):Bool:=48<=x.toNat && x.toNat<=57
def digV(a:Nat)(s:List UInt8):Nat:=s.foldl (λa x=>10*a+(x.toNat-48)) a
def ZCB(s:List UInt8):Bool:=match s with
 | []=>false
 | [_]=>s.all ZA3
 | x::_::r=>decide (r.length<=1) && decide (x≠48) && s.all ZA3
def ZDH(a:Nat):digV a []=a:=List.foldl_nil
def ZBN(a:Nat)(x:UInt8)(r):digV a (x::r)=digV (10*a+(x.toNat-48)) r:=List.foldl_cons ..
def numP(s:List UInt8):Int×Bool:=if ZCB s=true then(((digV 0 s:Nat):Int),true)else(0,false)
def ZF{n:Nat}(h:n<=999):Go.Lib.itoa n=(if n<10 then [UInt8.ofNat (48+n)]else if n<100 then [UInt8.ofNat (48+n/10),UInt8.ofNat (48+n % 10)]else [UInt8.ofNat (48+n/100),UInt8.ofNat (48+n/10 % 10),UInt8.ofNat (48+n % 10)]):=by
 have e:Go.Lib.itoa n=Go.Lib.decDigits n:=by
  unfold Go.Lib.itoa
  rw[al_if_neg]
  rfl
 rw[e]
 split
 ·exact Go.Lib.decDigits_one (by assumption)
 ·split
  ·exact Go.Lib.decDigits_two (by assumption) (by assumption)
  ·rw[Go.Lib.decDigits,dif_neg (by omega),Go.Lib.decDigits_two (by omega) (by omega)]
   simp only[List.cons_append,List.nil_append,Nat.div_div_eq_div_mul]
def ZI3{d:Nat}(h:d<10):ZA3 (UInt8.ofNat (48+d))=true:=by
 unfold ZA3
 rw[ZLb h]
 simp only[ZAM,ZAZ]
 omega
def ZF5{d:Nat}(h:d<10): ∃x:UInt8,UInt8.ofNat (48+d)=x/\ZA3 x=true/\x.toNat=48+d/\(d≠0->x≠48):=
 ⟨_,rfl,ZI3 h,ZLb h,λh0 e=>by
  have:=congrArg UInt8.toNat e
  rw[ZLb h]at this
  have h48:(48:UInt8).toNat=48:=rfl
  omega⟩
def ZCT{n:Nat}(h:n<=999):numP (Go.Lib.itoa n)=((n:Int),true):=by
 rw[ZF h]
 split
 ·rename_i h1
  obtain⟨x,e,k1,k2,_⟩:=ZF5 h1
  rw[e]
  have hv:digV 0 [x]=n:=by rw[ZBN,ZDH];omega
  have hk:ZCB [x]=true:=by simp only[ZCB,List.all_cons,List.all_nil,k1];rfl
  unfold numP
  rw[al_if_pos hk,hv]
 ·split
  ·rename_i h1 h2
   obtain⟨x,e,k1,k2,k3⟩:=ZF5 (d:=n/10) (by omega)
   obtain⟨y,f,l1,l2,_⟩:=ZF5 (d:=n % 10) (by omega)
   rw[e,f]
   have k4:=k3 (by omega)
   have hv:digV 0 [x,y]=n:=by rw[ZBN,ZBN,ZDH];omega
   have hk:ZCB [x,y]=true:=by simp only[ZCB,List.all_cons,List.all_nil,k1,l1,al_len_nil,ZAL k4];rfl
   unfold numP
   rw[al_if_pos hk,hv]
  ·rename_i h1 h2
   obtain⟨x,e,k1,k2,k3⟩:=ZF5 (d:=n/100) (by omega)
   obtain⟨y,f,l1,l2,_⟩:=ZF5 (d:=n/10 % 10) (by omega)
   obtain⟨z,g,m1,m2,_⟩:=ZF5 (d:=n % 10) (by omega)
   rw[e,f,g]
   have k4:=k3 (by omega)
   have hd:n/10/10=n/100:=by rw[Nat.div_div_eq_div_mul]
   have hv:digV 0 [x,y,z]=n:=by rw[ZBN,ZBN,ZBN,ZDH];omega
   have hk:ZCB [x,y,z]=true:=by simp only[ZCB,List.all_cons,List.all_nil,k1,l1,m1,al_len_nil,al_len_cons,ZAL k4];rfl
   unfold numP
   rw[al_if_pos hk,hv]
def ZF6{x:UInt8}(h:ZA3 x=true): ∃d,d<10/\x=UInt8.ofNat (48+d)/\x.toNat-48=d:=by
 unfold ZA3 at h
 simp only[ZAM,ZAZ]at h
 refine⟨x.toNat-48,by omega,?_,rfl⟩
 rw[show 48+(x.toNat-48)=x.toNat by omega,ZWP]
def ZWQ{s:List UInt8}{n:Int}(h:numP s=(n,true)): ∃m:Nat,n=m/\m<=999/\Go.Lib.itoa m=s:=by
 unfold numP at h
 split at h
 ·rename_i hk
  cases h
  refine⟨_,rfl,?_⟩
  match s,hk with
  | [],hk=>simp[ZCB]at hk
  | [x],hk=>
   simp only[ZCB,List.all_cons,List.all_nil,Bool.and_true]at hk
   obtain⟨d,hd,e1,e2⟩:=ZF6 hk
   have hv:digV 0 [x]=d:=by rw[ZBN,ZDH];omega
   rw[hv]
   refine⟨by omega,?_⟩
   rw[ZF (by omega),al_if_pos hd,<-e1]
  | [x,y],hk=>
   simp only[ZCB,List.all_cons,List.all_nil,Bool.and_true,ZAM,ZAZ]at hk
   obtain⟨⟨_,h0⟩,hx,hy⟩:=hk
   obtain⟨d,hd,e1,e2⟩:=ZF6 hx
   obtain⟨f,hf,e3,e4⟩:=ZF6 hy
   have hd0:d≠0:=λe=>by subst e;exact h0 e1
   have hv:digV 0 [x,y]=10*d+f:=by rw[ZBN,ZBN,ZDH];omega
   rw[hv]
   refine⟨by omega,?_⟩
   rw[ZF (by omega),al_if_neg,al_if_pos,show(10*d+f)/10=d by omega,show(10*d+f) % 10=f by omega,<-e1,<-e3]
  | [x,y,z],hk=>
   simp only[ZCB,List.all_cons,List.all_nil,Bool.and_true,ZAM,ZAZ]at hk
   obtain⟨⟨_,h0⟩,hx,hy,hz⟩:=hk
   obtain⟨d,hd,e1,e2⟩:=ZF6 hx
   obtain⟨f,hf,e3,e4⟩:=ZF6 hy
   obtain⟨g,hg,e5,e6⟩:=ZF6 hz
   have hd0:d≠0:=λe=>by subst e;exact h0 e1
   have hv:digV 0 [x,y,z]=100*d+10*f+g:=by rw[ZBN,ZBN,ZBN,ZDH];omega
   rw[hv]
   have hd1:(100*d+10*f+g)/10=10*d+f:=by omega
   refine⟨by omega,?_⟩
   rw[ZF (by omega),al_if_neg,al_if_neg,show(100*d+10*f+g)/100=d by omega,show(100*d+10*f+g)/10 % 10=f by rw[hd1];omega,show(100*d+10*f+g) % 10=g by omega,<-e1,<-e3,<-e5]
  | x::y::z::u::r,hk=>
   simp only[ZCB,al_len_cons,ZAM,ZAZ]at hk
   have:=hk.1.1
   omega
 ·cases h
def ZFA(s:List UInt8):numP s=(0,false)\/ ∃m:Nat,m<=999/\s=Go.Lib.itoa m/\numP s=((m:Int),true):=by
 by_cases h:ZCB s=true
 ·right
  have e:numP s=(((digV 0 s:Nat):Int),true):=by unfold numP;rw[al_if_pos h]
  obtain⟨m,h1,h2,h3⟩:=ZWQ e
  exact⟨m,h2,h3.symm,by rw[e,h1]⟩
 ·left;unfold numP;rw[al_if_neg h]
end Ev
end
noncomputable section
namespace Ev
open Go
def isMc(x:UInt8):Bool:=ZA3 x || x==46
def ZF7{n:Nat}(h:n<=999): ∀x∈Go.Lib.itoa n,ZA3 x=true:=by
 rw[ZF h]
 split
 ·intro x hx
  obtain rfl:=List.mem_singleton.mp hx
  exact ZI3 (by assumption)
 ·split
  ·intro x hx
   simp only[List.mem_cons,List.not_mem_nil,or_false]at hx
   rcases hx with rfl | rfl<;>exact ZI3 (by omega)
  ·intro x hx
   simp only[List.mem_cons,List.not_mem_nil,or_false]at hx
   rcases hx with rfl | rfl | rfl<;>exact ZI3 (by omega)
def ZI4{n:Nat}(h:n<=999):Go.Lib.itoa n≠[]:=by
 rw[ZF h]
 split
 ·simp
 ·split<;>simp
def ZHQ{x:UInt8}(h:ZA3 x=true):x≠46/\x≠45/\x≠43/\x≠32/\x≠105:=by
 unfold ZA3 at h
 simp only[ZAM,ZAZ]at h
 refine⟨?_,?_,?_,?_,?_⟩<;>(rintro rfl;simp at h)
def ZQI{k:Nat}(h:k<8):ZCA k=[]\/ ∃t,ZCA k=46::t/\t.length<=3/\ ∀x∈t,ZA3 x=true:=by
 have:k=0\/k=1\/k=2\/k=3\/k=4\/k=5\/k=6\/k=7:=by omega
 rcases this with rfl | rfl | rfl | rfl | rfl | rfl | rfl | rfl
 ·exact .inl rfl
 all_goals (refine .inr ⟨_,rfl,by decide,?_⟩;decide)
def ZWR{k m:Nat}(hk:k<8)(hm:m<8)(h:ZCA k=ZCA m):k=m:=by
 have all: ∀a b:Fin 8,ZCA a.val=ZCA b.val->a=b:=by decide
 exact congrArg Fin.val (all ⟨k,hk⟩ ⟨m,hm⟩ h)
def ZLc{n:Nat}(h:n<=4096): ∀x∈absT n,isMc x=true:=by
 intro x hx
 unfold absT at hx
 unfold isMc
 rcases List.mem_append.mp hx with hx | hx
 ·rw[ZF7 (by omega) x hx];rfl
 ·rcases ZQI (k:=n % 8) (by omega)with e | ⟨t,e,_,ht⟩
  ·rw[e]at hx;simp at hx
  ·rw[e]at hx
   rcases List.mem_cons.mp hx with rfl | hx
   ·rfl
   ·rw[ht x hx];rfl
def ZEQ{x:UInt8}(h:isMc x=true):x≠45/\x≠43/\x≠32/\x≠105:=by
 unfold isMc at h
 rcases Bool.or_eq_true _ _▸h with h | h
 ·exact(ZHQ h).2
 ·obtain rfl:x=46:=by simpa using h
  decide
def ZQJ{n:Nat}(h:n<=4096):absT n≠[]:=by
 unfold absT
 intro e
 exact ZI4 (n:=n/8) (by omega) (List.append_eq_nil_iff.mp e).1
def ZI5{n:Nat}(h:n<=4096): ∃t,t.length<=3/\((Go.Lib.cut (absT n) [46]).1=Go.Lib.itoa (n/8:Nat)/\(Go.Lib.cut (absT n) [46]).2.1=t)/\ ∃r,splC 46 (absT n)=Go.Lib.itoa (n/8:Nat)::r:=by
 have hd: ∀x∈Go.Lib.itoa (n/8:Nat),x≠46:=λx hx=>(ZHQ (ZF7 (by omega) x hx)).1
 unfold absT
 rcases ZQI (k:=n % 8) (by omega)with e | ⟨t,e,ht,_⟩
 ·rw[e,List.append_nil]
  refine⟨[],by simp,?_,⟨[],ZHO hd⟩⟩
  unfold Go.Lib.cut
  rw[ZQF hd,al_if_neg]
  exact⟨rfl,rfl⟩
 ·rw[e]
  refine⟨t,ht,?_,⟨_,ZHP hd⟩⟩
  unfold Go.Lib.cut
  rw[ZF3 hd,al_if_pos]
  simp
def ZQK{n m:Nat}(hn:n<=4096)(hm:m<=4096)(h:absT n=absT m):n=m:=by
 obtain⟨_,_,⟨h1,_⟩,_⟩:=ZI5 hn
 obtain⟨_,_,⟨h2,_⟩,_⟩:=ZI5 hm
 rw[h,h2]at h1
 have h3:m/8=n/8:=by
  have e1:=ZCT (n:=n/8) (by omega)
  have e2:=ZCT (n:=m/8) (by omega)
  rw[h1,e1]at e2
  have:=(Prod.mk.injEq ..▸e2).1
  omega
 unfold absT at h
 rw[h3]at h
 have:=ZWR (by omega) (by omega) (List.append_cancel_left h)
 omega
def ZER{x:Int}(h0:0<=x)(h1:x<=4096):ZAR x=absT x.toNat:=by
 unfold ZAR
 rw[al_if_pos (ZAa (by omega) h1),al_if_neg]
def ZES{x:Int}(h0:x<0)(h1: -4096<=x):ZAR x=45::absT (-x).toNat:=by
 unfold ZAR
 rw[al_if_pos (ZAa h1 (by omega)),al_if_pos h0]
def ZWS{x:Int}(h:wi x (-4096) 4096=false):ZAR x=[]:=by
 unfold ZAR
 rw[h,al_if_neg (by simp)]
def ZI6{n:Nat}(h:n<=4096): ∃x r,absT n=x::r/\isMc x=true:=by
 cases e:absT n with
 | nil=>exact absurd e (ZQJ h)
 | cons x r=>exact⟨x,r,rfl,ZLc h x (by rw[e];simp)⟩
def ZWT{x:Int}(h:wi x (-4096) 4096=true):ZAR x≠[]:=by
 obtain⟨h1,h2⟩:=ZAr.1 h
 by_cases h0:x<0
 ·rw[ZES h0 h1];simp
 ·rw[ZER (by omega) h2];exact ZQJ (by omega)
def ZLd{x y:Int}(hx:wi x (-4096) 4096=true)(hy:wi y (-4096) 4096=true)(h:ZAR x=ZAR y):x=y:=by
 obtain⟨a1,a2⟩:=ZAr.1 hx
 obtain⟨b1,b2⟩:=ZAr.1 hy
 by_cases hx0:x<0
 ·rw[ZES hx0 a1]at h
  by_cases hy0:y<0
  ·rw[ZES hy0 b1]at h
   have:=ZQK (by omega) (by omega) (List.cons.inj h).2
   omega
  ·rw[ZER (by omega) b2]at h
   obtain⟨c,r,e,hc⟩:=ZI6 (n:=y.toNat) (by omega)
   rw[e]at h
   exact absurd (List.cons.inj h).1.symm (ZEQ hc).1
 ·rw[ZER (by omega) a2]at h
  by_cases hy0:y<0
  ·rw[ZES hy0 b1]at h
   obtain⟨c,r,e,hc⟩:=ZI6 (n:=x.toNat) (by omega)
   rw[e]at h
   exact absurd (List.cons.inj h).1 (ZEQ hc).1
  ·rw[ZER (by omega) b2]at h
   have:=ZQK (by omega) (by omega) h
   omega
def ZAh(s:Str):Int×Bool:=open Classical in if h: ∃x,wi x (-4096) 4096=true/\ZAR x=s then(h.choose,true)else(0,false)
def ZDI{x:Int}(h:wi x (-4096) 4096=true):ZAh (ZAR x)=(x,true):=by
 have hx: ∃y,wi y (-4096) 4096=true/\ZAR y=ZAR x:=⟨x,h,rfl⟩
 unfold ZAh
 rw[dif_pos hx,ZLd hx.choose_spec.1 h hx.choose_spec.2]
def ZWU(s:Str):(ZAh s=(0,false)/\ ∀x,wi x (-4096) 4096=true->ZAR x≠s)\/ ∃x,wi x (-4096) 4096=true/\s=ZAR x/\ZAh s=(x,true):=by
 by_cases h: ∃x,wi x (-4096) 4096=true/\ZAR x=s
 ·obtain⟨x,hx,e⟩:=h
  right;exact⟨x,hx,e.symm,by rw[<-e];exact ZDI hx⟩
 ·left
  refine⟨?_,λx hx e=>h ⟨x,hx,e⟩⟩
  unfold ZAh
  rw[dif_neg h]
def ZLe{s:Str}{x:Int}(hs:s≠[])(h:ZAR x=s):ZAh s=(x,true):=by
 cases hw:wi x (-4096) 4096
 ·rw[ZWS hw]at h;exact absurd h.symm hs
 ·rw[<-h];exact ZDI hw
def ZBj(c:UInt8)(s:Str):Str:=match s with
 | x::r=>if x=c then r else x::r
 | []=>[]
def ZF8(c:UInt8)(r:Str):ZBj c (c::r)=r:=by simp[ZBj]
def ZHR{c x:UInt8}(r:Str)(h:x≠c):ZBj c (x::r)=x::r:=by simp[ZBj,h]
def ZI7{x:Int}(h:wi x (-4096) 4096=true): ∃(n k:Nat) (t:Str),n<=512/\k<8/\t.length<=3/\(Go.Lib.cut (ZBj 45 (ZAR x)) [46]).1=Go.Lib.itoa n/\(Go.Lib.cut (ZBj 45 (ZAR x)) [46]).2.1=t/\(∃r,splC 46 (ZAR x)=(if x<0 then 45::Go.Lib.itoa n else Go.Lib.itoa n)::r)/\
  x=(if x<0 then-(8*(n:Int)+k)else 8*(n:Int)+k):=by
 obtain⟨h1,h2⟩:=ZAr.1 h
 by_cases h0:x<0
 ·obtain⟨t,ht,⟨c1,c2⟩,r,hr⟩:=ZI5 (n:=(-x).toNat) (by omega)
  refine⟨(-x).toNat/8,(-x).toNat % 8,t,by omega,by omega,ht,?_,?_,⟨r,?_⟩,?_⟩
  ·rw[ZES h0 h1,ZF8];exact c1
  ·rw[ZES h0 h1,ZF8];exact c2
  ·rw[ZES h0 h1,al_if_pos h0];exact ZHN (by decide) hr
  ·rw[al_if_pos h0];omega
 ·obtain⟨t,ht,⟨c1,c2⟩,r,hr⟩:=ZI5 (n:=x.toNat) (by omega)
  obtain⟨y,q,e,hy⟩:=ZI6 (n:=x.toNat) (by omega)
  have hu:ZBj 45 (absT x.toNat)=absT x.toNat:=by rw[e];exact ZHR _ (ZEQ hy).1
  refine⟨x.toNat/8,x.toNat % 8,t,by omega,by omega,ht,?_,?_,⟨r,?_⟩,?_⟩
  ·rw[ZER (by omega) h2,hu];exact c1
  ·rw[ZER (by omega) h2,hu];exact c2
  ·rw[ZER (by omega) h2,al_if_neg h0];exact hr
  ·rw[al_if_neg h0];omega
def ZQL{x:Int}(h:wi x (-4096) 4096=true): ∃c r,ZAR x=c::r/\(isMc c=true\/c=45)/\(c=45↔x<0)/\ ∀y∈r,isMc y=true:=by
 obtain⟨h1,h2⟩:=ZAr.1 h
 by_cases h0:x<0
 ·refine⟨45,_,ZES h0 h1,.inr rfl,by simp[h0],ZLc (by omega)⟩
 ·obtain⟨y,q,e,hy⟩:=ZI6 (n:=x.toNat) (by omega)
  refine⟨y,q,by rw[ZER (by omega) h2,e],.inl hy,⟨λe=>absurd e (ZEQ hy).1,λh=>absurd h h0⟩,λz hz=>ZLc (n:=x.toNat) (by omega) z (by rw[e];simp[hz])⟩
def ZF9{p:Place}(h:isPl p=true): ∃c r,ZAk p=ZAR p.X++c::(r++[105])/\(c=43\/c=45)/\(∀y∈r,isMc y=true)/\ZBj 43 (c::r)=ZAR p.Y:=by
 obtain⟨hx,hy⟩:=Bool.and_eq_true_iff.mp (show(wi p.X (-4096) 4096 && wi p.Y (-4096) 4096)=true from h)
 obtain⟨c,r,e,hc,hn,hr⟩:=ZQL hy
 unfold ZAk
 rw[al_if_pos h]
 by_cases h0:p.Y<0
 ·obtain rfl:=hn.2 h0
  rw[al_if_pos h0]
  refine⟨45,r,by rw[e];simp,.inr rfl,hr,by rw[e];exact ZHR _ (by decide)⟩
 ·rw[al_if_neg h0]
  refine⟨43,ZAR p.Y,by simp,.inl rfl,λy hy=> ?_,ZF8 _ _⟩
  rw[e]at hy
  rcases List.mem_cons.mp hy with rfl | hy
  ·rcases hc with hc | rfl
   ·exact hc
   ·exact absurd (hn.1 rfl) h0
  ·exact hr y hy
def ZWV{p:Place}(h:isPl p=false):ZAk p=[]:=by
 unfold ZAk
 rw[h,al_if_neg (by simp)]
def ZQM: ∀ {l:Str},(∀x∈l,isPM x=false)->ZAY l= -1
 | [],_=>rfl
 | x::r,h=>by
  unfold ZAY
  rw[ZQM λy hy=>h y (by simp[hy]),al_if_neg,h x (by simp),al_if_neg (by simp)]
def ZQN{c:UInt8}{r:Str}(hc:isPM c=true)(hr: ∀x∈r,isPM x=false): ∀p:Str,ZAY (p++c::r)=(p.length:Int)
 | []=>by
  show ZAY (c::r)=_
  unfold ZAY
  rw[ZQM hr,al_if_neg,al_if_pos hc];rfl
 | x::p=>by
  have:=ZQN hc hr p
  show ZAY (x::(p++c::r))=_
  unfold ZAY
  rw[this,al_if_pos]
  simp
def ZLf{p:Place}(h:isPl p=true):ZAY (ZAk p)=((ZAR p.X).length:Int):=by
 obtain⟨c,r,e,hc,hr,_⟩:=ZF9 h
 rw[e]
 refine ZQN (by rcases hc with rfl | rfl<;>rfl) (λx hx=> ?_) _
 unfold isPM
 rcases List.mem_append.mp hx with hx | hx
 ·have:=ZEQ (hr x hx)
  simp[this.1,this.2.1]
 ·obtain rfl:=List.mem_singleton.mp hx
  rfl
def ZWW{p q:Place}(hp:isPl p=true)(hq:isPl q=true)(h:ZAk p=ZAk q):p=q:=by
 have l1:=ZLf hp
 have l2:=ZLf hq
 rw[h,l2]at l1
 obtain⟨c,r,e,_,_,hu⟩:=ZF9 hp
 obtain⟨d,t,f,_,_,hv⟩:=ZF9 hq
 rw[e,f]at h
 have hl:(ZAR p.X).length=(ZAR q.X).length:=by omega
 obtain⟨h1,h2⟩:=List.append_inj h hl
 obtain⟨ap,bp⟩:=Bool.and_eq_true_iff.mp (show(wi p.X (-4096) 4096 && wi p.Y (-4096) 4096)=true from hp)
 obtain⟨aq,bq⟩:=Bool.and_eq_true_iff.mp (show(wi q.X (-4096) 4096 && wi q.Y (-4096) 4096)=true from hq)
 have h3:=(List.cons.inj h2).1
 have h4:=List.append_cancel_right (List.cons.inj h2).2
 rw[h3,h4,hv]at hu
 have e1:=ZLd ap aq h1
 have e2:=ZLd bp bq hu.symm
 cases p;cases q
 simp only at e1 e2
 rw[e1,e2]
def ZAS(s:Str):Place×Bool:=open Classical in if h: ∃p,isPl p=true/\ZAk p=s then(h.choose,true)else(⟨0,0⟩,false)
def ZLg{p:Place}(h:isPl p=true):ZAS (ZAk p)=(p,true):=by
 have hx: ∃y,isPl y=true/\ZAk y=ZAk p:=⟨p,h,rfl⟩
 unfold ZAS
 rw[dif_pos hx,ZWW hx.choose_spec.1 h hx.choose_spec.2]
def ZLh(s:Str):(ZAS s=(⟨0,0⟩,false)/\ ∀p,isPl p=true->ZAk p≠s)\/ ∃p,isPl p=true/\s=ZAk p/\ZAS s=(p,true):=by
 by_cases h: ∃p,isPl p=true/\ZAk p=s
 ·obtain⟨p,hp,e⟩:=h
  right;exact⟨p,hp,e.symm,by rw[<-e];exact ZLg hp⟩
 ·left
  refine⟨?_,λx hx e=>h ⟨x,hx,e⟩⟩
  unfold ZAS
  rw[dif_neg h]
def ZQO{s:Str}{p:Place}(hs:s≠[])(h:ZAk p=s):ZAS s=(p,true):=by
 cases hw:isPl p
 ·rw[ZWV hw]at h;exact absurd h.symm hs
 ·rw[<-h];exact ZLg hw
end Ev
end
noncomputable section
namespace Ev
open Go
def Free(s:Str):Prop:= ∀x∈s,x≠32
def ZQP: ∀(i:Nat) (s:Str),nm i s=true->Free s
 | _,[],_=>by intro x hx;simp at hx
 | i,c::r,h=>by
  obtain⟨h1,h2⟩:=Bool.and_eq_true_iff.mp (show(chOK i c && nm (i+1) r)=true from h)
  intro x hx
  rcases List.mem_cons.mp hx with rfl | hx
  ·rintro rfl
   unfold chOK at h1
   have e:(((32:UInt8).toNat:Nat):Int)=32:=rfl
   rw[e]at h1
   simp[wi]at h1
  ·exact ZQP (i+1) r h2 x hx
def ZG{s:Str}(h:isNm s=true):Free s/\s≠[]:=by
 obtain⟨h1,h2⟩:=Bool.and_eq_true_iff.mp (show(nm 0 s && wi (Int.ofNat s.length) 1 8)=true from h)
 refine⟨ZQP 0 s h1,?_⟩
 rintro rfl
 simp[wi]at h2
def ZGA{x:Int}(h:wi x (-4096) 4096=true):Free (ZAR x):=by
 obtain⟨c,r,e,hc,_,hr⟩:=ZQL h
 intro y hy
 rw[e]at hy
 rcases List.mem_cons.mp hy with rfl | hy
 ·rcases hc with hc | rfl
  ·exact(ZEQ hc).2.2.1
  ·decide
 ·exact(ZEQ (hr y hy)).2.2.1
def ZQQ{p:Place}(h:isPl p=true):Free (ZAk p):=by
 obtain⟨c,r,e,hc,hr,_⟩:=ZF9 h
 obtain⟨hx,_⟩:=Bool.and_eq_true_iff.mp (show(wi p.X (-4096) 4096 && wi p.Y (-4096) 4096)=true from h)
 intro y hy
 rw[e]at hy
 rcases List.mem_append.mp hy with hy | hy
 ·exact ZGA hx y hy
 ·rcases List.mem_cons.mp hy with rfl | hy
  ·rcases hc with rfl | rfl<;>decide
  ·rcases List.mem_append.mp hy with hy | hy
   ·exact(ZEQ (hr y hy)).2.2.1
   ·obtain rfl:=List.mem_singleton.mp hy
    decide
def ZI8{n:Nat}(h:n<=999):Free (Go.Lib.itoa n):=λx hx=>(ZHQ (ZF7 h x hx)).2.2.2.1
def ZDp:Str:=[112,117,109,112]
def ZDq:Str:=[110,111,122,122,108,101]
def ZDr:Str:=[108,97,109,112]
def ZGB:Str:=[109,111,115,116]
def onW:Str:=[111,110]
def atW:Str:=[97,116]
def ZLi:Str:=[104,101,97,100,105,110,103]
def ZLj:Str:=[116,105,108,116]
def inW:Str:=[105,110]
def ZCs{s:Str}(h:(s.all λx=> !(x==32))=true):Free s:=λx hx e=>by
 have:=List.all_eq_true.mp h x hx
 subst e;simp at this
def ZCU(d:Device):List Str:=
 if d.Kind=1 then [ZDp,d.Name,ZGB,ZAR d.Most]
 else if d.Kind=2 then [ZDq,d.Name,onW,d.Line,atW,ZAk d.At,ZLi,Go.Lib.itoa d.Heading,ZLj,ZAR d.Tilt,ZGB,ZAR d.Most]
 else [ZDr,d.Name,onW,d.Line,atW,ZAk d.At]
def ZBW(d:Device):Str:=if devB d=true then ZBi 32 (ZCU d)else []
structure DevK(d:Device):Prop where
 nm:isNm d.Name=true
 k:(d.Kind=1/\d.Line=[]/\d.At=⟨0,0⟩/\d.Heading=0/\d.Tilt=0/\wi d.Most (-4096) 4096=true)\/
  (d.Kind=2/\isNm d.Line=true/\isPl d.At=true/\(∃n:Nat,d.Heading=n/\n<=999)/\wi d.Tilt (-4096) 4096=true/\wi d.Most (-4096) 4096=true)\/
  (d.Kind=3/\isNm d.Line=true/\isPl d.At=true/\d.Heading=0/\d.Tilt=0/\d.Most=0)
def ZLk{a b c b' c':Int}(h:wi a b c=true)(h1:b'<=b)(h2:c<=c'):wi a b' c'=true:=by
 obtain⟨x,y⟩:=ZAr.1 h
 exact ZAa (by omega) (by omega)
def ZDJ{d:Device}(h:devB d=true):DevK d:=by
 unfold devB at h
 obtain⟨h1,h2⟩:=Bool.and_eq_true_iff.mp h
 refine⟨h1,?_⟩
 split at h2
 ·rename_i k
  simp only[ZAM,ZAZ]at h2
  obtain⟨a,b,c,e,f,g⟩:=h2
  refine .inl ⟨k,a,?_,e,f,ZLk g (by decide) (by decide)⟩
  cases hd:d.At
  rw[hd]at b c
  simp only at b c
  rw[b,c]
 ·split at h2
  ·rename_i k
   simp only[ZAM]at h2
   obtain⟨a,b,c,e⟩:=h2
   have J:=ZB6 c
   unfold devJ at J
   refine .inr (.inl ⟨k,a,?_,⟨d.Heading.toNat,by have:=J.h;simp only at this;omega,by have:=J.h;simp only at this;omega⟩,ZAa (by have:=J.t;simp only at this;omega) (by have:=J.t;simp only at this;omega),ZLk e (by decide) (by decide)⟩)
   unfold isPl
   rw[ZAM]
   exact⟨ZAa (by have:=J.x;simp only at this;omega) (by have:=J.x;simp only at this;omega),ZAa (by have:=J.y;simp only at this;omega) (by have:=J.y;simp only at this;omega)⟩
  ·split at h2
   ·rename_i k
    simp only[ZAM,ZAZ]at h2
    obtain⟨a,b,c,e,f,g⟩:=h2
    exact .inr (.inr ⟨k,e,g,a,b,c⟩)
   ·cases h2
def ZWX{d:Device}(h:DevK d): ∀w∈ZCU d,Free w:=by
 have hn:=(ZG h.nm).1
 unfold ZCU
 rcases h.k with ⟨k,_,_,_,_,hm⟩ | ⟨k,hl,hp,⟨n,e,hn9⟩,ht,hm⟩ | ⟨k,hl,hp,_⟩
 ·rw[al_if_pos k]
  simp only[List.mem_cons,List.not_mem_nil,or_false,forall_eq_or_imp,forall_eq]
  exact⟨ZCs rfl,hn,ZCs rfl,ZGA hm⟩
 ·rw[al_if_neg,al_if_pos k,e]
  simp only[List.mem_cons,List.not_mem_nil,or_false,forall_eq_or_imp,forall_eq]
  exact⟨ZCs rfl,hn,ZCs rfl,(ZG hl).1,ZCs rfl,ZQQ hp,ZCs rfl,ZI8 hn9,ZCs rfl,ZGA ht,ZCs rfl,ZGA hm⟩
 ·rw[al_if_neg,al_if_neg]
  simp only[List.mem_cons,List.not_mem_nil,or_false,forall_eq_or_imp,forall_eq]
  exact⟨ZCs rfl,hn,ZCs rfl,(ZG hl).1,ZCs rfl,ZQQ hp⟩
def ZWY(d:Device):ZCU d≠[]:=by
 unfold ZCU
 split
 ·simp
 ·split<;>simp
def ZQR{d:Device}(h:devB d=true):splC 32 (ZBW d)=ZCU d:=by
 unfold ZBW
 rw[al_if_pos h]
 exact ZLa (ZWY d) (ZWX (ZDJ h))
def ZLl{c:UInt8}{w:List UInt8}{ws:List (List UInt8)}(h:w≠[]):ZBi c (w::ws)≠[]:=by
 cases ws with
 | nil=>exact h
 | cons v ws=>rw[ZBi];simp
def ZQS{d:Device}(h:devB d=true):ZBW d≠[]:=by
 unfold ZBW
 rw[al_if_pos h]
 unfold ZCU
 split
 ·exact ZLl (by decide)
 ·split<;>exact ZLl (by decide)
def wAt(w:List Str)(i:Nat):Str:=(w[i]?).getD []
def ZBD(s:Str):Int:=(ZAh s).1
def numV(s:Str):Int:=(numP s).1
def plV(s:Str):Place:=(ZAS s).1
def ZHS{x:Int}(h:wi x (-4096) 4096=true):ZBD (ZAR x)=x:=by unfold ZBD;rw[ZDI h]
def ZQT{p:Place}(h:isPl p=true):plV (ZAk p)=p:=by unfold plV;rw[ZLg h]
def ZI9{n:Nat}(h:n<=999):numV (Go.Lib.itoa n)=n:=by unfold numV;rw[ZCT h]
def ZBE(w:List Str):Device:=
 if w.length=4/\wAt w 0=ZDp then⟨wAt w 1,1,[],⟨0,0⟩,0,0,ZBD (wAt w 3)⟩
 else if w.length=12/\wAt w 0=ZDq then⟨wAt w 1,2,wAt w 3,plV (wAt w 5),numV (wAt w 7),ZBD (wAt w 9),ZBD (wAt w 11)⟩
 else if w.length=6/\wAt w 0=ZDr then⟨wAt w 1,3,wAt w 3,plV (wAt w 5),0,0,0⟩
 else⟨[],0,[],⟨0,0⟩,0,0,0⟩
def ZCC(w:List Str):Device:=
 if wAt w 0=ZDp then⟨wAt w 1,1,[],⟨0,0⟩,0,0,ZBD (wAt w 3)⟩
 else if wAt w 0=ZDq then⟨wAt w 1,2,wAt w 3,plV (wAt w 5),numV (wAt w 7),ZBD (wAt w 9),ZBD (wAt w 11)⟩
 else if wAt w 0=ZDr then⟨wAt w 1,3,wAt w 3,plV (wAt w 5),0,0,0⟩
 else⟨wAt w 1,0,[],⟨0,0⟩,0,0,0⟩
def ZQU{d:Device}(h:devB d=true):ZBE (ZCU d)=d/\ZCC (ZCU d)=d:=by
 have K:=ZDJ h
 have n1: ¬(ZDq=ZDp):=by decide
 have n2: ¬(ZDr=ZDp):=by decide
 have n3: ¬(ZDr=ZDq):=by decide
 obtain⟨nm,kd,ln,p,hd,tl,ms⟩:=d
 rcases K.k with ⟨k,a,b,c,e,hm⟩ | ⟨k,hl,hp,⟨n,e,hn9⟩,ht,hm⟩ | ⟨k,hl,hp,a,b,c⟩
 ·simp only at k a b c e hm
  subst k;subst a;subst b;subst c;subst e
  unfold ZCU ZBE ZCC wAt
  simp only[if_true,al_len_cons,al_len_nil,List.getElem?_cons_zero,List.getElem?_cons_succ,Option.getD_some,ZHS hm,and_self]
 ·simp only at k hl hp e ht hm
  subst k;subst e
  unfold ZCU ZBE ZCC wAt
  simp only[show¬((2:Int)=1)by decide,if_false,if_true,al_len_cons,al_len_nil,List.getElem?_cons_zero,List.getElem?_cons_succ,Option.getD_some,ZHS hm,ZHS ht,ZQT hp,ZI9 hn9,and_self,n1,and_false]
 ·simp only at k hl hp a b c
  subst k;subst a;subst b;subst c
  unfold ZCU ZBE ZCC wAt
  simp only[show¬((3:Int)=1)by decide,show¬((3:Int)=2)by decide,if_false,if_true,al_len_cons,al_len_nil,List.getElem?_cons_zero,List.getElem?_cons_succ,Option.getD_some,ZQT hp,and_self,n2,n3,and_false]
def ZQV{α:Type}(T:α->Str)(ok:α->Bool)(hno: ∀d,ok d=false->T d=[])(R R':Str->α)(C C':Str->Prop)[DecidablePred C][DecidablePred C'](z:α)
  (hR: ∀d,ok d=true->R (T d)=d) (hR': ∀d,ok d=true->R' (T d)=d) (hC: ∀d,ok d=true->C (T d)) (hC': ∀d,ok d=true->C' (T d)) (h0: ¬C []) (h0': ¬C' []) (s:Str):
  (if C s/\T (R s)=s then(R s,true)else(z,false))=(if C' s/\T (R' s)=s then(R' s,true)else(z,false)):=by
 have key: ∀(R R':Str->α) (C C':Str->Prop),(∀d,ok d=true->R' (T d)=d)->(∀d,ok d=true->C' (T d))-> ¬C []->C s/\T (R s)=s->R' s=R s/\C' s/\T (R' s)=s:=by
  rintro R R' C C' h1 h2 h3 ⟨c,e⟩
  cases hk:ok (R s)
  ·rw[hno _ hk]at e;rw[<-e]at c;exact absurd c h3
  ·have e1:=h1 _ hk
   have e2:=h2 _ hk
   rw[e]at e1 e2
   exact⟨e1,e2,by rw[e1];exact e⟩
 by_cases h:C s/\T (R s)=s
 ·obtain⟨e1,e2,e3⟩:=key R R' C C' hR' hC' h0 h
  rw[al_if_pos h,al_if_pos ⟨e2,e3⟩,e1]
 ·rw[al_if_neg h]
  by_cases h':C' s/\T (R' s)=s
  ·obtain⟨e1,e2,e3⟩:=key R' R C' C hR hC h0' h'
   exact absurd ⟨e2,e3⟩ h
  ·rw[al_if_neg h']
def devP(s:Str):Device×Bool:=if s≠[]/\ZBW (ZBE (splC 32 s))=s then(ZBE (splC 32 s),true)else(⟨[],0,[],⟨0,0⟩,0,0,0⟩,false)
def ZWZ(s:Str):(if s≠[]/\ZBW (ZCC (splC 32 s))=s then(ZCC (splC 32 s),true)else(⟨[],0,[],⟨0,0⟩,0,0,0⟩,false))=devP s:=
 ZQV ZBW devB (λd h=>by unfold ZBW;rw[h,al_if_neg (by simp)]) (λs=>ZCC (splC 32 s)) (λs=>ZBE (splC 32 s)) (λs=>s≠[]) (λs=>s≠[]) _
  (λd h=>by rw[ZQR h];exact(ZQU h).2) (λd h=>by rw[ZQR h];exact(ZQU h).1) (λd h=>ZQS h) (λd h=>ZQS h) (by simp) (by simp) s
def ZCt(c:Cue):List Str:=Go.Lib.itoa c.Tick::c.Name::ZAR c.Level::(if c.Ramp=0 then []else [inW,Go.Lib.itoa c.Ramp])
def ZBO(c:Cue):Str:=if ZAz c=true then ZBi 32 (ZCt c)else []
structure CueK(c:Cue):Prop where
 t: ∃n:Nat,c.Tick=n/\n<=999
 nm:isNm c.Name=true
 l:wi c.Level (-4096) 4096=true
 r: ∃n:Nat,c.Ramp=n/\n<=999
def ZFB{c:Cue}(h:ZAz c=true):CueK c:=by
 unfold ZAz at h
 simp only[ZAM]at h
 obtain⟨a,b,e,d⟩:=h
 obtain⟨a1,a2⟩:=ZAr.1 a
 obtain⟨d1,d2⟩:=ZAr.1 d
 exact⟨⟨c.Tick.toNat,by omega,by omega⟩,b,ZLk e (by decide) (by decide),⟨c.Ramp.toNat,by omega,by omega⟩⟩
def ZWa{c:Cue}(h:CueK c): ∀w∈ZCt c,Free w:=by
 obtain⟨⟨n,e,hn⟩,b,l,⟨m,f,hm⟩⟩:=h
 unfold ZCt
 rw[e,f]
 split
 ·simp only[List.mem_cons,List.not_mem_nil,or_false,forall_eq_or_imp,forall_eq]
  exact⟨ZI8 hn,(ZG b).1,ZGA l⟩
 ·simp only[List.mem_cons,List.not_mem_nil,or_false,forall_eq_or_imp,forall_eq]
  exact⟨ZI8 hn,(ZG b).1,ZGA l,ZCs rfl,ZI8 hm⟩
def ZLm{c:Cue}(h:ZAz c=true):splC 32 (ZBO c)=ZCt c:=by
 unfold ZBO
 rw[al_if_pos h]
 exact ZLa (by unfold ZCt;simp) (ZWa (ZFB h))
def ZWb{c:Cue}(h:ZAz c=true):ZBO c≠[]:=by
 unfold ZBO
 rw[al_if_pos h]
 obtain⟨n,e,hn⟩:=(ZFB h).t
 unfold ZCt
 rw[e]
 exact ZLl (ZI4 hn)
def ZCV(w:List Str):Cue:=⟨numV (wAt w 0),wAt w 1,ZBD (wAt w 2),if w.length=5 then numV (wAt w 4)else 0⟩
def ZFC(w:List Str):Cue:=⟨numV (wAt w 0),wAt w 1,ZBD (wAt w 2),numV (wAt w 4)⟩
theorem ZZv:numV []=0:=rfl
def ZQW{c:Cue}(h:ZAz c=true):ZCV (ZCt c)=c/\ZFC (ZCt c)=c:=by
 obtain⟨⟨n,e,hn⟩,b,l,⟨m,f,hm⟩⟩:=ZFB h
 obtain⟨t,nm,lv,rp⟩:=c
 simp only at e b l f
 subst e;subst f
 unfold ZCt ZCV ZFC wAt
 by_cases h0:((m:Nat):Int)=0
 ·obtain rfl:m=0:=by omega
  simp[ZI9 hn,ZHS l,ZZv]
 ·simp only[h0,if_false]
  simp[ZI9 hn,ZHS l,ZI9 hm]
def cueC(s:Str):Prop:=((splC 32 s).length=3\/(splC 32 s).length=5)/\(numP (wAt (splC 32 s) 0)).2=true/\(ZAh (wAt (splC 32 s) 2)).2=true/\((splC 32 s).length=5->(numP (wAt (splC 32 s) 4)).2=true)
def cueP(s:Str):Cue×Bool:=open Classical in if cueC s/\ZBO (ZCV (splC 32 s))=s then(ZCV (splC 32 s),true)else(⟨0,[],0,0⟩,false)
def ZWc{c:Cue}(h:ZAz c=true):cueC (ZBO c):=by
 unfold cueC
 rw[ZLm h]
 obtain⟨⟨n,e,hn⟩,b,l,⟨m,f,hm⟩⟩:=ZFB h
 unfold ZCt wAt
 rw[e,f]
 by_cases h0:((m:Nat):Int)=0
 ·rw[al_if_pos h0]
  simp[ZCT hn,ZDI l]
 ·rw[al_if_neg h0]
  simp[ZCT hn,ZDI l,ZCT hm]
def ZJ: ¬cueC []:=by
 intro h
 have:splC 32 []=[[]]:=rfl
 unfold cueC at h
 rw[this]at h
 simp at h
open Classical in
def ZWd(s:Str):(if s≠[]/\ZBO (ZFC (splC 32 s))=s then(ZFC (splC 32 s),true)else(⟨0,[],0,0⟩,false))=cueP s:=
 ZQV ZBO ZAz (λd h=>by unfold ZBO;rw[h,al_if_neg (by simp)]) (λs=>ZFC (splC 32 s)) (λs=>ZCV (splC 32 s)) (λs=>s≠[]) cueC _
  (λd h=>by rw[ZLm h];exact(ZQW h).2) (λd h=>by rw[ZLm h];exact(ZQW h).1) (λd h=>ZWb h) (λd h=>ZWc h) (by simp) ZJ s
end Ev
end
noncomputable section
namespace Ev
open Go
def ZWe{R T:Type}{f:T->(T->Option R)->(T->Option R)->Option R}{K:T->Option R}(st:Nat->T)(hit:Nat->Bool)(res:Nat->Option R)(n:Nat)
  (hs: ∀i,i<n-> ∀rec K,f (st i) rec K=cond (hit i) (res i) (rec (st (i+1)))) (he: ∀rec K,f (st n) rec K=K (st n)):
  ∀(d i m:Nat),i+d=n->d<m->(∃j,i<=j/\j<n/\hit j=true/\ZAD f m (st i) K=res j)\/((∀j,i<=j->j<n->hit j=false)/\ZAD f m (st i) K=K (st n)):=by
 intro d
 induction d with
 | zero=>
  intro i m h1 h2
  obtain⟨m,rfl⟩: ∃k,m=k+1:=⟨m-1,by omega⟩
  have:i=n:=by omega
  subst this
  right
  exact⟨λj h1 h2=>by omega,by rw[ZAT,he]⟩
 | succ d ih=>
  intro i m h1 h2
  obtain⟨m,rfl⟩: ∃k,m=k+1:=⟨m-1,by omega⟩
  rw[ZAT,hs i (by omega)]
  cases hh:hit i
  ·rw[al_cond_false]
   rcases ih (i+1) m (by omega) (by omega)with ⟨j,a,b,c,e⟩ | ⟨a,e⟩
   ·exact .inl ⟨j,by omega,b,c,e⟩
   ·refine .inr ⟨λj h1 h2=> ?_,e⟩
    by_cases hj:j=i
    ·subst hj;exact hh
    ·exact a j (by omega) h2
  ·exact .inl ⟨i,Nat.le_refl _,by omega,hh,rfl⟩
def ZJA{R T:Type}{f:T->(T->Option R)->(T->Option R)->Option R}{K:T->Option R}(st:Nat->T)(hit:Nat->Bool)(res:Nat->Option R)(n:Nat)(hn:n<=18446744073709551616)
  (hs: ∀i,i<n-> ∀rec K,f (st i) rec K=cond (hit i) (res i) (rec (st (i+1)))) (he: ∀rec K,f (st n) rec K=K (st n)):
  (∃j,j<n/\hit j=true/\ZAD f fuel (st 0) K=res j)\/((∀j,j<n->hit j=false)/\ZAD f fuel (st 0) K=K (st n)):=by
 rcases ZWe st hit res n hs he n 0 fuel (by omega) (by rw[ZBu];omega)with ⟨j,_,b,c,e⟩ | ⟨a,e⟩
 ·exact .inl ⟨j,b,c,e⟩
 ·exact .inr ⟨λj hj=>a j (Nat.zero_le _) hj,e⟩
def ZHT(s:Str)(c:UInt8)(hs:s.length<=1048576):G10 (s,[c],())=some (splC c s,()):=by
 unfold G10 F10
 rw[ZAA]
 have:G38 (s,[c],())=some (splC c s,()):=by
  show ZIQ (s,[c],())=_
  unfold ZIQ
  rw[al_if_pos ⟨by show s.length<_;omega,by simp⟩,ZWO]
 rw[this];rfl
def spF(c:UInt8)(a:List Str×Str)(x:UInt8):List Str×Str:=if x=c then(a.1++[a.2],[])else(a.1,a.2++[x])
def ZLn(c:UInt8): ∀(s:Str) (o:List Str) (w h:Str) (t:List Str),splC c s=h::t->(s.foldl (spF c) (o,w)).1++[(s.foldl (spF c) (o,w)).2]=o++(w++h)::t
 | [],o,w,h,t,e=>by simp[splC]at e;obtain⟨rfl,rfl⟩:=e;simp
 | x::s,o,w,h,t,e=>by
  rw[List.foldl_cons]
  by_cases hx:x=c
  ·subst hx
   rw[ZHM]at e
   obtain⟨rfl,rfl⟩:=List.cons.inj e
   cases e2:splC x s with
   | nil=>exact absurd e2 (ZCd x s)
   | cons p q=>
    have:=ZLn x s (o++[w]) [] p q e2
    have hsp:spF x (o,w) x=(o++[w],[]):=by simp[spF]
    rw[hsp,this]
    simp
  ·cases e2:splC c s with
   | nil=>exact absurd e2 (ZCd c s)
   | cons a b=>
    rw[ZHN hx e2]at e
    obtain⟨rfl,rfl⟩:=List.cons.inj e
    have hsp:spF c (o,w) x=(o,w++[x]):=by simp[spF,hx]
    rw[hsp,ZLn c s o (w++[x]) a b e2]
    simp
def ZWf(c:UInt8)(s:Str):(s.foldl (spF c) ([],[])).1++[(s.foldl (spF c) ([],[])).2]=splC c s:=by
 cases e:splC c s with
 | nil=>exact absurd e (ZCd c s)
 | cons h t=>rw[ZLn c s [] [] h t e];simp
def ZLo(c:UInt8)(s:Str): ∀i,i<=s.length->((s.take i).foldl (spF c) ([],[])).1.length<=i/\((s.take i).foldl (spF c) ([],[])).2.length<=i/\(s.take i).drop (i-((s.take i).foldl (spF c) ([],[])).2.length)=((s.take i).foldl (spF c) ([],[])).2
 | 0,_=>by simp
 | i+1,h=>by
  obtain⟨h1,h2,h3⟩:=ZLo c s i (by omega)
  have e:=ZBh s i (by omega)
  rw[e,List.foldl_append,List.foldl_cons,List.foldl_nil]
  generalize (s.take i).foldl (spF c) ([],[])=a at h1 h2 h3⊢
  have hl:(s.take i).length=i:=by rw[al_len_take];omega
  unfold spF
  by_cases hx:s[i]=c
  ·rw[al_if_pos hx]
   refine⟨by simp;omega,by simp,?_⟩
   show List.drop (i+1-0) _=[]
   apply List.drop_eq_nil_of_le
   rw[al_len_append,hl];exact Nat.le_refl _
  ·rw[al_if_neg hx]
   refine⟨Nat.le_trans h1 (Nat.le_succ _),by simp;omega,?_⟩
   show List.drop (i+1-(a.2++[s[i]]).length) (s.take i++[s[i]])=a.2++[s[i]]
   rw[al_len_append,List.length_singleton,show i+1-(a.2.length+1)=i-a.2.length by omega,List.drop_append_of_le_length (by omega),h3]
def ZGC(s:Str)(c:UInt8)(hs:s.length<=1048576):G41 (s,[c],())=some (splC c s,()):=by
 unfold G41 F41
 have run:=ZAW (f:=s41_0) (K:=λx1=>okIf ((0:Int)<=x1.2.2.2.1/\(x1.2.2.2.1:Int)<=List.length x1.1) (capK (List.length x1.2.2.1+List.length ([(List.drop (Int.toNat x1.2.2.2.1) x1.1)]:List Str)) (some ((x1.2.2.1++([(List.drop (Int.toNat x1.2.2.2.1) x1.1)]:List Str)),()))))
  (λi=>(s,[c],((s.take i).foldl (spF c) ([],[])).1,((i-((s.take i).foldl (spF c) ([],[])).2.length:Nat):Int),(i:Int),())) s.length (by omega)
  (by
   intro i hi rec K
   obtain⟨h1,h2,h3⟩:=ZLo c s i (by omega)
   have e:=ZBh s i hi
   have e2:((s.take (i+1)).foldl (spF c) ([],[]))=spF c ((s.take i).foldl (spF c) ([],[])) s[i]:=by rw[e,List.foldl_append];rfl
   rw[e2]
   generalize (s.take i).foldl (spF c) ([],[])=a at h1 h2 h3⊢
   have w1:w64 ((i:Int)+Int.ofNat 1)=((i+1:Nat):Int):=ZAB
   have w2:w64 ((i:Int)+1)=((i+1:Nat):Int):=ZAB
   have hd:List.drop i (List.take (i+1) s)=[s[i]]:=by
    rw[e,List.drop_append_of_le_length (by simp;omega)]
    rw[List.drop_eq_nil_of_le (by simp;omega)];rfl
   simp only[s41_0,al_len_cons,al_len_nil,Nat.zero_add,w1,w2,ZAX,hd]
   rw[show(!decide (([c]:Str)=[]))=true by simp,al_cond_true,ZA,ZBB (by refine⟨by omega,by omega,?_⟩;simp;omega)]
   unfold spF
   by_cases hx:s[i]=c
   ·rw[ZA (by rw[hx]),al_if_pos hx,ZBB ⟨by omega,by omega,by simp;omega⟩,ZAC,h3]
    simp
   ·rw[ZAA (by simpa using hx),al_if_neg hx]
    congr 1
    simp only[al_len_append,al_len_cons,al_len_nil]
    congr 4
    omega)
  (by
   intro rec K
   simp only[s41_0,al_len_cons,al_len_nil,Nat.zero_add]
   rw[show(!decide (([c]:Str)=[]))=true by simp,al_cond_true,ZAA (by rw[ZAB];simp;omega)])
 refine run.trans ?_
 obtain⟨h1,h2,h3⟩:=ZLo c s s.length (Nat.le_refl _)
 have hall:=ZWf c s
 rw[List.take_length]at h1 h2 h3⊢
 simp only
 rw[ZBB ⟨by omega,by omega⟩,ZAX,h3,ZAC,hall]
def ZLp(s t:Str)(hs:s.length<=1048576):G96 (s,t,())=some ((Go.Lib.cut s t).1,(Go.Lib.cut s t).2.1,(Go.Lib.cut s t).2.2,()):=by
 show cutF (s,t,())=_
 unfold cutF
 rw[al_if_pos (by show s.length<_;omega)]
def ZQX(s:Str)(c:UInt8):G190 (s,[c],())=some (ZBj c s,()):=by
 unfold G190 F190 G279 F279 G339 F339
 cases s with
 | nil=>
  simp only[al_len_nil,al_len_cons]
  rw[ZAA];rfl
 | cons x r=>
  simp only[al_len_nil,al_len_cons,Nat.zero_add]
  rw[ZA,ZBB ⟨by simp,by simp;omega⟩]
  simp only[al_bind_some]
  have ht:List.take (Int.toNat (Int.ofNat 1)) (x::r)=[x]:=rfl
  have hd:List.drop (Int.toNat (Int.ofNat 1)) (x::r)=r:=rfl
  rw[ht,hd]
  by_cases hx:x=c
  ·subst hx
   rw[ZA rfl,ZBB ⟨by simp,by simp;omega⟩,ZF8];rfl
  ·rw[ZAA (by simpa using hx),ZHR r hx];rfl
end Ev
end
noncomputable section
namespace Ev
open Go
def rd0{R α:Type}{x:α}{r:List α}{K:α->Option R} :rdL (x::r) 0 K=K x:=ZAE (i:=0) rfl
def ZWg(a:Nat)(s:Str)(x:UInt8):digV a (s++[x])=10*digV a s+(x.toNat-48):=by
 unfold digV;rw[List.foldl_append];rfl
def ZBy(x:UInt8):x.toNat<256:=x.toNat_lt
def ZWh: ∀(s:Str),s.length<=4->digV 0 s<=1000000:=by
 intro s h
 match s,h with
 | [],_=>rw[ZDH];omega
 | [a],_=>rw[ZBN,ZDH];have:=ZBy a;omega
 | [a,b],_=>rw[ZBN,ZBN,ZDH];have:=ZBy a;have:=ZBy b;omega
 | [a,b,c],_=>rw[ZBN,ZBN,ZBN,ZDH];have:=ZBy a;have:=ZBy b;have:=ZBy c;omega
 | [a,b,c,d],_=>rw[ZBN,ZBN,ZBN,ZBN,ZDH];have:=ZBy a;have:=ZBy b;have:=ZBy c;have:=ZBy d;omega
 | _::_::_::_::_::_,h=>simp at h
def ZWi{x:UInt8}(h:ZA3 x=true):IntKind.wrap .u8 (Int.ofNat x.toNat-48)=((x.toNat-48:Nat):Int):=by
 unfold ZA3 at h
 simp only[ZAM,ZAZ]at h
 have:=ZBy x
 show IntKind.wrap .u8 ((x.toNat:Int) -48)=_
 simp[IntKind.wrap,IntKind.signed,IntKind.bits]
 omega
def ZQY(s:Str):ZCB s=(decide (s≠[]) && (decide (s.length<=3) && (!(decide (1<s.length) && decide (s[0]?=some 48)) && s.all ZA3))):=by
 match s with
 | []=>rfl
 | [x]=>simp[ZCB]
 | x::y::r=>
  unfold ZCB
  simp only[al_len_cons,List.getElem?_cons_zero]
  by_cases h1:r.length<=1
  ·by_cases h2:x=48
   ·simp[h1,h2]
   ·simp[h1,h2]
  ·simp[h1]
def ZQZ(s:Str)(h:s.length<=3):ZAD s99_0 fuel (s,0,Int.ofNat s.length,0,()) (λx=>some (x.2.1,true,()))=some (if s.all ZA3=true then((digV 0 s:Nat):Int)else 0,s.all ZA3,()):=by
 have run:=ZDT (f:=s99_0) (K:=λx=>some (x.2.1,true,())) (λi=>(s,((digV 0 (s.take i):Nat):Int),Int.ofNat s.length,(i:Int),())) (λi=>((s[i]?).map ZA3).getD true) (some (0,false,())) s.length (by omega)
  (by
   intro i hi rec K
   have hx:s[i]?=some s[i]:=by simp
   have e:=ZBh s i hi
   have hb:=ZWh (s.take i) (by rw[al_len_take];omega)
   have w2:w64 ((i:Int)+1)=((i+1:Nat):Int):=ZAB
   simp only[s99_0,ZAE hx,w2,hx,Option.map_some,Option.getD_some]
   rw[ZA,e,ZWg]
   generalize digV 0 (s.take i)=v at hb
   have hl:=ZBy s[i]
   by_cases h1:(Int.ofNat s[i].toNat)<48
   ·have hd:ZA3 s[i]=false:=by unfold ZA3;simp at h1⊢;omega
    rw[hd,ZAL h1];rfl
   ·by_cases h2:(Int.ofNat s[i].toNat)>57
    ·have hd:ZA3 s[i]=false:=by unfold ZA3;simp at h1 h2⊢;omega
     rw[hd,ZAG h1,ZAL h2];rfl
    ·have hd:ZA3 s[i]=true:=by unfold ZA3;simp at h1 h2⊢;omega
     rw[hd,ZAG h1,ZAG h2,ZWi hd]
     simp only[ZAH,al_cond_true,al_cond_false]
     have e1:w64 (10*(v:Int))=10*(v:Int):=ZAB
     have e2:w64 ((s[i].toNat-48:Nat):Int)=((s[i].toNat-48:Nat):Int):=ZAB
     rw[e1,e2,ZAB]
     congr 2)
  (by
   intro rec K
   simp only[s99_0]
   rw[ZAA])
 have ea:(List.range s.length).all (λi=>((s[i]?).map ZA3).getD true)=s.all ZA3:=by
  rw[Bool.eq_iff_iff,List.all_eq_true,List.all_eq_true]
  constructor
  ·intro h x hx
   obtain⟨i,hi⟩:=List.mem_iff_getElem?.mp hx
   have:=h i (by simpa using (al_get_iff.mp hi).1)
   rw[hi]at this;exact this
  ·intro h i hi
   have hi:i<s.length:=by simpa using hi
   have hx:s[i]?=some s[i]:=by simp
   rw[hx];exact h _ (by simp)
 rw[ea]at run
 rw[List.take_zero]at run
 refine run.trans ?_
 cases s.all ZA3
 ·rfl
 ·rw[List.take_length];rfl
def ZGD(s:Str)(hs:s.length<=1048576):G99 (s,())=some ((numP s).1,(numP s).2,()):=by
 unfold G99 F99 numP
 rw[ZQY]
 simp only
 by_cases h0:s=[]
 ·subst h0;rfl
 ·rw[ZAL h0,Bool.true_and]
  have hl0:s.length≠0:=λe=>h0 (List.length_eq_zero_iff.mp e)
  rw[show(!(decide ((Int.ofNat s.length)=0)))=true by simp[h0],al_cond_true]
  by_cases h3:s.length<=3
  ·rw[show(!(decide ((Int.ofNat s.length)>3)))=true by simp;omega,al_cond_true,ZAL h3,Bool.true_and]
   obtain⟨x,r,rfl⟩: ∃x r,s=x::r:=by
    cases s with
    | nil=>exact absurd rfl h0
    | cons x r=>exact⟨x,r,rfl⟩
   by_cases h1:1<(x::r).length
   ·rw[ZA (by simp at h1⊢;omega),rd0,ZAL h1,Bool.true_and]
    by_cases hx:x=48
    ·subst hx
     rw[show(decide (Int.ofNat (UInt8.toNat 48)=48))=true from rfl,al_cond_true];rfl
    ·have hx': ¬(Int.ofNat x.toNat=48):=λe=>hx (by
      have:x.toNat=48:=by simp only[ZAU]at e;omega
      exact UInt8.toNat_inj.1 this)
     rw[ZAA hx',ZQZ _ h3]
     simp only[List.getElem?_cons_zero,Option.some.injEq,hx,decide_false,ZAH,Bool.true_and]
     cases (x::r).all ZA3<;>rfl
   ·rw[ZAA (by simp only[al_len_cons,ZAU]at h1⊢;omega),ZQZ _ h3,ZAG h1,Bool.false_and,ZAH,Bool.true_and]
    cases (x::r).all ZA3<;>rfl
  ·rw[show(!(decide ((Int.ofNat s.length)>3)))=false by simp;omega,al_cond_false,ZAG h3,Bool.false_and]
   rfl
def sumV(s:Str):Int:=s.foldl (λa x=>10*a+(x.toNat:Int) -48) 0
def ZQa(s:Str)(x:UInt8):sumV (s++[x])=10*sumV s+(x.toNat:Int) -48:=by
 unfold sumV;rw[List.foldl_append];rfl
def ZWj(s:Str): ∀i,i<=s.length->i<=4-> -1000000<=sumV (s.take i)/\sumV (s.take i)<=1000000:=by
 have step: ∀i,(hi:i<s.length)->sumV (s.take (i+1))=10*sumV (s.take i)+(s[i].toNat:Int) -48:=λi hi=>by rw[ZBh s i hi,ZQa]
 intro i h1 h4
 have h0:sumV (s.take 0)=0:=by rw[List.take_zero];rfl
 have s1:1<=s.length-> -48<=sumV (s.take 1)/\sumV (s.take 1)<=255:=λh=>by
  have e1:sumV (s.take 1)=_:=step 0 h
  have:=ZBy s[0]
  omega
 have s2:2<=s.length-> -1000<=sumV (s.take 2)/\sumV (s.take 2)<=3000:=λh=>by
  have e1:sumV (s.take 2)=_:=step 1 h
  have:=ZBy s[1]
  have:=s1 (by omega)
  omega
 have s3:3<=s.length-> -11000<=sumV (s.take 3)/\sumV (s.take 3)<=31000:=λh=>by
  have e1:sumV (s.take 3)=_:=step 2 h
  have:=ZBy s[2]
  have:=s2 (by omega)
  omega
 have s4:4<=s.length-> -111000<=sumV (s.take 4)/\sumV (s.take 4)<=311000:=λh=>by
  have e1:sumV (s.take 4)=_:=step 3 h
  have:=ZBy s[3]
  have:=s3 (by omega)
  omega
 have:i=0\/i=1\/i=2\/i=3\/i=4:=by omega
 rcases this with rfl | rfl | rfl | rfl | rfl
 ·rw[h0];omega
 ·have:=s1 h1;omega
 ·have:=s2 h1;omega
 ·have:=s3 h1;omega
 ·have:=s4 h1;omega
def ZQb: ∀(s:Str),s.all ZA3=true-> ∀a:Nat,s.foldl (λa x=>10*a+(x.toNat:Int) -48) (a:Int)=((digV a s:Nat):Int)
 | [],_,a=>rfl
 | x::s,h,a=>by
  simp only[List.all_cons,ZAM]at h
  have hx:=h.1
  unfold ZA3 at hx
  simp only[ZAM,ZAZ]at hx
  rw[List.foldl_cons,ZBN,<-ZQb s h.2]
  congr 1
  omega
def ZFD(s:Str)(hs:s.length<=1048576):G144 (s,())=some ((numP s).1,(numP s).2,()):=by
 unfold G144 F144
 have run:=ZAW (f:=s144_0 G78) (K:=λx1=>cond (!(decide ((Int.ofNat (List.length x1.1))=0))) (cond (!(decide (x1.2.1<0))) (cond (!(decide (x1.2.1>999))) ((G78 (x1.2.1,())).bind λx2=>cond (!decide (x2.1=x1.1)) (some ((0:Int),false,())) (some (x1.2.1,true,()))) (some (0,false,()))) (some (0,false,()))) (some (0,false,())))
  (λi=>(s,sumV (s.take i),(i:Int),())) (min s.length 4) (by omega)
  (by
   intro i hi rec K
   have hx:s[i]?=some s[i]:=by simp
   obtain⟨b1,b2⟩:=ZWj s i (by omega) (by omega)
   have hl:=ZBy s[i]
   have w2:w64 ((i:Int)+1)=((i+1:Nat):Int):=ZAB
   simp only[s144_0,ZAE hx,w2]
   rw[ZA,ZA,ZBh s i (by omega),ZQa]
   generalize sumV (s.take i)=v at b1 b2
   have e1:w64 (10*v)=10*v:=ZAB
   have e2:w64 (Int.ofNat s[i].toNat)=(s[i].toNat:Int):=ZAB (by simp only[ZAU];omega) (by simp only[ZAU];omega)
   rw[e1,e2,ZAB (n:=10*v+(s[i].toNat:Int)) (by omega) (by omega),ZAB])
  (by
   intro rec K
   simp only[s144_0]
   by_cases h4:s.length<=4
   ·rw[ZAA]
   ·rw[ZA,ZAA])
 rw[List.take_zero]at run
 refine run.trans ?_
 simp only
 generalize hv:sumV (s.take (min s.length 4))=v
 have key: ∀m:Nat,m<=999->s=Go.Lib.itoa m->v=m:=λm hm e=>by
  have h1:=ZCT hm
  rw[<-e]at h1
  unfold numP at h1
  split at h1
  ·rename_i hk
   rw[ZQY]at hk
   simp only[ZAM,ZAZ]at hk
   have ht:s.take (min s.length 4)=s:=List.take_of_length_le (by omega)
   rw[ht]at hv
   have:=ZQb s hk.2.2.2 0
   rw[<-hv]
   unfold sumV
   rw[show(0:Int)=((0:Nat):Int)from rfl,this]
   exact(Prod.mk.injEq ..▸h1).1
  ·cases h1
 by_cases h0:s=[]
 ·subst h0;rfl
 ·rw[show(!(decide ((Int.ofNat s.length)=0)))=true by simp[h0],al_cond_true]
  rcases ZFA s with hn | ⟨m,hm,e,hn⟩
  ·rw[hn]
   by_cases c1:v<0
   ·rw[ZAL c1];rfl
   ·by_cases c2:v>999
    ·rw[ZAG c1,ZAL c2];rfl
    ·rw[ZAG c1,ZAG c2,numS (by omega) (by omega)]
     simp only[ZAH,al_cond_true,al_bind_some]
     have hne: ¬Go.Lib.itoa v=s:=λe=>by
      obtain⟨k,rfl⟩: ∃k:Nat,v=k:=⟨v.toNat,by omega⟩
      have:=ZCT (n:=k) (by omega)
      rw[e,hn]at this
      cases this
     rw[ZAG hne];rfl
  ·have hvm:=key m hm e
   subst hvm
   rw[hn,ZAG (by omega),ZAG (by omega),numS (by omega) (by omega)]
   simp only[ZAH,al_cond_true,al_bind_some]
   rw[ZAL e.symm];rfl
end Ev
end
noncomputable section
namespace Ev
open Go
def ZFE{s:Str}(h: ∀x,wi x (-4096) 4096=true->ZAR x≠s):ZAh s=(0,false):=by
 rcases ZWU s with ⟨e,_⟩ | ⟨x,hx,e,_⟩
 ·exact e
 ·exact absurd e.symm (h x hx)
def ZQc(c:UInt8)(s:Str):(ZBj c s).length<=s.length:=by
 cases s with
 | nil=>exact Nat.le_refl _
 | cons x r=>
  by_cases h:x=c
  ·subst h;rw[ZF8];simp
  ·rw[ZHR r h];exact Nat.le_refl _
def ZWk(s:Str)(c:UInt8):(Go.Lib.cut s [c]).1.length<=s.length/\(Go.Lib.cut s [c]).2.1.length<=s.length:=by
 rcases ZQH s c with ⟨_,_,e⟩ | ⟨p,r,h,_,_,e⟩
 ·rw[e];simp
 ·rw[e,h];simp;omega
def ZWl(f1 f2 f3)(s:Str)(x k a b:Int)(n:Nat)(K):ZAD (s189_2 f1 f2 f3 G21) (n+3) (s,x,k,[a,b],2,0,()) K=
  (G21 (a,())).bind λx2=>cond (decide (x2.1=s)) (some (a,true,())) ((G21 (b,())).bind λx2=>cond (decide (x2.1=s)) (some (b,true,())) (K (s,x,k,[a,b],2,2,()))):=by kernel_rfl
def ZJB(s:Str)(hs:s.length<=1048576):G189 (s,())=some ((ZAh s).1,(ZAh s).2,()):=by
 unfold G189 F189
 have hu:=ZQc 45 s
 have hc:=ZWk (ZBj 45 s) 46
 simp only[ZQX,al_bind_some,ZLp (ZBj 45 s) [46] (by omega),ZGD _ (show(Go.Lib.cut (ZBj 45 s) [46]).1.length<=1048576 by omega)]
 rcases ZFA (Go.Lib.cut (ZBj 45 s) [46]).1 with hn | ⟨n,hn9,e,hn⟩
 ·rw[hn]
  have:ZAh s=(0,false):=ZFE λx hx e=>by
   obtain⟨n,k,t,h1,_,_,h4,_⟩:=ZI7 hx
   rw[e]at h4
   rw[h4,ZCT (by omega)]at hn
   cases hn
  rw[this];rfl
 ·rw[hn]
  simp only[ZAF,ZAH,al_cond_true]
  by_cases h3:(Go.Lib.cut (ZBj 45 s) [46]).2.1.length<=3
  ·rw[ZAA]
   have e8:w64 (8*(n:Int))=8*(n:Int):=ZAB
   rw[e8]
   have hne:s≠[]:=by
    rintro rfl
    exact ZI4 hn9 e.symm
   have run:=ZJA (f:=s189_0 G190 G96 G99 G21) (K:=λ_=>some ((0:Int),false,()))
    (λk=>(s,8*(n:Int),(k:Int),())) (λk=>decide (ZAR (8*(n:Int)+k)=s) || decide (ZAR (-(8*(n:Int)) -k)=s)) (λk=>some (if ZAR (8*(n:Int)+k)=s then 8*(n:Int)+k else-(8*(n:Int)) -k,true,())) 8 (by omega)
    (by
     intro k hk rec K
     simp only[s189_0]
     rw[ZA]
     have w1:w64 (8*(n:Int)+k)=8*(n:Int)+k:=ZAB
     have w2:w64 (0-8*(n:Int))= -(8*(n:Int)):=by rw[ZAB];omega
     have w3:w64 (-(8*(n:Int)) -k)= -(8*(n:Int)) -k:=ZAB
     have w4:w64 ((k:Int)+1)=((k+1:Nat):Int):=ZAB
     rw[w1,w2,w3]
     obtain⟨m,hm⟩:=ZBp 3 (by omega)
     rw[hm]
     have hl:(Int.ofNat ([8*(n:Int)+k,-(8*(n:Int)) -k]:List Int).length)=2:=rfl
     rw[hl]
     refine(ZWl _ _ _ s _ _ _ _ m _).trans ?_
     have f1: ∀y,G21 (y,())=some (ZAR y,()):=fmI
     simp only[f1,al_bind_some,w4]
     by_cases h1:ZAR (8*(n:Int)+k)=s
     ·rw[ZAL h1,al_if_pos h1];rfl
     ·rw[ZAG h1,al_if_neg h1]
      by_cases h2:ZAR (-(8*(n:Int)) -k)=s
      ·rw[ZAL h2];rfl
      ·rw[ZAG h2];rfl)
    (by
     intro rec K
     simp only[s189_0]
     rw[ZAA])
   rcases run with ⟨k,hk,hh,hr⟩ | ⟨hh,hr⟩
   ·refine hr.trans ?_
    by_cases h1:ZAR (8*(n:Int)+k)=s
    ·rw[al_if_pos h1,ZLe hne h1]
    ·rw[ZAG h1,Bool.false_or]at hh
     rw[al_if_neg h1,ZLe hne (of_decide_eq_true hh)]
   ·refine hr.trans ?_
    have:ZAh s=(0,false):=ZFE λx hx ex=>by
     obtain⟨n',k,t,g1,g2,g3,g4,g5,g6,g7⟩:=ZI7 hx
     rw[ex]at g4
     have hnn:n'=n:=by
      have a1:=ZCT (n:=n') (by omega)
      rw[<-g4,hn]at a1
      have:=(Prod.mk.injEq ..▸a1).1
      omega
     subst hnn
     have:=hh k g2
     rw[Bool.or_eq_false_iff]at this
     by_cases h0:x<0
     ·rw[al_if_pos h0]at g7
      have e2: -(8*(n':Int)) -(k:Int)=x:=by omega
      rw[e2,ZAL ex]at this
      cases this.2
     ·rw[al_if_neg h0]at g7
      rw[<-g7,ZAL ex]at this
      cases this.1
    rw[this]
  ·rw[ZA]
   have:ZAh s=(0,false):=ZFE λx hx e=>by
    obtain⟨n,k,t,h1,_,h2,h4,h5,_⟩:=ZI7 hx
    rw[e]at h5
    rw[h5]at h3
    exact h3 h2
   rw[this]
def ZQd(s:Str)(hne:s≠[])(mi:Bool)(n:Nat)(hn9:n<=999)(hk: ∀x,wi x (-4096) 4096=true->s=ZAR x-> ∃k:Nat,k<8/\x=if mi=true then-(8*(n:Int)+k)else 8*(n:Int)+k):
  ZAD (s250_0 G41 G144 G147) fuel (s,mi,(n:Int),true,0,()) (λx5=>some ((0:Int),false,()))=some ((ZAh s).1,(ZAh s).2,()):=by
 have run:=ZJA (f:=s250_0 G41 G144 G147) (K:=λ_=>some ((0:Int),false,()))
  (λk=>(s,mi,(n:Int),true,(k:Int),())) (λk=>decide (ZAR (if mi=true then-(8*(n:Int)+k)else 8*(n:Int)+k)=s)) (λk=>some (if mi=true then-(8*(n:Int)+k)else 8*(n:Int)+k,true,())) 8 (by omega)
  (by
   intro k hk rec K
   simp only[s250_0,al_cond_true]
   rw[ZA]
   have w0:w64 (8*(n:Int))=8*(n:Int):=ZAB
   have w1:w64 (8*(n:Int)+k)=8*(n:Int)+k:=ZAB
   have w3:w64 (0-(8*(n:Int)+k))= -(8*(n:Int)+k):=by rw[ZAB];omega
   have w4:w64 ((k:Int)+1)=((k+1:Nat):Int):=ZAB
   have f1: ∀y,G147 (y,())=some (ZAR y,()):=fmS
   simp only[w0,w1,w3,w4,f1,al_bind_some]
   cases mi
   ·simp only[al_cond_false,Bool.false_eq_true,if_false]
   ·simp only[al_cond_true,if_true])
  (by
   intro rec K
   simp only[s250_0]
   rw[ZAA])
 rcases run with ⟨k,hk',hh,hr⟩ | ⟨hh,hr⟩
 ·refine hr.trans ?_
  rw[ZLe hne (of_decide_eq_true hh)]
 ·refine hr.trans ?_
  have:ZAh s=(0,false):=ZFE λx hx ex=>by
   obtain⟨k,h1,h2⟩:=hk x hx ex.symm
   have:=hh k h1
   rw[<-h2,ZAL ex]at this
   cases this
  rw[this]
def ZLq(s:Str)(mi:Bool)(n:Int):ZAD (s250_0 G41 G144 G147) fuel (s,mi,n,false,0,()) (λx5=>some ((0:Int),false,()))=some (0,false,()):=by
 obtain⟨m,hm⟩:=ZBp 3 (by omega)
 rw[hm,ZAT]
 simp only[s250_0]
 rfl
def ZHU(s:Str)(hs:s.length<=1048576):G250 (s,())=some ((ZAh s).1,(ZAh s).2,()):=by
 unfold G250 F250
 cases e:splC 46 s with
 | nil=>exact absurd e (ZCd 46 s)
 | cons w ws=>
  have hw:=(ZEP 46 s w (by rw[e];simp)).2
  have hsp:G41 (s,[46],())=some (w::ws,()):=by rw[ZGC s 46 hs,e]
  have g0:(w::ws)[(Int.toNat 0)]?=some w:=rfl
  simp only[hsp,al_bind_some,rd0,g0]
  have head: ∀x,wi x (-4096) 4096=true->s=ZAR x-> ∃(n k:Nat),n<=512/\k<8/\w=(if x<0 then 45::Go.Lib.itoa n else Go.Lib.itoa n)/\x=(if x<0 then-(8*(n:Int)+k)else 8*(n:Int)+k):=λx hx ex=>by
   obtain⟨n,k,t,g1,g2,g3,g4,g5,⟨r,g6⟩,g7⟩:=ZI7 hx
   rw[<-ex,e]at g6
   exact⟨n,k,g1,g2,(List.cons.inj g6).1,g7⟩
  cases w with
  | nil=>
   have:ZAh s=(0,false):=ZFE λx hx ex=>by
    obtain⟨n,k,g1,g2,g3,g4⟩:=head x hx ex.symm
    split at g3
    ·cases g3
    ·exact ZI4 (by omega) g3.symm
   rw[ZAA,this,show G144 (([]:Str),())=some (0,false,())from by rw[ZFD [] (by simp)];rfl]
   simp only[al_bind_some]
   exact ZLq s false 0
  | cons x r=>
   rw[ZA (by simp only[al_len_cons,ZAU];omega),rd0]
   have hne:s≠[]:=by
    rintro rfl
    cases e
   by_cases hx:x=45
   ·subst hx
    have hd:decide ((Int.ofNat (UInt8.toNat 45))=45)=true:=rfl
    rw[hd,al_cond_true,ZBB ⟨by decide,by simp only[al_len_cons];omega⟩]
    have hdr:List.drop (Int.toNat 1) ((45:UInt8)::r)=r:=rfl
    have hr:r.length<=1048576:=by simp at hw;omega
    rw[hdr,ZFD r hr]
    simp only[al_bind_some]
    rcases ZFA r with hn | ⟨n,hn9,er,hn⟩
    ·rw[hn,ZLq]
     have:ZAh s=(0,false):=ZFE λy hy ey=>by
      obtain⟨n,k,g1,g2,g3,g4⟩:=head y hy ey.symm
      split at g3
      ·have:=(List.cons.inj g3).2
       rw[this,ZCT (by omega)]at hn
       cases hn
      ·have:=ZF7 (n:=n) (by omega) 45 (by rw[<-g3];simp)
       exact(ZHQ this).2.1 rfl
     rw[this]
    ·rw[hn]
     refine ZQd s hne true n hn9 λy hy ey=> ?_
     obtain⟨n',k,g1,g2,g3,g4⟩:=head y hy ey
     by_cases h0:y<0
     ·rw[al_if_pos h0]at g3 g4
      have g5:=(List.cons.inj g3).2
      have a1:=ZCT (n:=n') (by omega)
      rw[<-g5,hn]at a1
      have:(n:Int)=n':=(Prod.mk.injEq ..▸a1).1
      exact⟨k,g2,by rw[al_if_pos rfl,this];exact g4⟩
     ·rw[al_if_neg h0]at g3
      have:=ZF7 (n:=n') (by omega) 45 (by rw[<-g3];simp)
      exact absurd rfl (ZHQ this).2.1
   ·have hd:decide ((Int.ofNat (UInt8.toNat x))=45)=false:=ZAG λe=>hx (by
     simp only[ZAU]at e
     exact UInt8.toNat_inj.1 (show x.toNat=45 by omega))
    rw[hd,al_cond_false,ZFD _ (by omega)]
    simp only[al_bind_some]
    rcases ZFA (x::r)with hn | ⟨n,hn9,er,hn⟩
    ·rw[hn,ZLq]
     have:ZAh s=(0,false):=ZFE λy hy ey=>by
      obtain⟨n,k,g1,g2,g3,g4⟩:=head y hy ey.symm
      split at g3
      ·exact hx (List.cons.inj g3).1
      ·rw[g3,ZCT (by omega)]at hn
       cases hn
     rw[this]
    ·rw[hn]
     refine ZQd s hne false n hn9 λy hy ey=> ?_
     obtain⟨n',k,g1,g2,g3,g4⟩:=head y hy ey
     by_cases h0:y<0
     ·rw[al_if_pos h0]at g3
      exact absurd (List.cons.inj g3).1 hx
     ·rw[al_if_neg h0]at g3 g4
      have a1:=ZCT (n:=n') (by omega)
      rw[<-g3,hn]at a1
      have:(n:Int)=n':=(Prod.mk.injEq ..▸a1).1
      exact⟨k,g2,by rw[al_if_neg (by simp),this];exact g4⟩
end Ev
end
noncomputable section
namespace Ev
open Go
def ZLr{s:Str}(h: ∀p,isPl p=true->ZAk p≠s):ZAS s=(⟨0,0⟩,false):=by
 rcases ZLh s with ⟨e,_⟩ | ⟨x,hx,e,_⟩
 ·exact e
 ·exact absurd e.symm (h x hx)
def ZLs{p:Place}(h:isPl p=true):wi p.X (-4096) 4096=true/\wi p.Y (-4096) 4096=true:=Bool.and_eq_true_iff.mp (show(wi p.X (-4096) 4096 && wi p.Y (-4096) 4096)=true from h)
def ZJC{p:Place}{s:Str}(h:isPl p=true)(hs:s=ZAk p): ∃at_:Nat,1<=at_/\at_+2<=s.length/\ZAY s=at_/\s.take at_=ZAR p.X/\ZBj 43 ((s.take (s.length-1)).drop at_)=ZAR p.Y/\s[s.length-1]?=some 105/\
  (s[at_]?=some 43->(s.take (s.length-1)).drop (at_+1)=ZAR p.Y)/\(s[at_]?≠some 43->(s.take (s.length-1)).drop at_=ZAR p.Y):=by
 obtain⟨hX,hY⟩:=ZLs h
 obtain⟨c,r,e,hc,hr,hu⟩:=ZF9 h
 have hl:=ZLf h
 rw[<-hs]at hl
 rw[<-hs]at e
 have hne:=ZWT hX
 have hlen:s.length=(ZAR p.X).length+(r.length+2):=by rw[e];simp
 have htk:s.take (s.length-1)=ZAR p.X++c::r:=by
  have e2:s=(ZAR p.X++c::r)++[105]:=by rw[e];simp
  have e3:s.length-1=(ZAR p.X++c::r).length:=by rw[hlen];simp<;>omega
  rw[e3]
  conv=>lhs;rw[e2]
  exact List.take_left' rfl
 have hdr:(s.take (s.length-1)).drop (ZAR p.X).length=c::r:=by rw[htk];exact List.drop_left' rfl
 have hdr1:(s.take (s.length-1)).drop ((ZAR p.X).length+1)=r:=by rw[<-List.drop_drop,hdr];rfl
 have hat:s[(ZAR p.X).length]?=some c:=by rw[e,List.getElem?_append_right (Nat.le_refl _),Nat.sub_self];rfl
 refine⟨(ZAR p.X).length,List.length_pos_iff.mpr hne,by omega,hl,by rw[e];exact List.take_left' rfl,by rw[hdr];exact hu,?_,λh1=> ?_,λh1=> ?_⟩
 ·have e2:s=(ZAR p.X++c::r)++[105]:=by rw[e];simp
  have e3:s.length-1=(ZAR p.X++c::r).length:=by rw[hlen];simp<;>omega
  rw[e3]
  conv=>lhs;rw[e2]
  rw[List.getElem?_append_right (Nat.le_refl _),Nat.sub_self];rfl
 ·rw[hat]at h1
  cases h1
  rw[hdr1,<-hu,ZF8]
 ·rw[hat]at h1
  rw[hdr,<-hu,ZHR r (λe=>h1 (by rw[e]))]
def ZWm(s:Str)(hs:s.length<=1048576):G188 (s,[43,45],())=some (ZAY s,()):=by
 show ZIW (s,[43,45],())=_
 unfold ZIW
 rw[al_if_pos ⟨rfl,by show s.length<_;omega⟩]
def ZGE(s:Str)(hs:s.length<=1048576):G100 (s,())=some ((ZAS s).1,(ZAS s).2,()):=by
 unfold G100 F100
 rw[ZWm s hs]
 simp only[al_bind_some]
 have hge:=ZKo s
 by_cases h1:ZAY s<1
 ·have:ZAS s=(⟨0,0⟩,false):=ZLr λp hp e=>by
   obtain⟨k,a1,_,a3,_⟩:=ZJC hp e.symm
   omega
  rw[ZAL h1,this];rfl
 ·rw[ZAG h1]
  simp only[ZAH,al_cond_true]
  obtain⟨k,hk⟩: ∃k:Nat,ZAY s=k:=⟨(ZAY s).toNat,by omega⟩
  rw[hk]at h1 hge⊢
  have hw:w64 (Int.ofNat s.length-1)=((s.length-1:Nat):Int):=by rw[ZAB (by simp only[ZAU];omega) (by simp only[ZAU];omega)];simp only[ZAU];omega
  rw[hw]
  have hlast:s[s.length-1]?=some (s[s.length-1]'(by omega)):=al_get_get (by omega)
  generalize s[s.length-1]'(by omega)=z at hlast
  rw[ZAE hlast]
  by_cases hz:z=105
  ·subst hz
   have hd:decide ((Int.ofNat (UInt8.toNat 105))=105)=true:=rfl
   rw[hd]
   simp only[ZAF,al_cond_false,ZAX]
   have l1:(s.take k).length<=1048576:=by rw[al_len_take];omega
   have l2:(ZBj 43 ((s.take (s.length-1)).drop k)).length<=1048576:=by
    have:=ZQc 43 ((s.take (s.length-1)).drop k)
    rw[List.length_drop,al_len_take]at this
    omega
   rw[ZBB ⟨by omega,by omega⟩,ZJB _ l1]
   simp only[al_bind_some]
   rw[ZBB ⟨by omega,by omega,by omega⟩,ZQX]
   simp only[al_bind_some]
   rw[ZJB _ l2]
   simp only[al_bind_some]
   have f1: ∀p,G55 (p,())=some (ZAk p,()):=fpI
   rcases ZLh s with ⟨hn,hno⟩ | ⟨p,hp,hs',hn⟩
   ·rw[hn]
    cases (ZAh (s.take k)).2
    ·rfl
    ·simp only[ZAF,ZAH,al_cond_true]
     cases (ZAh (ZBj 43 ((s.take (s.length-1)).drop k))).2
     ·rfl
     ·simp only[ZAF,ZAH,al_cond_true,f1,al_bind_some]
      have hne: ¬ZAk ⟨(ZAh (s.take k)).1,(ZAh (ZBj 43 ((s.take (s.length-1)).drop k))).1⟩=s:=λe=>by
       have:=ZQO (by rintro rfl;simp at hge;omega) e
       rw[hn]at this
       exact absurd (congrArg Prod.snd this) (by simp)
      rw[ZAG hne];rfl
   ·obtain⟨k',a1,a2,a3,a4,a5,_⟩:=ZJC hp hs'
    have:k'=k:=by omega
    subst this
    obtain⟨hX,hY⟩:=ZLs hp
    rw[hn,a4,a5,ZDI hX,ZDI hY]
    simp only[ZAF,ZAH,al_cond_true,f1,al_bind_some]
    rw[ZAL (show ZAk ⟨p.X,p.Y⟩=s from hs'.symm)];rfl
  ·have hd:decide ((Int.ofNat (UInt8.toNat z))=105)=false:=ZAG λe=>hz (by
    simp only[ZAU]at e
    exact UInt8.toNat_inj.1 (show z.toNat=105 by omega))
   have:ZAS s=(⟨0,0⟩,false):=ZLr λp hp e=>by
    obtain⟨k,_,_,_,_,_,a6,_⟩:=ZJC hp e.symm
    rw[hlast]at a6
    cases a6
    exact hz rfl
   rw[hd,this];rfl
def ZET(s:Str)(i:Nat):Nat:=if s[i]?=some 43 then i+1 else i
def ZEU(s:Str)(i:Nat):Place:=⟨(ZAh (s.take i)).1,(ZAh ((s.take (s.length-1)).drop (ZET s i))).1⟩
def ZJD(s:Str)(i:Nat):Bool:=(ZAh (s.take i)).2 && ((ZAh ((s.take (s.length-1)).drop (ZET s i))).2 && decide (ZAk (ZEU s i)=s))
def ZLt(s:Str)(hs:s.length<=1048576):G149 (s,())=some ((ZAS s).1,(ZAS s).2,()):=by
 unfold G149 F149
 have f1: ∀p,G88 (p,())=some (ZAk p,()):=fpS
 have run:=ZJA (f:=s149_0 G250 G88) (K:=λ_=>some ((⟨0,0⟩:Place),false,()))
  (λk=>(s,(⟨0,0⟩:Place),((k+1:Nat):Int),())) (λk=>ZJD s (k+1)) (λk=>some (ZEU s (k+1),true,())) (s.length-2) (by omega)
  (by
   intro k hk rec K
   have w1:w64 (((k+1:Nat):Int)+1)=((k+1+1:Nat):Int):=ZAB
   have w2:w64 (Int.ofNat s.length-1)=((s.length-1:Nat):Int):=by rw[ZAB (by simp only[ZAU];omega) (by simp only[ZAU];omega)];simp only[ZAU];omega
   have hx:s[k+1]?=some (s[k+1]'(by omega)):=al_get_get (by omega)
   generalize s[k+1]'(by omega)=z at hx
   simp only[s149_0,w1,w2,ZAX]
   rw[ZA (by simp only[ZAU];omega),ZBB ⟨by omega,by omega⟩,ZHU _ (by rw[al_len_take];omega)]
   simp only[al_bind_some,ZAE hx]
   unfold ZJD
   by_cases hz:z=43
   ·have hfr:ZET s (k+1)=k+1+1:=by unfold ZET;rw[hx,hz,al_if_pos rfl]
    have hd:decide ((Int.ofNat (UInt8.toNat z))=43)=true:=by rw[hz];rfl
    rw[hd,al_cond_true,ZBB ⟨by omega,by omega,by omega⟩,ZHU _ (by rw[List.length_drop,al_len_take];omega)]
    have ht:ZEU s (k+1)=⟨(ZAh (s.take (k+1))).1,(ZAh ((s.take (s.length-1)).drop (k+1+1))).1⟩:=by unfold ZEU;rw[hfr]
    rw[ht,hfr]
    simp only[al_bind_some,f1]
    cases (ZAh (s.take (k+1))).2
    ·rfl
    ·simp only[al_cond_true,Bool.true_and]
     cases (ZAh ((s.take (s.length-1)).drop (k+1+1))).2
     ·rfl
     ·simp only[al_cond_true,Bool.true_and]
   ·have hfr:ZET s (k+1)=k+1:=by unfold ZET;rw[hx,al_if_neg (λe=>hz (Option.some.inj e))]
    have hd:decide ((Int.ofNat (UInt8.toNat z))=43)=false:=ZAG λe=>hz (by
     simp only[ZAU]at e
     exact UInt8.toNat_inj.1 (show z.toNat=43 by omega))
    rw[hd,al_cond_false,ZBB ⟨by omega,by omega,by omega⟩,ZHU _ (by rw[List.length_drop,al_len_take];omega)]
    have ht:ZEU s (k+1)=⟨(ZAh (s.take (k+1))).1,(ZAh ((s.take (s.length-1)).drop (k+1))).1⟩:=by unfold ZEU;rw[hfr]
    rw[ht,hfr]
    simp only[al_bind_some,f1]
    cases (ZAh (s.take (k+1))).2
    ·rfl
    ·simp only[al_cond_true,Bool.true_and]
     cases (ZAh ((s.take (s.length-1)).drop (k+1))).2
     ·rfl
     ·simp only[al_cond_true,Bool.true_and])
  (by
   intro rec K
   have w1:w64 (((s.length-2+1:Nat):Int)+1)=((s.length-2+1+1:Nat):Int):=ZAB
   simp only[s149_0,w1]
   rw[ZAA (by simp only[ZAU];omega)])
 rcases run with ⟨k,hk,hh,hr⟩ | ⟨hh,hr⟩
 ·refine hr.trans ?_
  unfold ZJD at hh
  simp only[ZAM,ZAZ]at hh
  rw[ZQO (by rintro rfl;simp at hk) hh.2.2]
 ·refine hr.trans ?_
  have:ZAS s=(⟨0,0⟩,false):=ZLr λp hp e=>by
   obtain⟨at_,a1,a2,a3,a4,a5,a6,a7,a8⟩:=ZJC hp e.symm
   obtain⟨hX,hY⟩:=ZLs hp
   have:=hh (at_-1) (by omega)
   rw[show at_-1+1=at_ by omega]at this
   have hY':(s.take (s.length-1)).drop (ZET s at_)=ZAR p.Y:=by
    unfold ZET
    by_cases h43:s[at_]?=some 43
    ·rw[al_if_pos h43];exact a7 h43
    ·rw[al_if_neg h43];exact a8 h43
   have ht:ZEU s at_=p:=by
    unfold ZEU
    rw[hY',a4,ZDI hX,ZDI hY]
   unfold ZJD at this
   rw[ht,hY',a4,ZDI hX,ZDI hY,ZAL e]at this
   cases this
  rw[this]
end Ev
end
noncomputable section
namespace Ev
open Go
def ZBX{s:Str}(h:isNm s=true):s.length<=8:=by
 obtain⟨_,h2⟩:=Bool.and_eq_true_iff.mp (show(nm 0 s && wi (Int.ofNat s.length) 1 8)=true from h)
 have:=(ZAr.1 h2).2
 simp only[ZAU]at this;omega
def ZGF{n:Nat}(h:n<=999):(Go.Lib.itoa n).length<=3:=by
 rw[ZF h]
 split
 ·simp
 ·split<;>simp
def ZQe(a m:Str):(([112,117,109,112,32]++a)++[32,109,111,115,116,32])++m=ZBi 32 [ZDp,a,ZGB,m]:=by simp[ZBi,ZDp,ZGB]
def ZQf(a l p h t m:Str):(((((((((([110,111,122,122,108,101,32]++a)++[32,111,110,32])++l)++[32,97,116,32])++p)++[32,104,101,97,100,105,110,103,32])++h)++[32,116,105,108,116,32])++t)++[32,109,111,115,116,32])++m=ZBi 32 [ZDq,a,onW,l,atW,p,ZLi,h,ZLj,t,ZGB,m]:=by
 simp[ZBi,ZDq,onW,atW,ZLi,ZLj,ZGB]
def ZQg(a l p:Str):(((([108,97,109,112,32]++a)++[32,111,110,32])++l)++[32,97,116,32])++p=ZBi 32 [ZDr,a,onW,l,atW,p]:=by simp[ZBi,ZDr,onW,atW]
def fdI(d:Device)(h1:d.Name.length<=1048576)(h2:d.Line.length<=1048576):G191 (d,())=some (ZBW d,()):=by
 have hb:G192 (d,())=some (devB d,()):=(ZDD d h1 h2).2
 unfold G191 F191 ZBW
 rw[hb]
 simp only[al_bind_some]
 cases hk:devB d
 ·rfl
 ·have K:=ZDJ hk
  have l1:=ZBX K.nm
  have l2:=ZBq d.Most
  have l3:=ZBq d.Tilt
  have l4:=ZCS d.At
  simp only[ZAF,al_cond_false,if_true,fmI,fpI,al_bind_some]
  unfold ZCU
  rcases K.k with ⟨k,_⟩ | ⟨k,hl,_,⟨n,e,hn9⟩,_⟩ | ⟨k,hl,_⟩
  ·rw[ZA k,al_if_pos k]
   simp only[al_len_append,al_len_cons,al_len_nil]
   rw[ZAC,ZAC,ZAC,ZQe]
  ·have l5:=ZBX hl
   have l6:=ZGF hn9
   rw[ZAA,ZA k,al_if_neg,al_if_pos k,e,numI (by omega) (by omega)]
   simp only[al_len_append,al_len_cons,al_len_nil,al_bind_some]
   rw[ZAC,ZAC,ZAC,ZAC,ZAC,ZAC,ZAC,ZAC,ZAC,ZAC,ZAC,ZQf]
  ·have l5:=ZBX hl
   rw[ZAA,ZAA,al_if_neg,al_if_neg]
   simp only[al_len_append,al_len_cons,al_len_nil]
   rw[ZAC,ZAC,ZAC,ZAC,ZAC,ZQg]
def fdS(d:Device)(h1:d.Name.length<=1048576)(h2:d.Line.length<=1048576):G77 (d,())=some (ZBW d,()):=by
 have hb:G169 (d,())=some (devB d,()):=(ZDD d h1 h2).1
 unfold G77 F77 ZBW
 rw[hb]
 simp only[al_bind_some]
 cases hk:devB d
 ·rfl
 ·have K:=ZDJ hk
  have l1:=ZBX K.nm
  have l2:=ZBq d.Most
  have l3:=ZBq d.Tilt
  have l4:=ZCS d.At
  simp only[ZAF,al_cond_false,if_true,fmS,fpS,al_bind_some]
  unfold ZCU
  rcases K.k with ⟨k,_⟩ | ⟨k,hl,_,⟨n,e,hn9⟩,_⟩ | ⟨k,hl,_⟩
  ·rw[ZA k,al_if_pos k]
   simp only[al_len_append,al_len_cons,al_len_nil]
   rw[ZAC,ZAC,ZAC,ZQe]
  ·have l5:=ZBX hl
   have l6:=ZGF hn9
   rw[ZAA,ZA k,al_if_neg,al_if_pos k,e,numS (by omega) (by omega)]
   simp only[al_len_append,al_len_cons,al_len_nil,al_bind_some]
   rw[ZAC,ZAC,ZAC,ZAC,ZAC,ZAC,ZAC,ZAC,ZAC,ZAC,ZAC,ZQf]
  ·have l5:=ZBX hl
   rw[ZAA,ZAA,al_if_neg,al_if_neg]
   simp only[al_len_append,al_len_cons,al_len_nil]
   rw[ZAC,ZAC,ZAC,ZAC,ZAC,ZQg]
def ZQh(t n l:Str):(((t++[32])++n)++[32])++l=ZBi 32 [t,n,l]:=by simp[ZBi]
def ZWn(t n l r:Str):(((((t++[32])++n)++[32])++l)++[32,105,110,32])++r=ZBi 32 [t,n,l,inW,r]:=by simp[ZBi,inW]
def ZWo(t n l r:Str):((((t++[32])++n)++[32])++l)++([32,105,110,32]++r)=ZBi 32 [t,n,l,inW,r]:=by simp[ZBi,inW]
def fcI(c:Cue)(h:c.Name.length<=1048576):G198 (c,())=some (ZBO c,()):=by
 have hb:G199 (c,())=some (ZAz c,()):=cueI c h
 unfold G198 F198 ZBO
 rw[hb]
 simp only[al_bind_some]
 cases hk:ZAz c
 ·rfl
 ·have K:=ZFB hk
  obtain⟨n,e,hn⟩:=K.t
  obtain⟨m,f,hm⟩:=K.r
  have l1:=ZBX K.nm
  have l2:=ZBq c.Level
  have l3:=ZGF hn
  have l4:=ZGF hm
  simp only[ZAF,al_cond_false,if_true,fmI,al_bind_some,e,f,numI (n:=(n:Int)) (by omega) (by omega),numI (n:=(m:Int)) (by omega) (by omega)]
  unfold ZCt
  rw[e,f]
  simp only[al_len_append,al_len_cons,al_len_nil]
  rw[ZAC,ZAC,ZAC,ZAC]
  by_cases h0:((m:Nat):Int)=0
  ·rw[ZAL h0,al_if_pos h0]
   simp only[ZAF,al_cond_false]
   rw[ZQh]
  ·rw[ZAG h0,al_if_neg h0]
   simp only[ZAH,al_cond_true]
   rw[ZAC,ZAC,ZWo]
def fcS(c:Cue)(h:c.Name.length<=1048576):G80 (c,())=some (ZBO c,()):=by
 have hb:G171 (c,())=some (ZAz c,()):=cueS c h
 unfold G80 F80 ZBO
 rw[hb]
 simp only[al_bind_some]
 cases hk:ZAz c
 ·rfl
 ·have K:=ZFB hk
  obtain⟨n,e,hn⟩:=K.t
  obtain⟨m,f,hm⟩:=K.r
  have l1:=ZBX K.nm
  have l2:=ZBq c.Level
  have l3:=ZGF hn
  have l4:=ZGF hm
  simp only[ZAF,al_cond_false,if_true,fmS,al_bind_some,e,f,numS (n:=(n:Int)) (by omega) (by omega),numS (n:=(m:Int)) (by omega) (by omega)]
  unfold ZCt
  rw[e,f]
  simp only[al_len_append,al_len_cons,al_len_nil]
  rw[ZAC,ZAC,ZAC,ZAC]
  by_cases h0:((m:Nat):Int)=0
  ·rw[ZAA,al_if_pos h0,ZQh]
  ·rw[ZA,al_if_neg h0,ZAC,ZAC,ZWn]
def ZCu{s:Str}{i:Nat} :(wAt (splC 32 s) i).length<=s.length:=by
 unfold wAt
 cases h:(splC 32 s)[i]? with
 | none=>simp
 | some w=>exact(ZEP 32 s w (al_mem_get h)).2
def ZBY{w:List Str}{i:Nat}(h:i<w.length):w[i]?=some (wAt w i):=by
 unfold wAt
 rw[al_get_get h];rfl
def rdW{R:Type}{w:List Str}(i:Nat)(h:i<w.length){K:Str->Option R} :rdL w (i:Int) K=K (wAt w i):=ZAE (ZBY h)
abbrev ZD:Device:=⟨[],0,[],⟨0,0⟩,0,0,0⟩
def endT{α:Type}(T:α->Str)(z:α)(s:Str)(d:α):α×Bool:=if s≠[]/\T d=s then(d,true)else(z,false)
def endI(s:Str)(d:Device)(h1:d.Name.length<=1048576)(h2:d.Line.length<=1048576):cond (!(decide (s=[]))) ((G191 (d,())).bind λx=>cond (!decide (x.1=s)) (some (ZD,false,())) (some (d,true,()))) (some (ZD,false,()))=some ((endT ZBW ZD s d).1,(endT ZBW ZD s d).2,()):=by
 unfold endT
 rw[fdI d h1 h2]
 by_cases h0:s=[]
 ·rw[ZAL h0,al_if_neg (λh=>h.1 h0)];rfl
 ·rw[ZAG h0]
  simp only[ZAH,al_cond_true,al_bind_some]
  by_cases h:ZBW d=s
  ·rw[ZAL h,al_if_pos ⟨h0,h⟩];rfl
  ·rw[ZAG h,al_if_neg (λk=>h k.2)];rfl
def endS(s:Str)(d:Device)(h1:d.Name.length<=1048576)(h2:d.Line.length<=1048576):cond (!(decide (s=[]))) ((G77 (d,())).bind λx=>cond (!decide (x.1=s)) (some (ZD,false,())) (some (d,true,()))) (some (ZD,false,()))=some ((endT ZBW ZD s d).1,(endT ZBW ZD s d).2,()):=by
 unfold endT
 rw[fdS d h1 h2]
 by_cases h0:s=[]
 ·rw[ZAL h0,al_if_neg (λh=>h.1 h0)];rfl
 ·rw[ZAG h0]
  simp only[ZAH,al_cond_true,al_bind_some]
  by_cases h:ZBW d=s
  ·rw[ZAL h,al_if_pos ⟨h0,h⟩];rfl
  ·rw[ZAG h,al_if_neg (λk=>h k.2)];rfl
theorem ZWp(s:Str):devP s=endT ZBW ZD s (ZBE (splC 32 s)):=rfl
def ZWq(s:Str):endT ZBW ZD s (ZCC (splC 32 s))=devP s:=ZWZ s
def ZWr(s:Str)(hs:s.length<=1048576):G101 (s,())=some ((devP s).1,(devP s).2,()):=by
 unfold G101 F101
 rw[ZHT s 32 hs,ZWp]
 simp only[al_bind_some]
 have hw: ∀i,(wAt (splC 32 s) i).length<=1048576:=λi=>Nat.le_trans ZCu hs
 generalize splC 32 s=w at hw
 have hm:=λi=>ZJB (wAt w i) (hw i)
 have hp:=λi=>ZGE (wAt w i) (hw i)
 have hn:=λi=>ZGD (wAt w i) (hw i)
 have z1:=endI s ZD (by simp) (by simp)
 by_cases l4:w.length=4
 ·have e4:decide ((Int.ofNat w.length)=4)=true:=ZAL (by rw[l4];rfl)
  have e12:decide ((Int.ofNat w.length)=12)=false:=ZAG (by rw[l4];decide)
  have e6:decide ((Int.ofNat w.length)=6)=false:=ZAG (by rw[l4];decide)
  have r0: ∀K:Str->Option (Device×Bool×Unit),rdL w 0 K=K (wAt w 0):=λK=>rdW 0 (by omega)
  have r1: ∀K:Str->Option (Device×Bool×Unit),rdL w 1 K=K (wAt w 1):=λK=>rdW 1 (by omega)
  have r3: ∀K:Str->Option (Device×Bool×Unit),rdL w 3 K=K (wAt w 3):=λK=>rdW 3 (by omega)
  have g0:w[(Int.toNat 0)]?=some (wAt w 0):=ZBY (by omega)
  have g1:w[(Int.toNat 1)]?=some (wAt w 1):=ZBY (by omega)
  have g3:w[(Int.toNat 3)]?=some (wAt w 3):=ZBY (by omega)
  simp only[e4,e12,e6,al_cond_true,al_cond_false,r0,r1,r3,g0,g1,g3,al_bind_some,hm]
  by_cases hpw:wAt w 0=ZDp
  ·have hd:decide (wAt w 0=[112,117,109,112])=true:=ZAL hpw
   rw[hd,al_cond_true]
   have:ZBE w=⟨wAt w 1,1,[],⟨0,0⟩,0,0,ZBD (wAt w 3)⟩:=by unfold ZBE;rw[al_if_pos ⟨l4,hpw⟩]
   rw[this]
   exact endI s ⟨wAt w 1,1,[],⟨0,0⟩,0,0,ZBD (wAt w 3)⟩ (hw 1) (by simp)
  ·have hd:decide (wAt w 0=[112,117,109,112])=false:=ZAG hpw
   rw[hd,al_cond_false]
   have:ZBE w=ZD:=by unfold ZBE;rw[al_if_neg (λh=>hpw h.2),al_if_neg (λh=>by omega),al_if_neg (λh=>by omega)]
   rw[this]
   exact z1
 ·have e4:decide ((Int.ofNat w.length)=4)=false:=ZAG (by simp only[ZAU];omega)
  by_cases l12:w.length=12
  ·have e12:decide ((Int.ofNat w.length)=12)=true:=ZAL (by rw[l12];rfl)
   have e6:decide ((Int.ofNat w.length)=6)=false:=ZAG (by rw[l12];decide)
   have r0: ∀K:Str->Option (Device×Bool×Unit),rdL w 0 K=K (wAt w 0):=λK=>rdW 0 (by omega)
   have r1: ∀K:Str->Option (Device×Bool×Unit),rdL w 1 K=K (wAt w 1):=λK=>rdW 1 (by omega)
   have r3: ∀K:Str->Option (Device×Bool×Unit),rdL w 3 K=K (wAt w 3):=λK=>rdW 3 (by omega)
   have r5: ∀K:Str->Option (Device×Bool×Unit),rdL w 5 K=K (wAt w 5):=λK=>rdW 5 (by omega)
   have r7: ∀K:Str->Option (Device×Bool×Unit),rdL w 7 K=K (wAt w 7):=λK=>rdW 7 (by omega)
   have r9: ∀K:Str->Option (Device×Bool×Unit),rdL w 9 K=K (wAt w 9):=λK=>rdW 9 (by omega)
   have r11: ∀K:Str->Option (Device×Bool×Unit),rdL w 11 K=K (wAt w 11):=λK=>rdW 11 (by omega)
   have g0:w[(Int.toNat 0)]?=some (wAt w 0):=ZBY (by omega)
   have g1:w[(Int.toNat 1)]?=some (wAt w 1):=ZBY (by omega)
   have g3:w[(Int.toNat 3)]?=some (wAt w 3):=ZBY (by omega)
   have g5:w[(Int.toNat 5)]?=some (wAt w 5):=ZBY (by omega)
   have g7:w[(Int.toNat 7)]?=some (wAt w 7):=ZBY (by omega)
   have g9:w[(Int.toNat 9)]?=some (wAt w 9):=ZBY (by omega)
   have g11:w[(Int.toNat 11)]?=some (wAt w 11):=ZBY (by omega)
   simp only[e4,e12,e6,al_cond_true,al_cond_false,r0,r1,r3,r5,r7,r9,r11,g0,g1,g3,g5,g7,g9,g11,al_bind_some,hm,hp,hn]
   by_cases hpw:wAt w 0=ZDq
   ·have hd:decide (wAt w 0=[110,111,122,122,108,101])=true:=ZAL hpw
    rw[hd,al_cond_true]
    have:ZBE w=⟨wAt w 1,2,wAt w 3,plV (wAt w 5),numV (wAt w 7),ZBD (wAt w 9),ZBD (wAt w 11)⟩:=by unfold ZBE;rw[al_if_neg (λh=>by omega),al_if_pos ⟨l12,hpw⟩]
    rw[this]
    exact endI s ⟨wAt w 1,2,wAt w 3,plV (wAt w 5),numV (wAt w 7),ZBD (wAt w 9),ZBD (wAt w 11)⟩ (hw 1) (hw 3)
   ·have hd:decide (wAt w 0=[110,111,122,122,108,101])=false:=ZAG hpw
    rw[hd,al_cond_false]
    have:ZBE w=ZD:=by unfold ZBE;rw[al_if_neg (λh=>by omega),al_if_neg (λh=>hpw h.2),al_if_neg (λh=>by omega)]
    rw[this]
    exact z1
  ·have e12:decide ((Int.ofNat w.length)=12)=false:=ZAG (by simp only[ZAU];omega)
   by_cases l6:w.length=6
   ·have e6:decide ((Int.ofNat w.length)=6)=true:=ZAL (by rw[l6];rfl)
    have r0: ∀K:Str->Option (Device×Bool×Unit),rdL w 0 K=K (wAt w 0):=λK=>rdW 0 (by omega)
    have r1: ∀K:Str->Option (Device×Bool×Unit),rdL w 1 K=K (wAt w 1):=λK=>rdW 1 (by omega)
    have r3: ∀K:Str->Option (Device×Bool×Unit),rdL w 3 K=K (wAt w 3):=λK=>rdW 3 (by omega)
    have r5: ∀K:Str->Option (Device×Bool×Unit),rdL w 5 K=K (wAt w 5):=λK=>rdW 5 (by omega)
    have g0:w[(Int.toNat 0)]?=some (wAt w 0):=ZBY (by omega)
    have g1:w[(Int.toNat 1)]?=some (wAt w 1):=ZBY (by omega)
    have g3:w[(Int.toNat 3)]?=some (wAt w 3):=ZBY (by omega)
    have g5:w[(Int.toNat 5)]?=some (wAt w 5):=ZBY (by omega)
    simp only[e4,e12,e6,al_cond_true,al_cond_false,r0,r1,r3,r5,g0,g1,g3,g5,al_bind_some,hp]
    by_cases hpw:wAt w 0=ZDr
    ·have hd:decide (wAt w 0=[108,97,109,112])=true:=ZAL hpw
     rw[hd,al_cond_true]
     have:ZBE w=⟨wAt w 1,3,wAt w 3,plV (wAt w 5),0,0,0⟩:=by unfold ZBE;rw[al_if_neg (λh=>by omega),al_if_neg (λh=>by omega),al_if_pos ⟨l6,hpw⟩]
     rw[this]
     exact endI s ⟨wAt w 1,3,wAt w 3,plV (wAt w 5),0,0,0⟩ (hw 1) (hw 3)
    ·have hd:decide (wAt w 0=[108,97,109,112])=false:=ZAG hpw
     rw[hd,al_cond_false]
     have:ZBE w=ZD:=by unfold ZBE;rw[al_if_neg (λh=>by omega),al_if_neg (λh=>by omega),al_if_neg (λh=>hpw h.2)]
     rw[this]
     exact z1
   ·have e6:decide ((Int.ofNat w.length)=6)=false:=ZAG (by simp only[ZAU];omega)
    simp only[e4,e12,e6,al_cond_false]
    have:ZBE w=ZD:=by unfold ZBE;rw[al_if_neg (λh=>by omega),al_if_neg (λh=>by omega),al_if_neg (λh=>by omega)]
    rw[this]
    exact z1
end Ev
end
