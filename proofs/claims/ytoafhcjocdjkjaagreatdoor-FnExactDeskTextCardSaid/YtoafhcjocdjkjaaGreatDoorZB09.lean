/- Laid together by program (what the claim does not reach is left out): BaseA. -/
import Derived.Test.YtoafhcjocdjkjaaGreatDoorZB08
set_option linter.all false
set_option maxRecDepth 100000
open Go.Proofs.Tryz
noncomputable section
namespace Ev
open Go
def ZAW{R T:Type}{f:T->(T->Option R)->(T->Option R)->Option R}{K:T->Option R}(st:Nat->T)(n:Nat)(hn:n<=18446744073709551616)
  (hs: ∀i,i<n-> ∀rec K,f (st i) rec K=rec (st (i+1))) (he: ∀rec K,f (st n) rec K=K (st n)):ZAD f fuel (st 0) K=K (st n):=by
 obtain⟨t,e1,e⟩:=ZBM (f:=f) (K:=K) (t:=st 0) n (λi t=>t=st i) hn rfl (λi t hi h=>⟨st (i+1),rfl,λrec K=>by rw[h];exact hs i hi rec K⟩) (λt h rec K=>by rw[h];exact he rec K)
 rw[e,e1]
def ZUb{R T:Type}{f:T->(T->Option R)->(T->Option R)->Option R}{K:T->Option R}(st:Nat->T)(p:Nat->Bool)(r:Option R)(n:Nat)
  (hs: ∀i,i<n-> ∀rec K,f (st i) rec K=cond (p i) (rec (st (i+1))) r) (he: ∀rec K,f (st n) rec K=K (st n)):
  ∀(d i m:Nat),i+d=n->d<m->ZAD f m (st i) K=cond ((List.range' i d).all p) (K (st n)) r:=by
 intro d
 induction d with
 | zero=>
  intro i m h1 h2
  obtain⟨m,rfl⟩: ∃k,m=k+1:=⟨m-1,by omega⟩
  have:i=n:=by omega
  subst this
  rw[ZAT,he];rfl
 | succ d ih=>
  intro i m h1 h2
  obtain⟨m,rfl⟩: ∃k,m=k+1:=⟨m-1,by omega⟩
  rw[ZAT,hs i (by omega),ih (i+1) m (by omega) (by omega),List.range'_succ,List.all_cons]
  cases p i<;>rfl
def ZDT{R T:Type}{f:T->(T->Option R)->(T->Option R)->Option R}{K:T->Option R}(st:Nat->T)(p:Nat->Bool)(r:Option R)(n:Nat)(hn:n<=18446744073709551616)
  (hs: ∀i,i<n-> ∀rec K,f (st i) rec K=cond (p i) (rec (st (i+1))) r) (he: ∀rec K,f (st n) rec K=K (st n)):
  ZAD f fuel (st 0) K=cond ((List.range n).all p) (K (st n)) r:=by
 rw[List.range_eq_range']
 exact ZUb st p r n hs he n 0 fuel (by omega) (by rw[ZBu];omega)
end Ev
namespace Ev
open Go
def ZBp(m:Nat)(hm:m<=1000): ∃n,fuel=n+m:=⟨fuel-m,by rw[ZBu];omega⟩
def wi(a b c:Int):Bool:=decide (b<=a) && decide (a<=c)
def ZAr{a b c:Int} :wi a b c=true↔b<=a/\a<=c:=by simp[wi]
def ZAa{a b c:Int}(h1:b<=a)(h2:a<=c):wi a b c=true:=ZAr.2 ⟨h1,h2⟩
abbrev gIn:=F233
abbrev gW:=F121
def ZCo(a b c:Int):gIn (a,b,c,())=some (wi a b c,()):=by
 unfold gIn F233 wi
 by_cases h:b<=a<;>simp[h]
def ZA8(a b c:Int):gW (a,b,c,())=some (wi a b c,()):=by
 unfold gW F121 wi
 by_cases h:b<=a<;>simp[h]
def ZKq(h:Int):F354 (h,())=some (wi h 0 3,()):=by
 unfold F354 wi
 by_cases h0:0<=h<;>simp[h0]
abbrev ZG1:=F219 gW
def ZG2(h:Int):ZG1 (h,())=some (wi h 0 3,()):=by
 unfold ZG1 F219
 simp only[ZA8,al_bind_some]
def ZKr(x:Int):F248 (x,())=some (wi x (-4096) 4096,()):=by
 unfold F248 wi
 by_cases h0: -4096<=x<;>simp[h0]
abbrev ZG3:=F57 gW
def ZFs(x:Int):ZG3 (x,())=some (wi x (-4096) 4096,()):=by
 unfold ZG3 F57
 simp only[ZA8,al_bind_some]
def isPl(p:Place):Bool:=wi p.X (-4096) 4096 && wi p.Y (-4096) 4096
abbrev gPlS:=F181 F248
abbrev gPl:=F124 ZG3
def ZDh(p:Place):gPlS (p,())=some (isPl p,()):=by
 unfold gPlS F181 isPl
 simp only[ZKr,al_bind_some]
 cases wi p.X (-4096) 4096<;>rfl
def ZBv(p:Place):gPl (p,())=some (isPl p,()):=by
 unfold gPl F124 isPl
 simp only[ZFs,al_bind_some]
 cases wi p.X (-4096) 4096<;>rfl
def ZAu(j:Jet):Bool:=wi j.At.X (-1024) 1024 && (wi j.At.Y (-1024) 1024 && (wi j.Heading 0 3 && (wi j.Tilt 0 16 && wi j.Lift 1 32)))
abbrev ZFt:=F331 gIn F354
abbrev gJet:=F218 gW ZG1
def jetS(j:Jet):ZFt (j,())=some (ZAu j,()):=by
 unfold ZFt F331 ZAu
 simp only[ZCo,ZKq,al_bind_some]
 cases wi j.At.X (-1024) 1024<;>cases wi j.At.Y (-1024) 1024<;>cases wi j.Heading 0 3<;>cases wi j.Tilt 0 16<;>rfl
def jetI(j:Jet):gJet (j,())=some (ZAu j,()):=by
 unfold gJet F218 ZAu
 simp only[ZA8,ZG2,al_bind_some]
 cases wi j.At.X (-1024) 1024<;>cases wi j.At.Y (-1024) 1024<;>cases wi j.Heading 0 3<;>cases wi j.Tilt 0 16<;>rfl
structure JetOK(j:Jet):Prop where
 x: -1024<=j.At.X/\j.At.X<=1024
 y: -1024<=j.At.Y/\j.At.Y<=1024
 h:0<=j.Heading/\j.Heading<=3
 t:0<=j.Tilt/\j.Tilt<=16
 l:1<=j.Lift/\j.Lift<=32
def ZB6{j:Jet}(h:ZAu j=true):JetOK j:=by
 simp only[ZAu,ZAM,ZAr]at h
 exact⟨h.1,h.2.1,h.2.2.1,h.2.2.2.1,h.2.2.2.2⟩
def ZUc(f:Jet×Unit->Option (Bool×Unit))(L:Int)(h1:1<=L)(h2:L<=32)(n:Nat):ZAD (s311_0 f) (n+40) (1,L,w64 (L-2),()) (λt3=>some (t3.1,()))=some (L+1,()):=by
 have:L=1\/L=2\/L=3\/L=4\/L=5\/L=6\/L=7\/L=8\/L=9\/L=10\/L=11\/L=12\/L=13\/L=14\/L=15\/L=16\/L=17\/L=18\/L=19\/L=20\/L=21\/L=22\/L=23\/L=24\/L=25\/L=26\/L=27\/L=28\/L=29\/L=30\/L=31\/L=32:=by omega
 rcases this with rfl | rfl | rfl | rfl | rfl | rfl | rfl | rfl | rfl | rfl | rfl | rfl | rfl | rfl | rfl | rfl | rfl | rfl | rfl | rfl | rfl | rfl | rfl | rfl | rfl | rfl | rfl | rfl | rfl | rfl | rfl | rfl<;>(show _=_;kernel_rfl)
abbrev gFlS:=F311 ZFt
abbrev gFl:=F126 gJet
def fl(j:Jet):Int:=if ZAu j=true then j.Lift+1 else 0
def flS(j:Jet):gFlS (j,())=some (fl j,()):=by
 unfold gFlS F311 fl
 simp only[jetS,al_bind_some]
 cases h:ZAu j
 ·rfl
 ·have J:=ZB6 h
  obtain⟨n,hn⟩:=ZBp 40 (by omega)
  simp only[ZAF,al_cond_false,hn]
  rw[ZUc _ _ J.l.1 J.l.2,al_if_pos trivial]
def flI(j:Jet):gFl (j,())=some (fl j,()):=by
 unfold gFl F126 fl
 simp only[jetI,al_bind_some]
 cases h:ZAu j
 ·rfl
 ·have J:=ZB6 h
  have:=J.l
  simp only[ZAF,al_cond_false,if_true]
  rw[ZAB]
def rotN:Nat->Place->Place
 | 0,p=>p
 | k+1,p=>rotN k ⟨w64 (0-p.Y),p.X⟩
def k4{k:Nat}(h:k<4):k=0\/k=1\/k=2\/k=3:=by omega
abbrev ZDi:=F355 F371
abbrev ZDj:=F220 F304
def ZOv(f)(p z:Place)(n k:Nat)(hk:k<4)(K): ∃c,ZAD (s355_0 f) (n+9) (p,z,(k:Int),()) K=K (rotN k p,c):=by
 rcases k4 hk with rfl | rfl | rfl | rfl<;>exact⟨(z,0,()),by kernel_rfl⟩
def ZOw(f)(p z:Place)(n k:Nat)(hk:k<4)(K): ∃c,ZAD (s220_0 f) (n+9) (p,z,(k:Int),0,()) K=K (rotN k p,c):=by
 rcases k4 hk with rfl | rfl | rfl | rfl
 ·exact⟨(z,0,0,()),by kernel_rfl⟩
 ·exact⟨(z,1,1,()),by kernel_rfl⟩
 ·exact⟨(z,2,2,()),by kernel_rfl⟩
 ·exact⟨(z,3,3,()),by kernel_rfl⟩
def ZOx(p:Place)(k:Nat)(hk:k<4):ZDi (p,(k:Int),())=some (rotN k p,()):=by
 unfold ZDi F355
 have e:F371 ((k:Int),())=some ((k:Int),()):=by rcases k4 hk with rfl | rfl | rfl | rfl<;>kernel_rfl
 simp only[e,al_bind_some]
 obtain⟨n,hn⟩:=ZBp 9 (by omega)
 obtain⟨c,hc⟩:=ZOv F371 p ⟨0,0⟩ n k hk (λt3=>some (t3.1,()))
 rw[hn,hc]
def ZOy(p:Place)(k:Nat)(hk:k<4):ZDj (p,(k:Int),())=some (rotN k p,()):=by
 unfold ZDj F220
 have e:F304 ((k:Int),())=some ((k:Int),()):=by rcases k4 hk with rfl | rfl | rfl | rfl<;>kernel_rfl
 simp only[e,al_bind_some]
 obtain⟨n,hn⟩:=ZBp 9 (by omega)
 obtain⟨c,hc⟩:=ZOw F304 p ⟨0,0⟩ n k hk (λt3=>some (t3.1,()))
 rw[hn,hc]
def ZOz(x m:Int)(h0:0<=x)(hm:x<=m)(hb:m<=1099511627776)(k:Nat)(hk:k<4): -m<=(rotN k ⟨x,0⟩).X/\(rotN k ⟨x,0⟩).X<=m/\ -m<=(rotN k ⟨x,0⟩).Y/\(rotN k ⟨x,0⟩).Y<=m:=by
 have e0:w64 (0-0)=0:=ZAB
 have e1:w64 (0-x)= -x:=by rw[ZAB];omega
 have e2:w64 (0- -x)=x:=by rw[ZAB];omega
 rcases k4 hk with rfl | rfl | rfl | rfl<;>simp only[rotN,e0,e1,e2]<;>omega
def land(j:Jet):Place:=⟨w64 (j.At.X+(rotN j.Heading.toNat ⟨w64 ((j.Lift+1)*j.Tilt),0⟩).X),w64 (j.At.Y+(rotN j.Heading.toNat ⟨w64 ((j.Lift+1)*j.Tilt),0⟩).Y)⟩
def jump{j:Jet}(J:JetOK j):w64 ((j.Lift+1)*j.Tilt)=(j.Lift+1)*j.Tilt/\0<=(j.Lift+1)*j.Tilt/\(j.Lift+1)*j.Tilt<=528:=by
 have hl:=J.l;have ht:=J.t
 have a:0<=(j.Lift+1)*j.Tilt:=Int.mul_nonneg (by omega) ht.1
 have b:(j.Lift+1)*j.Tilt<=33*16:=Int.mul_le_mul (by omega) ht.2 ht.1 (by omega)
 exact⟨ZAB,a,by omega⟩
def ZUd{j:Jet}(J:JetOK j):(-1552<=(land j).X/\(land j).X<=1552/\ -1552<=(land j).Y/\(land j).Y<=1552)/\(land j).X=j.At.X+(rotN j.Heading.toNat ⟨(j.Lift+1)*j.Tilt,0⟩).X/\(land j).Y=j.At.Y+(rotN j.Heading.toNat ⟨(j.Lift+1)*j.Tilt,0⟩).Y:=by
 obtain⟨e,h0,h1⟩:=jump J
 have hh:=J.h;have hx:=J.x;have hy:=J.y
 obtain⟨b1,b2,b3,b4⟩:=ZOz ((j.Lift+1)*j.Tilt) 528 h0 h1 (by omega) j.Heading.toNat (by omega)
 unfold land
 rw[e]
 simp only
 rw[ZAB,ZAB]
 omega
abbrev ZO0:=F356 ZFt gFlS (F351 ZDi F317)
abbrev ZKs:=F316 gFlS ZO0
abbrev gAir:=F225 gJet gFl gW
abbrev gChk:=F343 gPl
abbrev ZO1:=F303 gPl ZG1 ZG3 ZDj gChk
abbrev ZO2:=F217 gAir ZO1
abbrev ZKt:=F125 gFl ZO2
def ZBV(j:Jet):Place×Bool:=if ZAu j=true then(land j,true)else(⟨0,0⟩,false)
def ZO3(j:Jet):ZKs (j,())=some ((ZBV j).1,(ZBV j).2,()):=by
 unfold ZKs F316 ZO0 F356 ZBV
 simp only[flS,jetS,al_bind_some]
 cases h:ZAu j
 ·rfl
 ·have J:=ZB6 h
  have hl:=J.l
  have hf:fl j=j.Lift+1:=by unfold fl;rw[al_if_pos h]
  rw[hf]
  simp only[ZAF,ZAH,al_cond_true,if_true]
  rw[ZAG (by omega: ¬j.Lift+1<0),ZAA (by omega: ¬j.Lift+1>j.Lift+1)]
  simp only[ZAH,al_cond_true]
  unfold F351
  have hk:j.Heading.toNat<4:=by have:=J.h;omega
  have hh:(j.Heading.toNat:Int)=j.Heading:=by have:=J.h;omega
  have:=ZOx ⟨w64 ((j.Lift+1)*j.Tilt),0⟩ j.Heading.toNat hk
  rw[hh]at this
  simp only[this,al_bind_some,F317]
  rfl
def ZO4(j:Jet):ZKt (j,())=some ((ZBV j).1,(ZBV j).2,()):=by
 unfold ZKt F125 ZO2 F217 gAir F225 ZBV
 simp only[flI,jetI,al_bind_some,ZA8]
 cases h:ZAu j
 ·rfl
 ·have J:=ZB6 h
  have hl:=J.l;have hx:=J.x;have hy:=J.y
  have hf:fl j=j.Lift+1:=by unfold fl;rw[al_if_pos h]
  rw[hf]
  simp only[al_cond_true,al_bind_some,ZAa (show(0:Int)<=j.Lift+1 by omega) (Int.le_refl _),ZAF,al_cond_false,if_true]
  obtain⟨e,h0,h1⟩:=jump J
  obtain⟨lb,lx,ly⟩:=ZUd J
  unfold ZO1 F303
  have hk:j.Heading.toNat<4:=by have:=J.h;omega
  have hh:(j.Heading.toNat:Int)=j.Heading:=by have:=J.h;omega
  have ht:=ZOy ⟨w64 ((j.Lift+1)*j.Tilt),0⟩ j.Heading.toNat hk
  rw[hh]at ht
  have p1:isPl j.At=true:=by unfold isPl;rw[ZAa (by omega) (by omega),ZAa (by omega) (by omega)];rfl
  have p2:wi j.Heading 0 3=true:=ZAa J.h.1 J.h.2
  have p3:wi (w64 ((j.Lift+1)*j.Tilt)) (-4096) 4096=true:=by rw[e];exact ZAa (by omega) (by omega)
  have p4:isPl (land j)=true:=by unfold isPl;rw[ZAa (by omega) (by omega),ZAa (by omega) (by omega)];rfl
  have p5:gChk (land j,())=some (land j,true,()):=by
   unfold gChk F343
   simp only[ZBv,p4,al_bind_some]
   rfl
  simp only[ZBv,ZG2,ZFs,p1,p2,p3,ht,al_bind_some,ZAF,ZAH,al_cond_true,al_cond_false]
  have p6:(⟨w64 (j.At.X+(rotN j.Heading.toNat ⟨w64 ((j.Lift+1)*j.Tilt),0⟩).X),w64 (j.At.Y+(rotN j.Heading.toNat ⟨w64 ((j.Lift+1)*j.Tilt),0⟩).Y)⟩:Place)=land j:=rfl
  rw[p6,p5]
  rfl
def isDr(p:Place):Bool:=wi p.X (-8) 8 && wi p.Y (-8) 8
abbrev gDrS:=F234 gIn
abbrev gDr:=F122 gW
def drS(p:Place):gDrS (p,())=some (isDr p,()):=by
 unfold gDrS F234 isDr
 simp only[ZCo,al_bind_some]
 cases wi p.X (-8) 8<;>rfl
def drI(p:Place):gDr (p,())=some (isDr p,()):=by
 unfold gDr F122 isDr
 simp only[ZA8,al_bind_some]
 cases wi p.X (-8) 8<;>rfl
def cmpI(a b:Int):Int:=if a<b then-1 else if a>b then 1 else 0
def cmpP(p q:Place):Int:=if cmpI p.X q.X=0 then cmpI p.Y q.Y else cmpI p.X q.X
abbrev gCmp:=F216 F302
def ZO5(a b:Int):gCmp (a,b,())=some (cmpI a b,()):=by
 unfold gCmp F216 F302 cmpI
 simp only[decide_true,ZAF,al_bind_some,al_cond_false]
 by_cases h1:a<b
 ·simp[h1]
 ·by_cases h2:a>b<;>simp[h1,h2]
def or_0(a b:Int)(n:Nat)(K):ZAD s215_0 (n+5) (0,[a,b],2,0,()) K=cond (!(decide (a=0))) (some (a,())) (ZAD s215_0 (n+4) (0,[a,b],2,1,()) K):=by kernel_rfl
def or_1(a b:Int)(n:Nat)(K):ZAD s215_0 (n+4) (0,[a,b],2,1,()) K=cond (!(decide (b=0))) (some (b,())) (ZAD s215_0 (n+3) (0,[a,b],2,2,()) K):=by kernel_rfl
def or_2(a b:Int)(n:Nat)(K):ZAD s215_0 (n+3) (0,[a,b],2,2,()) K=K (0,[a,b],2,2,()):=by kernel_rfl
def ZO6(a b:Int):F215 ([a,b],())=some (if a=0 then b else a,()):=by
 unfold F215
 obtain⟨n,hn⟩:=ZBp 5 (by omega)
 rw[hn]
 have l:Int.ofNat [a,b].length=2:=rfl
 simp only[l]
 rw[or_0]
 by_cases ha:a=0
 ·rw[ZAL ha,al_if_pos ha,or_1]
  by_cases hb:b=0
  ·rw[ZAL hb,or_2,hb];rfl
  ·rw[ZAG hb];rfl
 ·rw[ZAG ha,al_if_neg ha];rfl
abbrev ZG4:=F123 gCmp F215
def ZKu(p q:Place):ZG4 (p,q,())=some (cmpP p q,()):=by
 unfold ZG4 F123 cmpP
 simp only[ZO5,ZO6,al_bind_some]
def ZUe(p q:Place):F235 (p,q,())=some (cmpP p q,()):=by
 unfold F235 cmpP cmpI
 simp only[Bool.and_true]
 by_cases h1:p.X<q.X
 ·simp[h1]
 ·by_cases h2:p.X=q.X
  ·by_cases h3:p.Y<q.Y
   ·simp[h2,h3]
   ·by_cases h4:p.Y=q.Y
    ·simp[h2,h4]
    ·have:p.Y>q.Y:=by omega
     simp[h2,h3,h4,this]
  ·have:p.X>q.X:=by omega
   simp[h1,h2,this]
abbrev ZIX:=F141 gDrS F235
abbrev ZG5:=F51 gDr ZG4 gW
def ZO7:ZIX=ZG5:=by
 have e:s141_0 gDrS F235=s51_0 gDr ZG4 gW:=by
  funext t rec K
  simp only[s141_0,s51_0,drS,drI,ZUe,ZKu]
 funext a
 unfold ZIX ZG5 F141 F51
 rw[e]
 congr 1
 funext t
 simp only[ZA8,al_bind_some]
 unfold wi
 by_cases h:Int.ofNat t.1.length>=1
 ·have h':1<=Int.ofNat t.1.length:=h
  rw[ZA h,ZAL h',Bool.true_and]
 ·have h': ¬1<=Int.ofNat t.1.length:=h
  rw[ZAA h,ZAG h'];rfl
def ZKv(r:List Place)(hr:r.length<=1048576): ∃b,ZG5 (r,())=some (b,())/\(b=true->1<=r.length/\r.length<=4/\ ∀p∈r,isDr p=true):=by
 unfold ZG5 F51
 rcases ZEu (f:=s51_0 gDr ZG4 gW) (K:=λt6=>(gW ((Int.ofNat (List.length t6.1)),1,4,())).bind λx7=>some (x7.1,())) (t:=(r,r,Int.ofNat r.length,0,())) r.length
  (λi t=>t=(r,r,Int.ofNat r.length,(i:Int),())/\ ∀p∈r.take i,isDr p=true) (λx=>x=some (false,())) (λt=>t.1=r/\ ∀p∈r,isDr p=true) (by omega) ⟨rfl,by simp⟩
  (by
   rintro i _ hi ⟨rfl,hall⟩
   have hx:r[i]?=some r[i]:=by simp
   have grow:isDr r[i]=true-> ∀p∈r.take (i+1),isDr p=true:=λhd p hp=>by
    rw[List.take_add_one,hx]at hp
    rcases List.mem_append.mp hp with h | h
    ·exact hall p h
    ·simp at h;subst h;exact hd
   have e1:w64 ((i:Int)+1)=((i+1:Nat):Int):=ZAB
   cases hd:isDr r[i]
   ·refine .inr (.inl ⟨_,rfl,λrec K=> ?_⟩)
    simp only[s51_0]
    rw[ZA,ZAE hx]
    simp only[drI,hd,al_bind_some]
    rfl
   ·by_cases hz:(i:Int)>0
    ·obtain⟨j,rfl⟩: ∃j,i=j+1:=⟨i-1,by omega⟩
     have hy:r[j]?=some r[j]:=by simp
     have e2:w64 (((j+1:Nat):Int) -1)=(j:Int):=by rw[ZAB];omega
     by_cases hc:cmpP r[j] r[j+1]>=0
     ·refine .inr (.inl ⟨_,rfl,λrec K=> ?_⟩)
      simp only[s51_0]
      rw[ZA,ZAE hx]
      simp only[drI,hd,al_bind_some,ZAF,ZAH,al_cond_true]
      rw[ZA hz,e2,ZAE hy]
      simp only[ZKu,al_bind_some]
      rw[ZA hc]
     ·refine .inl ⟨_,⟨rfl,grow hd⟩,λrec K=> ?_⟩
      simp only[s51_0]
      rw[ZA,ZAE hx]
      simp only[drI,hd,al_bind_some,ZAF,ZAH,al_cond_true]
      rw[ZA hz,e2,ZAE hy]
      simp only[ZKu,al_bind_some]
      rw[ZAA hc,e1]
    ·refine .inl ⟨_,⟨rfl,grow hd⟩,λrec K=> ?_⟩
     simp only[s51_0]
     rw[ZA,ZAE hx]
     simp only[drI,hd,al_bind_some,ZAF,ZAH,al_cond_true]
     rw[ZAA hz,e1])
  (by
   rintro _ ⟨rfl,hall⟩
   refine .inr ⟨(r,r,Int.ofNat r.length,(r.length:Int),()),⟨rfl,by simpa using hall⟩,λrec K=> ?_⟩
   simp only[s51_0]
   rw[ZAA])with ⟨x,rfl,h⟩ | ⟨t,⟨ht,hall⟩,h⟩
 ·exact⟨false,h,λe=>by cases e⟩
 ·rw[ZA8]at h
  refine⟨_,h,λe=> ?_⟩
  rw[ht,ZAr]at e
  simp at e
  exact⟨by omega,by omega,hall⟩
def ZIY(a b:Int):F358 (a,b,())=some (mn a b,()):=by
 unfold F358
 rw[ZCm,ZEt]
 simp only[]
 split<;>split<;>first | rfl | omega | (congr 2;omega)
def ZO8(a b:Int):F313 (a,b,())=some (mx a b,()):=by
 unfold F313
 rw[ZCm,ZIL]
 simp only[]
 split<;>split<;>first | rfl | omega | (congr 2;omega)
def ZO9(a:Int):mn a a=a:=by rw[ZEt];split<;>rfl
def ZP(a:Int):mx a a=a:=by rw[ZIL];split<;>rfl
def grow(b:Box)(p:Place):Box:=⟨⟨mn b.Low.X p.X,mn b.Low.Y p.Y⟩,⟨mx b.High.X p.X,mx b.High.Y p.Y⟩⟩
abbrev ZIZ:=F319 gPlS F358 F313
abbrev gBox:=F214 gPl
def InB(m:Int)(b:Box):Prop:=(-m<=b.Low.X/\b.Low.X<=m)/\(-m<=b.Low.Y/\b.Low.Y<=m)/\(-m<=b.High.X/\b.High.X<=m)/\(-m<=b.High.Y/\b.High.Y<=m)
def ZUf{m:Int}{b:Box}{p:Place}(h:InB m b)(hx: -m<=p.X/\p.X<=m)(hy: -m<=p.Y/\p.Y<=m):InB m (grow b p):=by
 obtain⟨h1,h2,h3,h4⟩:=h
 unfold InB grow
 simp only[ZEt,ZIL]
 refine⟨?_,?_,?_,?_⟩<;>split<;>omega
def ZPA(r:List Place)(hr:r.length<=1048576)(m:Int): ∃B b,ZIZ (r,())=some (B,b,())/\gBox (r,())=some (B,b,())/\((∀p∈r,isPl p=true/\(-m<=p.X/\p.X<=m)/\(-m<=p.Y/\p.Y<=m))->1<=r.length->b=true/\InB m B):=by
 cases r with
 | nil=>
  refine⟨⟨⟨0,0⟩,⟨0,0⟩⟩,false,?_,rfl,λ_ h=>by simp at h⟩
  unfold ZIZ F319
  rw[show fuel=(fuel-1)+1 by rw[ZBu],ZAT]
  rfl
 | cons p0 r0=>
  generalize hrr:p0::r0=r at*
  have h0:r[0]?=some p0:=by rw[<-hrr];rfl
  have hp:0<r.length:=by rw[<-hrr];simp
  have key: ∀(d i n:Nat) (B:Box),1<=i->i+d=r.length->d<n->((∀p∈r,isPl p=true/\(-m<=p.X/\p.X<=m)/\(-m<=p.Y/\p.Y<=m))->InB m B)-> ∃B' b,
    ZAD (s319_0 gPlS F358 F313) n (r,(⟨⟨0,0⟩,⟨0,0⟩⟩:Box),B,r,Int.ofNat r.length,(i:Int),()) (λt12=>some (t12.2.2.1,(decide ((Int.ofNat (List.length t12.1))>0)),()))=some (B',b,())/\
    ZAD (s214_0 gPl) n ((⟨⟨0,0⟩,⟨0,0⟩⟩:Box),B,r,Int.ofNat r.length,(i:Int),()) (λt6=>some (t6.2.1,true,()))=some (B',b,())/\((∀p∈r,isPl p=true/\(-m<=p.X/\p.X<=m)/\(-m<=p.Y/\p.Y<=m))->b=true/\InB m B'):=by
   intro d
   induction d with
   | zero=>
    intro i n B h1 hd hn hB
    obtain⟨n,rfl⟩: ∃k,n=k+1:=⟨n-1,by omega⟩
    refine⟨B,true,?_,?_,λh=>⟨rfl,hB h⟩⟩
    ·rw[ZAT];simp only[s319_0];rw[ZAA,ZAL (by simp;omega)]
    ·rw[ZAT];simp only[s214_0];rw[ZAA]
   | succ d ih=>
    intro i n B h1 hd hn hB
    obtain⟨n,rfl⟩: ∃k,n=k+1:=⟨n-1,by omega⟩
    have hi:i<r.length:=by omega
    have hx:r[i]?=some r[i]:=by simp
    have e1:w64 ((i:Int)+1)=((i+1:Nat):Int):=ZAB
    cases hpl:isPl r[i]
    ·refine⟨⟨⟨0,0⟩,⟨0,0⟩⟩,false,?_,?_,λh=> ?_⟩
     ·rw[ZAT];simp only[s319_0];rw[ZA,ZAE hx];simp only[ZDh,hpl,al_bind_some];rfl
     ·rw[ZAT];simp only[s214_0];rw[ZA,ZAE hx];simp only[ZBv,hpl,al_bind_some];rfl
     ·have:=(h r[i] (by simp)).1
      rw[hpl]at this;cases this
    ·obtain⟨B',b,g1,g2,g3⟩:=ih (i+1) n (grow B r[i]) (by omega) (by omega) (by omega) λh=>ZUf (hB h) (h r[i] (by simp)).2.1 (h r[i] (by simp)).2.2
     refine⟨B',b,?_,?_,g3⟩
     ·rw[ZAT];simp only[s319_0];rw[ZA,ZAE hx]
      simp only[ZDh,hpl,al_bind_some,ZAF,al_cond_false]
      rw[ZAA]
      simp only[ZIY,ZO8,al_bind_some]
      rw[e1];exact g1
     ·rw[ZAT];simp only[s214_0];rw[ZA,ZAE hx]
      simp only[ZBv,hpl,al_bind_some,ZAF,al_cond_false]
      rw[e1];exact g2
  unfold ZIZ F319 gBox F214
  simp only
  rw[ZAA (by simp only[ZAU];omega),show rdL r 0=λ(K:Place->Option (Box×Bool×Unit))=>K p0 from funext λK=>ZAE (i:=0) h0]
  dsimp only
  obtain⟨n,hn⟩:=ZBp 1 (by omega)
  have hnl:r.length<=n:=by have:=ZBu;omega
  rw[hn,ZAT,ZAT]
  simp only[s319_0,s214_0]
  rw[ZA,ZA]
  rw[show rdL r 0=λ(K:Place->Option (Box×Bool×Unit))=>K p0 from funext λK=>ZAE (i:=0) h0]
  simp only[ZDh,ZBv,al_bind_some]
  have mem:p0∈r:=by rw[<-hrr];simp
  cases hpl:isPl p0
  ·refine⟨⟨⟨0,0⟩,⟨0,0⟩⟩,false,rfl,rfl,λh _=> ?_⟩
   have:=(h p0 mem).1
   rw[hpl]at this;cases this
  ·obtain⟨B',b,g1,g2,g3⟩:=key (r.length-1) 1 n ⟨p0,p0⟩ (by omega) (by omega) (by omega) λh=>by
    have:=h p0 mem
    exact⟨this.2.1,this.2.2,this.2.1,this.2.2⟩
   have e1:w64 (0+1)=((1:Nat):Int):=by kernel_rfl
   refine⟨B',b,?_,?_,λh _=>g3 h⟩
   ·simp only[ZAF,al_cond_false,decide_true,al_cond_true,ZIY,ZO8,al_bind_some,ZO9,ZP,e1]
    exact g1
   ·simp only[ZAF,al_cond_false,ZO9,ZP,e1]
    exact g2
abbrev gRBS:=F357 ZIZ ZIX
abbrev gRB:=F301 ZG5 gW gBox
def ZUg(r:List Place)(hr:r.length<=1048576)(n:Int): ∃B b,gRBS (r,n,())=some (B,b,())/\gRB (r,n,())=some (B,b,())/\(b=true->0<=n/\n<=128/\ ∃C,InB 8 C/\B=⟨⟨w64 (n*C.Low.X),w64 (n*C.Low.Y)⟩,⟨w64 (n*C.High.X),w64 (n*C.High.Y)⟩⟩):=by
 obtain⟨C,cb,c1,c2,c3⟩:=ZPA r hr 8
 obtain⟨rb,r1,r2⟩:=ZKv r hr
 have r1':ZIX (r,())=some (rb,()):=by rw[ZO7];exact r1
 unfold gRBS F357 gRB F301
 simp only[c1,c2,r1,r1',al_bind_some,ZA8]
 cases rb with
 | false=>exact⟨_,_,rfl,rfl,λh=>by cases h⟩
 | true=>
  simp only[ZAF,ZAH,al_cond_true]
  by_cases hn:n<0
  ·rw[ZAL hn,show wi n 0 128=false by rw[<-Bool.not_eq_true,ZAr];omega]
   exact⟨_,_,rfl,rfl,λh=>by cases h⟩
  ·rw[ZAG hn]
   simp only[ZAH,al_cond_true]
   by_cases hm:n>128
   ·rw[ZA hm,show wi n 0 128=false by rw[<-Bool.not_eq_true,ZAr];omega]
    exact⟨_,_,rfl,rfl,λh=>by cases h⟩
   ·rw[ZAA hm,ZAa (by omega) (by omega)]
    obtain⟨q1,q2,q3⟩:=r2 rfl
    have:=c3 (λp hp=>by
     have hd:=q3 p hp
     simp only[isDr,ZAM,ZAr]at hd
     refine⟨?_,hd.1,hd.2⟩
     unfold isPl
     rw[ZAa (by omega) (by omega),ZAa (by omega) (by omega)];rfl) q1
    exact⟨_,_,rfl,rfl,λ_=>⟨by omega,by omega,C,this.2,rfl⟩⟩
abbrev gLBS:=F318 ZKs gFlS gRBS F317
abbrev gLB:=F213 ZKt gFl gRB
def ZKw(j:Jet)(r:List Place)(hr:r.length<=1048576): ∃B b,gLBS (j,r,())=some (B,b,())/\gLB (j,r,())=some (B,b,()):=by
 obtain⟨B,b,h1,h2,_⟩:=ZUg r hr (fl j)
 unfold gLBS F318 gLB F213
 simp only[ZO3,ZO4,flS,flI,h1,h2,al_bind_some,F317]
 cases (ZBV j).2<;>cases b<;>exact⟨_,_,rfl,rfl⟩
def ZUh(l:List Place)(hl:l.length<=1048576)(n:Int)(hn:0<=n/\n<=1048576):F62 (l,n,())=some (if n<(l.length:Int)then-1 else n-(l.length:Int),()):=by
 unfold F62
 have e:w64 (n-Int.ofNat l.length)=n-(l.length:Int):=ZAB
 simp only[e]
 by_cases h:n<(l.length:Int)
 ·rw[ZA,al_if_pos h]
 ·rw[ZAA,al_if_neg h]
def ZUi(l:List Place)(hl: ¬l.length<=1048576)(hm:l.length<=9223372036854775807)(n:Int)(hn:0<=n/\n<=1048576):F62 (l,n,())=some (-1,()):=by
 unfold F62
 have e:w64 (n-Int.ofNat l.length)=n-(l.length:Int):=ZAB
 simp only[e]
 rw[ZA]
abbrev ZKx:=F67 F156
def ZUj(l:List Place)(hl:l.length<=1048576):ZKx (l,())=some (l,()):=by
 unfold ZKx F67
 rw[ZBB (by simp),ZAC]
 obtain⟨t,⟨m,rfl,h1,h2⟩,e⟩:=ZBM (f:=s67_0 F156) (K:=λt4=>some (t4.2.1,())) (t:=(l,List.replicate (Int.toNat (Int.ofNat l.length)) (Ty.zero .place),0,())) l.length
  (λi t=> ∃m:List Place,t=(l,m,(i:Int),())/\m.length=l.length/\ ∀j,j<i->m[j]?=l[j]?) (by omega) ⟨_,rfl,by simp,λj hj=>by omega⟩
  (by
   rintro i _ hi ⟨m,rfl,h1,h2⟩
   have hx:l[i]?=some l[i]:=by simp
   have hd:m[i]?=some m[i]:=by simp
   refine⟨_,⟨m.set i l[i],rfl,by simp[h1],λj hj=> ?_⟩,λrec K=> ?_⟩
   ·rw[List.getElem?_set]
    by_cases hji:i=j
    ·subst hji;simp[h1,hi]
    ·simp only[al_if_neg hji];exact h2 j (by omega)
   ·simp only[s67_0]
    rw[ZCm,al_if_pos (by simp;omega),ZAE hx]
    simp only[F156,al_bind_some]
    rw[ZAE hd]
    simp only[ZAX]
    rw[hd,ZAB]
    rfl)
  (by
   rintro _ ⟨m,rfl,h1,h2⟩ rec K
   simp only[s67_0]
   rw[ZCm,al_if_neg (by simp)])
 have:m=l:=List.ext_getElem? λj=>by
  by_cases hj:j<l.length
  ·exact h2 j hj
  ·rw[List.getElem?_eq_none (by omega),List.getElem?_eq_none (by omega)]
 subst this
 exact e
def ZIa(a:Place):F160 (a,a,())=some (true,()):=by
 unfold F160;simp
def ZUk(l:List Place)(hl:l.length<=1048576):F70 F160 (l,l,())=some (true,()):=by
 unfold F70
 simp only[decide_true,ZAF,al_cond_false]
 obtain⟨t,⟨_,rfl⟩,e⟩:=ZBM (f:=s70_0 F160) (K:=λ_=>some (true,())) (t:=(l,l,0,())) l.length
  (λi t=>True/\t=(l,l,(i:Int),())) (by omega) ⟨trivial,rfl⟩
  (by
   rintro i _ hi ⟨_,rfl⟩
   have hx:l[i]?=some l[i]:=by simp
   refine⟨_,⟨trivial,rfl⟩,λrec K=> ?_⟩
   simp only[s70_0]
   rw[ZA,ZAE hx,ZAE hx,ZIa,ZAB]
   rfl)
  (by
   rintro _ ⟨_,rfl⟩ rec K
   simp only[s70_0]
   rw[ZAA])
 exact e
end Ev
namespace Ev
open Go
def chOK(i:Nat)(c:UInt8):Bool:=wi (c.toNat:Int) 97 122 || (!decide (i=0) && wi (c.toNat:Int) 48 57)
def nm:Nat->Str->Bool
 | _,[]=>true
 | i,c::r=>chOK i c && nm (i+1) r
def isNm(s:Str):Bool:=nm 0 s && wi (Int.ofNat s.length) 1 8
def ZG6{α:Type}(s:List α)(i:Nat)(h:i<s.length):s.drop i=s[i]::s.drop (i+1):=by
 rw[List.drop_eq_getElem_cons h]
def ZUl(s:Str)(hs:s.length<=1048576)(i:Nat)(hi:i<s.length)(rec K):s268_0 (s,(i:Int),()) rec K=cond (chOK i s[i]) (rec (s,((i+1:Nat):Int),())) (some (false,())):=by
 have hx:s[i]?=some s[i]:=by simp
 have hx':=λ(K:UInt8->Option (Bool×Unit))=>ZAE (K:=K) hx
 have d0:(i:Int)<Int.ofNat s.length:=by simp;omega
 have ew:w64 ((i:Int)+1)=((i+1:Nat):Int):=ZAB
 simp only[s268_0,d0,decide_true,al_cond_true,hx',ew]
 unfold chOK wi
 have hc:(Int.ofNat s[i].toNat)=(s[i].toNat:Int):=rfl
 simp only[hc]
 generalize (s[i].toNat:Int)=c
 by_cases c1:c>=97<;>by_cases c2:c<=122<;>by_cases c3:c>=48<;>by_cases c4:c<=57<;>by_cases h0:i=0<;>
  (
  have c1':=c1;have c3':=c3;rw[ge_iff_le]at c1' c3';have h0':((i:Int)=0)=(i=0):=by simp
  simp only[c1,c2,c3,c4,c1',c3',h0,h0',decide_true,decide_false,ZAF,ZAH,al_cond_true,al_cond_false,Bool.true_and,Bool.false_and,Bool.and_true,Bool.and_false,Bool.or_true,Bool.or_false,Bool.true_or,Bool.false_or]<;>first | rfl | omega)
abbrev gNmS:=F268
abbrev gNm:=F280 gW
def ZUm(s:Str)(hs:s.length<=1048576)(i:Nat)(hi:i<s.length)(rec K):s280_0 gW (s,Int.ofNat s.length,(i:Int),()) rec K=cond (chOK i s[i]) (rec (s,Int.ofNat s.length,((i+1:Nat):Int),())) (some (false,())):=by
 have hx:s[i]?=some s[i]:=by simp
 have hx':=λ(K:UInt8->Option (Bool×Unit))=>ZAE (K:=K) hx
 have d0:(i:Int)<Int.ofNat s.length:=by simp;omega
 have ew:w64 ((i:Int)+1)=((i+1:Nat):Int):=ZAB
 simp only[s280_0,d0,decide_true,al_cond_true,hx',ew]
 unfold chOK wi
 have hc:(Int.ofNat s[i].toNat)=(s[i].toNat:Int):=rfl
 simp only[hc]
 generalize (s[i].toNat:Int)=c
 by_cases c1:c>=97<;>by_cases c2:c<=122<;>by_cases c3:c>=48<;>by_cases c4:c<=57<;>by_cases h0:i=0<;>
  (
  have c1':=c1;have c3':=c3;rw[ge_iff_le]at c1' c3';have h0':((i:Int)=0)=(i=0):=by simp
  have c5:(c<48)= ¬(48<=c):=by simp
  have c6:(c>57)= ¬(c<=57):=by simp
  simp only[c1,c2,c3,c4,c5,c6,c1',c3',h0,h0',not_true_eq_false,not_false_eq_true,decide_true,decide_false,ZAF,ZAH,al_cond_true,al_cond_false,Bool.true_and,Bool.false_and,Bool.and_true,Bool.and_false,Bool.or_true,Bool.or_false,Bool.true_or,Bool.false_or]<;>first | rfl | omega)
def ZG7(s:Str)(hs:s.length<=1048576):gNmS (s,())=some (isNm s,()):=by
 have key: ∀(d i n:Nat),i+d=s.length->d<n->ZAD s268_0 n (s,(i:Int),()) (λt8=>cond (decide ((Int.ofNat (List.length t8.1))>0)) (some ((decide ((Int.ofNat (List.length t8.1))<=8)),())) (some (false,())))=some (nm i (s.drop i) && wi (Int.ofNat s.length) 1 8,()):=by
  intro d
  induction d with
  | zero=>
   intro i n hd hn
   obtain⟨n,rfl⟩: ∃k,n=k+1:=⟨n-1,by omega⟩
   rw[ZAT];simp only[s268_0]
   rw[ZAA,List.drop_eq_nil_of_le (by omega)]
   unfold wi
   by_cases h:Int.ofNat s.length>0
   ·rw[ZA h,ZAL (by omega:1<=Int.ofNat s.length)];rfl
   ·rw[ZAA h,ZAG (by omega: ¬1<=Int.ofNat s.length)];rfl
  | succ d ih=>
   intro i n hd hn
   obtain⟨n,rfl⟩: ∃k,n=k+1:=⟨n-1,by omega⟩
   have hi:i<s.length:=by omega
   rw[ZAT,ZUl s hs i hi,ZG6 s i hi]
   simp only[nm]
   cases hc:chOK i s[i]
   ·rfl
   ·rw[al_cond_true,ih (i+1) n (by omega) (by omega)];rfl
 exact key s.length 0 fuel (by omega) (by rw[ZBu];omega)
def ZG8(s:Str)(hs:s.length<=1048576):gNm (s,())=some (isNm s,()):=by
 have key: ∀(d i n:Nat),i+d=s.length->d<n->ZAD (s280_0 gW) n (s,Int.ofNat s.length,(i:Int),()) (λt8=>(gW ((Int.ofNat (List.length t8.1)),1,8,())).bind λx9=>some (x9.1,()))=some (nm i (s.drop i) && wi (Int.ofNat s.length) 1 8,()):=by
  intro d
  induction d with
  | zero=>
   intro i n hd hn
   obtain⟨n,rfl⟩: ∃k,n=k+1:=⟨n-1,by omega⟩
   rw[ZAT];simp only[s280_0]
   rw[ZAA,List.drop_eq_nil_of_le (by omega),ZA8]
   rfl
  | succ d ih=>
   intro i n hd hn
   obtain⟨n,rfl⟩: ∃k,n=k+1:=⟨n-1,by omega⟩
   have hi:i<s.length:=by omega
   rw[ZAT,ZUm s hs i hi,ZG6 s i hi]
   simp only[nm]
   cases hc:chOK i s[i]
   ·rfl
   ·rw[al_cond_true,ih (i+1) n (by omega) (by omega)];rfl
 exact key s.length 0 fuel (by omega) (by rw[ZBu];omega)
end Ev
namespace Ev
open Go
def ZBw(l:List Cue):Prop:= ∀c∈l,c.Name.length<=1048576
def ZAz(c:Cue):Bool:=wi c.Tick 0 64 && (isNm c.Name && (wi c.Level 0 32 && wi c.Ramp 0 16))
abbrev ZKy:=F171 gIn gNmS
abbrev gCue:=F199 gW gNm
def cueS(c:Cue)(h:c.Name.length<=1048576):ZKy (c,())=some (ZAz c,()):=by
 unfold ZKy F171 ZAz
 simp only[ZCo,ZG7 c.Name h,al_bind_some]
 cases wi c.Tick 0 64<;>cases isNm c.Name<;>cases wi c.Level 0 32<;>rfl
def cueI(c:Cue)(h:c.Name.length<=1048576):gCue (c,())=some (ZAz c,()):=by
 unfold gCue F199 ZAz
 simp only[ZA8,ZG8 c.Name h,al_bind_some]
 cases wi c.Tick 0 64<;>cases isNm c.Name<;>cases wi c.Level 0 32<;>rfl
def cmpS(a b:Str):Int:=if Op.bytesLess a b=true then-1 else if a=b then 0 else 1
def cmpC(p q:Cue):Int:=if cmpI p.Tick q.Tick=0 then cmpS p.Name q.Name else cmpI p.Tick q.Tick
abbrev ZKz:=F288 F341
def ZUn(a b:Str):ZKz (a,b,())=some (cmpS a b,()):=by
 unfold ZKz F288 F341 cmpS
 simp only[decide_true,ZAF,al_bind_some,al_cond_false]
 cases h1:Op.bytesLess a b
 ·by_cases h2:a=b<;>simp[h2]
 ·rfl
abbrev ZIb:=F201 gCmp ZKz F215
def ZG9(p q:Cue):ZIb (p,q,())=some (cmpC p q,()):=by
 unfold ZIb F201 cmpC
 simp only[ZO5,ZUn,ZO6,al_bind_some]
def ZPB(p q:Cue):F307 (p,q,())=some (cmpC p q,()):=by
 unfold F307 cmpC cmpI cmpS
 by_cases h1:p.Tick<q.Tick
 ·simp[h1]
 ·by_cases h2:p.Tick=q.Tick
  ·simp only[h2]
   cases h3:Op.bytesLess p.Name q.Name
   ·by_cases h4:p.Name=q.Name<;>simp[h4]
   ·simp
  ·have:p.Tick>q.Tick:=by omega
   simp[h1,h2,this]
abbrev ZIc:=F231 ZKy F307
abbrev ZEx:=F119 gCue ZIb
def ZUo{R α:Type}{l:List α}{i:Int}{K K':α->Option R}(h: ∀x∈l,K x=K' x):rdL l i K=rdL l i K':=by
 unfold rdL
 split
 ·cases hx:l[i.toNat]? with
  | none=>rfl
  | some x=>exact h x (al_mem_get hx)
 ·rfl
def ZPC(l:List Cue)(hn:ZBw l):ZIc (l,())=ZEx (l,()):=by
 unfold ZIc ZEx F231 F119
 refine ZOP (λt=>t.1=l/\t.2.1=l) ?_ fuel _ ⟨rfl,rfl⟩
 rintro ⟨a,b,c,d,u⟩ rec rec' ⟨h1,h2⟩ hr
 simp only at h1 h2
 subst h1;subst h2
 simp only[s231_0,s119_0,ZPB,ZG9]
 cases hd:decide (d<c)
 ·rfl
 ·simp only[al_cond_true]
  refine ZUo λx hx=> ?_
  rw[cueS x (hn x hx),cueI x (hn x hx)]
  simp only[al_bind_some]
  rw[hr _ ⟨rfl,rfl⟩]
def ZK0(l:List Cue)(hn:ZBw l)(hl:l.length<=1048576): ∃b,ZEx (l,())=some (b,())/\(b=true->l.length<=12/\ ∀c∈l,ZAz c=true):=by
 unfold ZEx F119
 rcases ZEu (f:=s119_0 gCue ZIb) (K:=λt6=>some (decide (Int.ofNat (List.length t6.1)<=12),())) (t:=(l,l,Int.ofNat l.length,0,())) l.length
  (λi t=>t=(l,l,Int.ofNat l.length,(i:Int),())/\ ∀p∈l.take i,ZAz p=true) (λx=>x=some (false,())) (λt=>t.1=l/\ ∀p∈l,ZAz p=true) (by omega) ⟨rfl,by simp⟩
  (by
   rintro i _ hi ⟨rfl,hall⟩
   have hx:l[i]?=some l[i]:=by simp
   have hb:=hn l[i] (by simp)
   have grow:ZAz l[i]=true-> ∀p∈l.take (i+1),ZAz p=true:=λhd p hp=>by
    rw[List.take_add_one,hx]at hp
    rcases List.mem_append.mp hp with h | h
    ·exact hall p h
    ·simp at h;subst h;exact hd
   have e1:w64 ((i:Int)+1)=((i+1:Nat):Int):=ZAB
   cases hd:ZAz l[i]
   ·refine .inr (.inl ⟨_,rfl,λrec K=> ?_⟩)
    simp only[s119_0]
    rw[ZA,ZAE hx,cueI _ hb,hd]
    rfl
   ·by_cases hz:(i:Int)>0
    ·obtain⟨j,rfl⟩: ∃j,i=j+1:=⟨i-1,by omega⟩
     have hy:l[j]?=some l[j]:=by simp
     have e2:w64 (((j+1:Nat):Int) -1)=(j:Int):=by rw[ZAB];omega
     by_cases hc:cmpC l[j] l[j+1]>=0
     ·refine .inr (.inl ⟨_,rfl,λrec K=> ?_⟩)
      simp only[s119_0]
      rw[ZA,ZAE hx,cueI _ hb,hd]
      simp only[al_bind_some,ZAF,ZAH,al_cond_true]
      rw[ZA hz,e2,ZAE hy]
      simp only[ZG9,al_bind_some]
      rw[ZA hc]
     ·refine .inl ⟨_,⟨rfl,grow hd⟩,λrec K=> ?_⟩
      simp only[s119_0]
      rw[ZA,ZAE hx,cueI _ hb,hd]
      simp only[al_bind_some,ZAF,ZAH,al_cond_true]
      rw[ZA hz,e2,ZAE hy]
      simp only[ZG9,al_bind_some]
      rw[ZAA hc,e1]
    ·refine .inl ⟨_,⟨rfl,grow hd⟩,λrec K=> ?_⟩
     simp only[s119_0]
     rw[ZA,ZAE hx,cueI _ hb,hd]
     simp only[al_bind_some,ZAF,ZAH,al_cond_true]
     rw[ZAA hz,e1])
  (by
   rintro _ ⟨rfl,hall⟩
   refine .inr ⟨(l,l,Int.ofNat l.length,(l.length:Int),()),⟨rfl,by simpa using hall⟩,λrec K=> ?_⟩
   simp only[s119_0]
   rw[ZAA])with ⟨x,rfl,h⟩ | ⟨t,⟨ht,hall⟩,h⟩
 ·exact⟨false,h,λe=>by cases e⟩
 ·refine⟨_,h,λe=>⟨?_,hall⟩⟩
  rw[ht]at e
  simp at e;omega
abbrev ZPD:=F323 F248 F359
abbrev ZEy:=F209 ZG3 F295
def ZPE:ZPD=ZEy:=by
 have e:F359=F295:=rfl
 funext a
 unfold ZPD ZEy F323 F209
 simp only[ZKr,ZFs,e,Int.mul_comm]
def ZUp(a b:Int)(hb:b≠0): ∃v,F295 (a,b,())=some (v,()):=by
 unfold F295
 simp only
 rw[ZAA hb,ZAA hb]
 cases decide (Int.tmod a b<0)<;>exact⟨_,rfl⟩
def ZPF(a b t r:Int): ∃v,ZEy (a,b,t,r,())=some (v,()):=by
 unfold ZEy F209
 simp only[ZFs,al_bind_some]
 cases wi a (-4096) 4096
 ·exact⟨_,rfl⟩
 ·cases wi b (-4096) 4096
  ·exact⟨_,rfl⟩
  ·simp only[ZAF,ZAH,al_cond_true,al_cond_false]
   by_cases h1:t>=r
   ·rw[ZA h1];exact⟨_,rfl⟩
   ·rw[ZAA h1]
    by_cases h2:t<=0
    ·rw[ZAL h2];exact⟨_,rfl⟩
    ·rw[ZAG h2]
     simp only[ZAH,al_cond_true]
     by_cases h3:r>999
     ·rw[ZA h3];exact⟨_,rfl⟩
     ·rw[ZAA h3]
      obtain⟨v,hv⟩:=ZUp (w64 (t*w64 (b-a))) r (by omega)
      rw[hv];exact⟨_,rfl⟩
abbrev gLev:=F110 ZEx ZEy
def ZUq(l:List Cue)(hn:ZBw l)(hl:l.length<=1048576)(name:Str)(t:Int): ∃v,gLev (l,name,t,())=some (v,()):=by
 obtain⟨b,hb,_⟩:=ZK0 l hn hl
 unfold gLev F110
 simp only[hb,al_bind_some]
 cases b
 ·exact⟨_,rfl⟩
 ·simp only[ZAF,ZAH,al_cond_true]
  cases decide (t<0)
  ·simp only[al_cond_false]
   obtain⟨t',⟨acc,c,rfl⟩,e⟩:=ZBM (f:=s110_0 ZEx ZEy) (K:=λt5=>(ZEy (t5.2.2.1,t5.2.2.2.1.Level,(w64 (t5.2.1-t5.2.2.2.1.Tick)),t5.2.2.2.1.Ramp,())).bind λx6=>some (x6.1,()))
    (t:=(name,t,0,(⟨0,[],0,0⟩:Cue),l,Int.ofNat l.length,0,())) l.length (λi t'=> ∃(acc:Int) (c:Cue),t'=(name,t,acc,c,l,Int.ofNat l.length,(i:Int),())) (by omega) ⟨0,⟨0,[],0,0⟩,rfl⟩
    (by
     rintro i _ hi ⟨acc,c,rfl⟩
     have hx:l[i]?=some l[i]:=by simp
     have e1:w64 ((i:Int)+1)=((i+1:Nat):Int):=ZAB
     obtain⟨v,hv⟩:=ZPF acc c.Level (w64 (l[i].Tick-c.Tick)) c.Ramp
     by_cases c1:l[i].Name=name
     ·by_cases c2:l[i].Tick<=t
      ·refine⟨_,⟨v,l[i],rfl⟩,λrec K=> ?_⟩
       simp only[s110_0]
       rw[ZA,ZAE hx,ZA c1,ZA c2,hv,e1]
       rfl
      ·refine⟨_,⟨acc,c,rfl⟩,λrec K=> ?_⟩
       simp only[s110_0]
       rw[ZA,ZAE hx,ZA c1,ZAA c2,e1]
     ·refine⟨_,⟨acc,c,rfl⟩,λrec K=> ?_⟩
      simp only[s110_0]
      rw[ZA,ZAE hx,ZAA c1,e1])
    (by
     rintro _ ⟨acc,c,rfl⟩ rec K
     simp only[s110_0]
     rw[ZAA])
   obtain⟨v,hv⟩:=ZPF acc c.Level (w64 (t-c.Tick)) c.Ramp
   rw[e]
   simp only[hv,al_bind_some]
   exact⟨_,rfl⟩
  ·exact⟨_,rfl⟩
end Ev
namespace Ev
open Go
abbrev ZDU:=F169 gNmS (F269 gIn) (F270 ZFt) gIn gPlS
abbrev gDev:=F192 gNm (F281 gW) gJet gW gPl
def devJ(d:Device):Jet:=⟨⟨d.At.X,d.At.Y⟩,d.Heading,d.Tilt,1⟩
def supS(x:Int):F269 gIn (x,())=some (wi x 0 512,()):=by
 unfold F269;simp only[ZCo,al_bind_some]
def supI(x:Int):F281 gW (x,())=some (wi x 0 512,()):=by
 unfold F281;simp only[ZA8,al_bind_some]
def djS(d:Device):F270 ZFt (d,())=some (ZAu (devJ d),()):=by
 unfold F270;exact congrArg (λo=>Option.bind o λx1=>some (x1.1,())) (jetS (devJ d))
def ZUr(d:Device)(h1:d.Name.length<=1048576)(h2:d.Line.length<=1048576): ∃b,ZDU (d,())=some (b,())/\gDev (d,())=some (b,())/\(b=true->d.Kind=1\/(d.Kind=2/\0<=d.Most/\d.Most<=32)\/d.Kind=3):=by
 have jI:gJet ((⟨⟨d.At.X,d.At.Y⟩,d.Heading,d.Tilt,1⟩:Jet),())=some (ZAu (devJ d),()):=jetI (devJ d)
 unfold ZDU F169 gDev F192
 simp only[ZG7 d.Name h1,ZG7 d.Line h2,ZG8 d.Name h1,ZG8 d.Line h2,supS,supI,djS,jI,ZCo,ZA8,ZDh,ZBv,al_bind_some,decide_true,Bool.true_and,Bool.and_true]
 by_cases k1:d.Kind=1
 ·have k2: ¬d.Kind=2:=by omega
  simp only[k1,decide_true,al_cond_true]
  generalize (decide (d.Line=[]) && (decide (d.At.X=0) && (decide (d.At.Y=0) && (decide (d.Heading=0) && decide (d.Tilt=0)))))=z
  cases isNm d.Name<;>cases isNm d.Line<;>cases wi d.Most 0 512<;>cases z<;>exact⟨_,rfl,rfl,λ_=>by simp⟩
 ·by_cases k2:d.Kind=2
  ·simp only[k2,decide_true,al_cond_true,show¬(2:Int)=1 by decide,decide_false,al_cond_false]
   cases hm:wi d.Most 0 32
   ·cases isNm d.Name<;>cases isNm d.Line<;>cases decide (d.Line=d.Name)<;>cases ZAu (devJ d)<;>exact⟨_,rfl,rfl,λh=>by cases h⟩
   ·have hm':=ZAr.1 hm
    cases isNm d.Name<;>cases isNm d.Line<;>cases decide (d.Line=d.Name)<;>cases ZAu (devJ d)<;>exact⟨_,rfl,rfl,λ_=> .inr (.inl ⟨by simp,hm'⟩)⟩
  ·by_cases k3:d.Kind=3
   ·simp only[k3,decide_true,al_cond_true,show¬(3:Int)=1 by decide,show¬(3:Int)=2 by decide,decide_false,al_cond_false]
    generalize (decide (d.Heading=0) && (decide (d.Tilt=0) && decide (d.Most=0)))=z
    cases isNm d.Name<;>cases isNm d.Line<;>cases decide (d.Line=d.Name)<;>cases isPl d.At<;>cases z<;>exact⟨_,rfl,rfl,λ_=>by simp⟩
   ·simp only[k1,k2,k3,decide_false,al_cond_false]
    cases isNm d.Name<;>cases isNm d.Line<;>exact⟨_,rfl,rfl,λh=>by cases h⟩
def ZB7(l:List Device):Prop:= ∀d∈l,d.Name.length<=1048576/\d.Line.length<=1048576
def ZH: ∀(a b:Str),(!Op.bytesLess b a)=(Op.bytesLess a b || decide (a=b))
 | [],[]=>rfl
 | [],y::b=>by simp[Op.bytesLess]
 | x::a,[]=>by simp[Op.bytesLess]
 | x::a,y::b=>by
  have ih:=ZH a b
  simp only[Op.bytesLess]
  rcases Nat.lt_trichotomy x.toNat y.toNat with h | h | h
  ·replace h:=UInt8.lt_iff_toNat_lt.mpr h
   have h1: ¬y<x:=UInt8.lt_asymm h
   have h2: ¬y=x:=λe=>by subst e;exact UInt8.lt_irrefl _ h
   have h3: ¬x=y:=λe=>h2 e.symm
   simp[h,h1,h2,h3]
  ·replace h:=UInt8.toNat_inj.mp h
   subst h
   have h1: ¬x<x:=UInt8.lt_irrefl _
   simp[h1,ih]
  ·replace h:=UInt8.lt_iff_toNat_lt.mpr h
   have h1: ¬x<y:=UInt8.lt_asymm h
   have h2: ¬y=x:=λe=>by subst e;exact UInt8.lt_irrefl _ h
   have h3: ¬x=y:=λe=>h2 e.symm
   simp[h,h1,h2,h3]
abbrev ZPG:=F265
abbrev ZK1:=F193 (F282 F283)
def ZPH(l:List Device)(hl:l.length<=1048576)(name:Str): ∃v,ZPG (l,name,())=some (v,())/\ZK1 (l,name,())=some (v,())/\(0<=v->v<(l.length:Int)):=by
 have key: ∀(d i n:Nat),i+d=l.length->d<n-> ∃v,
   ZAD s265_0 n (name,l,Int.ofNat l.length,(i:Int),()) (λt3=>some ((-1),()))=some (v,())/\
   ZAD (s282_0 F283) n (l,(name,()),Int.ofNat l.length,(i:Int),()) (λt4=>some ((-1),()))=some (v,())/\(0<=v->v<(l.length:Int)):=by
  intro d
  induction d with
  | zero=>
   intro i n hd hn
   obtain⟨n,rfl⟩: ∃k,n=k+1:=⟨n-1,by omega⟩
   refine⟨-1,?_,?_,by omega⟩
   ·rw[ZAT];simp only[s265_0];rw[ZAA]
   ·rw[ZAT];simp only[s282_0];rw[ZAA]
  | succ d ih=>
   intro i n hd hn
   obtain⟨n,rfl⟩: ∃k,n=k+1:=⟨n-1,by omega⟩
   have hi:i<l.length:=by omega
   have hx:l[i]?=some l[i]:=by simp
   have e1:w64 ((i:Int)+1)=((i+1:Nat):Int):=ZAB
   by_cases hc:l[i].Name=name
   ·refine⟨(i:Int),?_,?_,by omega⟩
    ·rw[ZAT];simp only[s265_0];rw[ZA,ZAE hx,ZA hc]
    ·rw[ZAT];simp only[s282_0,F283];rw[ZA,ZAE hx]
     simp only[al_bind_some]
     rw[ZA hc]
   ·obtain⟨v,g1,g2,g3⟩:=ih (i+1) n (by omega) (by omega)
    refine⟨v,?_,?_,g3⟩
    ·rw[ZAT];simp only[s265_0];rw[ZA,ZAE hx,ZAA hc,e1];exact g1
    ·rw[ZAT];simp only[s282_0,F283];rw[ZA,ZAE hx]
     simp only[al_bind_some]
     rw[ZAA hc,e1];exact g2
 obtain⟨v,g1,g2,g3⟩:=key l.length 0 fuel (by omega) (by rw[ZBu];omega)
 refine⟨v,g1,?_,g3⟩
 unfold ZK1 F193 F282
 exact congrArg (λo=>Option.bind o λx1=>some (x1.1,())) g2
abbrev ZId:=F266 ZPG
abbrev ZIe:=F194 ZK1
def ZPI(l:List Device)(hl:l.length<=1048576)(d:Device)(hk:d.Kind=1\/d.Kind=2\/d.Kind=3): ∃b,ZId (l,d,())=some (b,())/\ZIe (l,d,())=some (b,()):=by
 obtain⟨v,f1,f2,f3⟩:=ZPH l hl d.Line
 unfold ZId F266 ZIe F194
 simp only[f1,f2,al_bind_some]
 rcases hk with hk | hk | hk
 ·simp only[hk]
  exact⟨true,rfl,rfl⟩
 ·have e:w64 (2-1)=1:=by kernel_rfl
  simp only[hk,e]
  by_cases hv:v>=0
  ·obtain⟨i,rfl⟩:=Int.eq_ofNat_of_zero_le hv
   have hi:i<l.length:=by have:=f3 hv;omega
   have hx:l[i]?=some l[i]:=by simp
   refine⟨decide (l[i].Kind=1),?_,?_⟩
   ·rw[ZA,ZA hv,ZAE hx]
   ·rw[ZAA,ZA hv,ZAE hx]
  ·refine⟨false,?_,?_⟩
   ·rw[ZA,ZAA hv]
   ·rw[ZAA,ZAA hv]
 ·have e:w64 (3-1)=2:=by kernel_rfl
  simp only[hk,e]
  by_cases hv:v>=0
  ·obtain⟨i,rfl⟩:=Int.eq_ofNat_of_zero_le hv
   have hi:i<l.length:=by have:=f3 hv;omega
   have hx:l[i]?=some l[i]:=by simp
   refine⟨decide (l[i].Kind=2),?_,?_⟩
   ·rw[ZAA,ZA,ZA hv,ZAE hx]
   ·rw[ZAA,ZA hv,ZAE hx]
  ·refine⟨false,?_,?_⟩
   ·rw[ZAA,ZA,ZAA hv]
   ·rw[ZAA,ZAA hv]
abbrev ZIf:=F230 ZDU ZId
abbrev gRig:=F118 gDev ZIe
def ZPJ(l:List Device)(hl:l.length<=1048576)(hn:ZB7 l): ∃b,ZIf (l,())=some (b,())/\gRig (l,())=some (b,())/\(b=true->l.length<=8/\ ∀d∈l,gDev (d,())=some (true,())):=by
 have key: ∀(d i n:Nat),i+d=l.length->d<n-> ∃b,
   ZAD (s230_0 ZDU ZId) n (l,l,Int.ofNat l.length,(i:Int),()) (λt7=>some ((decide ((Int.ofNat (List.length t7.1))<=8)),()))=some (b && decide (Int.ofNat l.length<=8),())/\
   ZAD (s118_0 gDev ZIe) n (l,l,Int.ofNat l.length,(i:Int),()) (λt7=>some (true,()))=some (b,())/\(b=true-> ∀j,i<=j-> ∀h:j<l.length,gDev (l[j],())=some (true,())):=by
  intro d
  induction d with
  | zero=>
   intro i n hd hn
   obtain⟨n,rfl⟩: ∃k,n=k+1:=⟨n-1,by omega⟩
   refine⟨true,?_,?_,λ_ j h1 h2=>by omega⟩
   ·rw[ZAT];simp only[s230_0];rw[ZAA,Bool.true_and]
   ·rw[ZAT];simp only[s118_0];rw[ZAA]
  | succ d ih=>
   intro i n hd hnn
   obtain⟨n,rfl⟩: ∃k,n=k+1:=⟨n-1,by omega⟩
   have hi:i<l.length:=by omega
   have hx:l[i]?=some l[i]:=by simp
   have e1:w64 ((i:Int)+1)=((i+1:Nat):Int):=ZAB
   obtain⟨q1,q2⟩:=hn l[i] (by simp)
   obtain⟨v,d1,d2,d3⟩:=ZUr l[i] q1 q2
   cases hv:v
   ·subst hv
    refine⟨false,?_,?_,λh=>by cases h⟩
    ·rw[ZAT];simp only[s230_0];rw[ZA,ZAE hx,d1];rfl
    ·rw[ZAT];simp only[s118_0];rw[ZA,ZAE hx,d2];rfl
   ·subst hv
    have hk:l[i].Kind=1\/l[i].Kind=2\/l[i].Kind=3:=by
     rcases d3 rfl with h | h | h
     ·exact .inl h
     ·exact .inr (.inl h.1)
     ·exact .inr (.inr h)
    obtain⟨hb,u1,u2⟩:=ZPI l hl l[i] hk
    obtain⟨b,g1,g2,g3⟩:=ih (i+1) n (by omega) (by omega)
    have g4:b=true-> ∀j,i<=j-> ∀h:j<l.length,gDev (l[j],())=some (true,()):=λhb j hj hjl=>by
     by_cases hji:j=i
     ·subst hji;exact d2
     ·exact g3 hb j (by omega) hjl
    by_cases hz:(i:Int)>0
    ·obtain⟨j,rfl⟩: ∃j,i=j+1:=⟨i-1,by omega⟩
     have hy:l[j]?=some l[j]:=by simp
     have e2:w64 (((j+1:Nat):Int) -1)=(j:Int):=by rw[ZAB];omega
     cases ho:Op.bytesLess l[j].Name l[j+1].Name
     ·have ho':(Op.bytesLess l[j+1].Name l[j].Name || decide (l[j+1].Name=l[j].Name))=true:=by rw[<-ZH,ho];rfl
      refine⟨false,?_,?_,λh=>by cases h⟩
      ·rw[ZAT];simp only[s230_0];rw[ZA,ZAE hx,d1]
       simp only[al_bind_some,ZAF,ZAH,al_cond_true]
       rw[ZA hz,e2,ZAE hy,ho];rfl
      ·rw[ZAT];simp only[s118_0];rw[ZA,ZAE hx,d2]
       simp only[al_bind_some,ZAF,ZAH,al_cond_true]
       rw[ZA hz,e2,ZAE hy,ho'];rfl
     ·have ho':(Op.bytesLess l[j+1].Name l[j].Name || decide (l[j+1].Name=l[j].Name))=false:=by rw[<-ZH,ho];rfl
      cases hb
      ·refine⟨false,?_,?_,λh=>by cases h⟩
       ·rw[ZAT];simp only[s230_0];rw[ZA,ZAE hx,d1]
        simp only[al_bind_some,ZAF,ZAH,al_cond_true]
        rw[ZA hz,e2,ZAE hy,ho,u1];rfl
       ·rw[ZAT];simp only[s118_0];rw[ZA,ZAE hx,d2]
        simp only[al_bind_some,ZAF,ZAH,al_cond_true]
        rw[ZA hz,e2,ZAE hy,ho',u2];rfl
      ·refine⟨b,?_,?_,g4⟩
       ·rw[ZAT];simp only[s230_0];rw[ZA,ZAE hx,d1]
        simp only[al_bind_some,ZAF,ZAH,al_cond_true]
        rw[ZA hz,e2,ZAE hy,ho,u1,e1];exact g1
       ·rw[ZAT];simp only[s118_0];rw[ZA,ZAE hx,d2]
        simp only[al_bind_some,ZAF,ZAH,al_cond_true]
        rw[ZA hz,e2,ZAE hy,ho',u2,e1];exact g2
    ·cases hb
     ·refine⟨false,?_,?_,λh=>by cases h⟩
      ·rw[ZAT];simp only[s230_0];rw[ZA,ZAE hx,d1]
       simp only[al_bind_some,ZAF,ZAH,al_cond_true]
       rw[ZAA hz,u1];rfl
      ·rw[ZAT];simp only[s118_0];rw[ZA,ZAE hx,d2]
       simp only[al_bind_some,ZAF,ZAH,al_cond_true]
       rw[ZAA hz,u2];rfl
     ·refine⟨b,?_,?_,g4⟩
      ·rw[ZAT];simp only[s230_0];rw[ZA,ZAE hx,d1]
       simp only[al_bind_some,ZAF,ZAH,al_cond_true]
       rw[ZAA hz,u1,e1];exact g1
      ·rw[ZAT];simp only[s118_0];rw[ZA,ZAE hx,d2]
       simp only[al_bind_some,ZAF,ZAH,al_cond_true]
       rw[ZAA hz,u2,e1];exact g2
 obtain⟨b,g1,g2,g3⟩:=key l.length 0 fuel (by omega) (by rw[ZBu];omega)
 refine⟨b && decide (Int.ofNat l.length<=8),g1,?_,λh=> ?_⟩
 rotate_left
 ·simp only[ZAM,ZAZ]at h
  refine⟨by have:=h.2;simp at this;omega,λd hd=> ?_⟩
  obtain⟨j,hj,rfl⟩:=List.getElem_of_mem hd
  exact g3 h.1 j (by omega) hj
 unfold gRig F118
 by_cases h8:Int.ofNat l.length>8
 ·rw[ZA h8,ZAG (by omega),Bool.and_false]
 ·rw[ZAA h8,ZAL (by omega),Bool.and_true]
  exact g2
abbrev ZEz:=F232 gIn gDrS
abbrev ZEJ:=F120 gW gDr
def ZPK:ZEz=ZEJ:=by
 have e:s232_0 gIn gDrS=s120_0 gW gDr:=by
  funext t rec K
  simp only[s232_0,s120_0,drS,drI,ZCo,ZA8]
  try rfl
 funext a
 unfold ZEz ZEJ F232 F120
 rw[e]
def ZPL(l:List Gust)(hl:l.length<=1048576): ∃b,ZEJ (l,())=some (b,()):=by
 unfold ZEJ F120
 rcases ZEu (f:=s120_0 gW gDr) (K:=λt6=>some (decide (Int.ofNat (List.length t6.1)<=8),())) (t:=(l,l,Int.ofNat l.length,0,())) l.length
  (λi t=>t=(l,l,Int.ofNat l.length,(i:Int),())) (λx=>x=some (false,())) (λt=>True) (by omega) rfl
  (by
   rintro i _ hi rfl
   have hx:l[i]?=some l[i]:=by simp
   have e1:w64 ((i:Int)+1)=((i+1:Nat):Int):=ZAB
   cases h1:wi l[i].From 0 64
   ·refine .inr (.inl ⟨_,rfl,λrec K=> ?_⟩)
    simp only[s120_0]
    rw[ZA,ZAE hx]
    simp only[ZA8,h1,al_bind_some];rfl
   ·cases h2:isDr l[i].Drift
    ·refine .inr (.inl ⟨_,rfl,λrec K=> ?_⟩)
     simp only[s120_0]
     rw[ZA,ZAE hx]
     simp only[ZA8,drI,h1,h2,al_bind_some];rfl
    ·by_cases hz:(i:Int)>0
     ·obtain⟨j,rfl⟩: ∃j,i=j+1:=⟨i-1,by omega⟩
      have hy:l[j]?=some l[j]:=by simp
      have e2:w64 (((j+1:Nat):Int) -1)=(j:Int):=by rw[ZAB];omega
      by_cases hc:l[j+1].From<=l[j].From
      ·refine .inr (.inl ⟨_,rfl,λrec K=> ?_⟩)
       simp only[s120_0]
       rw[ZA,ZAE hx]
       simp only[ZA8,drI,h1,h2,al_bind_some,ZAF,ZAH,al_cond_true]
       rw[ZA hz,e2,ZAE hy,ZA hc]
      ·refine .inl ⟨_,rfl,λrec K=> ?_⟩
       simp only[s120_0]
       rw[ZA,ZAE hx]
       simp only[ZA8,drI,h1,h2,al_bind_some,ZAF,ZAH,al_cond_true]
       rw[ZA hz,e2,ZAE hy,ZAA hc,e1]
     ·refine .inl ⟨_,rfl,λrec K=> ?_⟩
      simp only[s120_0]
      rw[ZA,ZAE hx]
      simp only[ZA8,drI,h1,h2,al_bind_some,ZAF,ZAH,al_cond_true]
      rw[ZAA hz,e1])
  (by
   rintro _ rfl
   refine .inr ⟨(l,l,Int.ofNat l.length,(l.length:Int),()),trivial,λrec K=> ?_⟩
   simp only[s120_0]
   rw[ZAA])with ⟨x,rfl,h⟩ | ⟨t,_,h⟩
 ·exact⟨false,h⟩
 ·exact⟨_,h⟩
abbrev ZAN:=List Device×List Cue×List Gust×Int×Unit
structure ShowOK(s:ZAN):Prop where
 rig:s.1.length<=1048576
 devs:ZB7 s.1
 score:s.2.1.length<=1048576
 names:ZBw s.2.1
 wind:s.2.2.1.length<=1048576
abbrev ZK2:=F140 ZIf ZIc ZEz gIn
abbrev ZK3:=F50 gRig ZEx ZEJ gW
def ZPM(d:Device)(h1:d.Name.length<=9223372036854775807)(h2:d.Line.length<=9223372036854775807)(n:Int)(hn:0<=n/\n<=1048576):
  F226 (d,n,())=some (if n<(d.Name.length:Int)+(d.Line.length:Int)then-1 else n-((d.Name.length:Int)+(d.Line.length:Int)),()):=by
 unfold F226
 have e1:w64 (n-Int.ofNat d.Name.length)=n-(d.Name.length:Int):=ZAB
 simp only[e1]
 by_cases c:n<(d.Name.length:Int)
 ·rw[ZA,al_if_pos]
 ·rw[ZAA]
  have e2:w64 (n-(d.Name.length:Int) -Int.ofNat d.Line.length)=n-((d.Name.length:Int)+(d.Line.length:Int)):=by
   rw[ZAB];simp;omega
  rw[e2]
  by_cases c2:n<(d.Name.length:Int)+(d.Line.length:Int)
  ·rw[ZA,al_if_pos c2]
  ·rw[ZAA,al_if_neg c2]
def ZUs(l:List Device)(hw: ∀d∈l,d.Name.length<=9223372036854775807/\d.Line.length<=9223372036854775807)(hm:l.length<=9223372036854775807)(n:Int)(hn:0<=n/\n<=1048576):
  ∃x,F136 F226 (l,n,())=some (x,())/\(0<=x->x<=1048576/\l.length<=1048576/\ZB7 l):=by
 unfold F136
 have e0:w64 (n-Int.ofNat l.length)=n-(l.length:Int):=ZAB
 simp only[e0]
 by_cases hl:n<(l.length:Int)
 ·rw[ZA]
  exact⟨-1,rfl,λh=>by omega⟩
 ·rw[ZAA]
  rcases ZEu (f:=s136_0 F226) (K:=λt4=>some (t4.2.1,())) (t:=(l,n-(l.length:Int),0,())) l.length
   (λi t=> ∃x,t=(l,x,(i:Int),())/\0<=x/\x<=1048576/\ ∀d∈l.take i,d.Name.length<=1048576/\d.Line.length<=1048576) (λr=>r=some (-1,())) (λt=>ZB7 l/\t.2.1<=1048576) (by omega) ⟨_,rfl,by omega,by omega,by simp⟩
   (by
    rintro i _ hi ⟨x,rfl,x0,x1,hall⟩
    have hx:l[i]?=some l[i]:=by simp
    obtain⟨hb1,hb2⟩:=hw l[i] (by simp)
    have e1:w64 ((i:Int)+1)=((i+1:Nat):Int):=ZAB
    by_cases c:x<(l[i].Name.length:Int)+(l[i].Line.length:Int)
    ·refine .inr (.inl ⟨_,rfl,λrec K=> ?_⟩)
     simp only[s136_0]
     rw[ZA,ZAE hx,ZPM _ hb1 hb2 x ⟨x0,x1⟩,al_if_pos c]
     rfl
    ·refine .inl ⟨_,⟨x-((l[i].Name.length:Int)+(l[i].Line.length:Int)),rfl,by omega,by omega,λc hc=> ?_⟩,λrec K=> ?_⟩
     ·rw[List.take_add_one,hx]at hc
      rcases List.mem_append.mp hc with h | h
      ·exact hall c h
      ·simp at h;subst h;omega
     ·simp only[s136_0]
      rw[ZA,ZAE hx,ZPM _ hb1 hb2 x ⟨x0,x1⟩,al_if_neg c]
      simp only[al_bind_some]
      rw[ZAA,e1])
   (by
    rintro _ ⟨x,rfl,x0,x1,hall⟩
    refine .inr ⟨(l,x,(l.length:Int),()),⟨λc hc=>hall c (by simpa using hc),x1⟩,λrec K=> ?_⟩
    simp only[s136_0]
    rw[ZAA])with ⟨r,rfl,h⟩ | ⟨t,⟨hn',ht⟩,h⟩
  ·exact⟨-1,h,λh=>by omega⟩
  ·exact⟨_,h,λ_=>⟨ht,by omega,hn'⟩⟩
def ZUt(l:List Cue)(hw: ∀c∈l,c.Name.length<=9223372036854775807)(hm:l.length<=9223372036854775807)(n:Int)(hn:0<=n/\n<=1048576):
  ∃x,F137 F227 (l,n,())=some (x,())/\(0<=x->x<=1048576/\l.length<=1048576/\ZBw l):=by
 unfold F137
 have e0:w64 (n-Int.ofNat l.length)=n-(l.length:Int):=ZAB
 simp only[e0]
 by_cases hl:n<(l.length:Int)
 ·rw[ZA]
  exact⟨-1,rfl,λh=>by omega⟩
 ·rw[ZAA]
  rcases ZEu (f:=s137_0 F227) (K:=λt4=>some (t4.2.1,())) (t:=(l,n-(l.length:Int),0,())) l.length
   (λi t=> ∃x,t=(l,x,(i:Int),())/\0<=x/\x<=1048576/\ ∀c∈l.take i,c.Name.length<=1048576) (λr=>r=some (-1,())) (λt=>ZBw l/\t.2.1<=1048576) (by omega) ⟨_,rfl,by omega,by omega,by simp⟩
   (by
    rintro i _ hi ⟨x,rfl,x0,x1,hall⟩
    have hx:l[i]?=some l[i]:=by simp
    have hb:=hw l[i] (by simp)
    have e1:w64 ((i:Int)+1)=((i+1:Nat):Int):=ZAB
    have e2:w64 (x-Int.ofNat l[i].Name.length)=x-(l[i].Name.length:Int):=ZAB
    by_cases c:x-(l[i].Name.length:Int)<0
    ·refine .inr (.inl ⟨_,rfl,λrec K=> ?_⟩)
     simp only[s137_0,F227]
     rw[ZA,ZAE hx]
     simp only[e2]
     rw[ZA c]
     rfl
    ·refine .inl ⟨_,⟨x-(l[i].Name.length:Int),rfl,by omega,by omega,λc hc=> ?_⟩,λrec K=> ?_⟩
     ·rw[List.take_add_one,hx]at hc
      rcases List.mem_append.mp hc with h | h
      ·exact hall c h
      ·simp at h;subst h;omega
     ·simp only[s137_0,F227]
      rw[ZA,ZAE hx]
      simp only[e2]
      rw[ZAA c]
      simp only[al_bind_some]
      rw[ZAA c,e1])
   (by
    rintro _ ⟨x,rfl,x0,x1,hall⟩
    refine .inr ⟨(l,x,(l.length:Int),()),⟨λc hc=>hall c (by simpa using hc),x1⟩,λrec K=> ?_⟩
    simp only[s137_0]
    rw[ZAA])with ⟨r,rfl,h⟩ | ⟨t,⟨hn',ht⟩,h⟩
  ·exact⟨-1,h,λh=>by omega⟩
  ·exact⟨_,h,λ_=>⟨ht,by omega,hn'⟩⟩
def ZUu(l:List Gust)(hm:l.length<=9223372036854775807)(n:Int)(hn:0<=n/\n<=1048576):
  ∃x,F138 (l,n,())=some (x,())/\(0<=x->x<=1048576/\l.length<=1048576):=by
 unfold F138
 have e0:w64 (n-Int.ofNat l.length)=n-(l.length:Int):=ZAB
 simp only[e0]
 by_cases hl:n-(l.length:Int)<0
 ·rw[ZA hl];exact⟨-1,rfl,λh=>by omega⟩
 ·rw[ZAA hl];exact⟨_,rfl,λh=>by omega⟩
def ZPN(s:ZAN):Prop:=((∀d∈s.1,Wf .device d)/\s.1.length<=maxLen)/\((∀c∈s.2.1,Wf .cue c)/\s.2.1.length<=maxLen)/\((∀g∈s.2.2.1,Wf .gust g)/\s.2.2.1.length<=maxLen)
abbrev gSz:=F61 (F136 F226) (F137 F227) F138
def ZUv(s:ZAN)(hw:ZPN s)(n:Int)(hn:0<=n/\n<=1048576): ∃x,gSz (s,n,())=some (x,())/\(0<=x->x<=1048576/\ShowOK s):=by
 obtain⟨rig,score,wind,ticks,u⟩:=s
 obtain⟨⟨a1,a2⟩,⟨b1,b2⟩,⟨c1,c2⟩⟩:=hw
 have le:maxLen<=9223372036854775807:=by decide
 obtain⟨x,hx,hx'⟩:=ZUs rig (λd hd=>⟨Nat.le_trans (a1 d hd (.str d.Name) (by simp[Ty.cells])) le,Nat.le_trans (a1 d hd (.str d.Line) (by simp[Ty.cells])) le⟩) (Nat.le_trans a2 le) n hn
 unfold gSz F61
 simp only[hx,al_bind_some]
 by_cases h1:x<0
 ·rw[ZA h1];exact⟨-1,rfl,λh=>by omega⟩
 ·rw[ZAA h1]
  obtain⟨p1,p2,p3⟩:=hx' (by omega)
  obtain⟨y,hy,hy'⟩:=ZUt score (λc hc=>Nat.le_trans (b1 c hc (.str c.Name) (by simp[Ty.cells])) le) (Nat.le_trans b2 le) x (by omega)
  simp only[hy,al_bind_some]
  by_cases h2:y<0
  ·rw[ZA h2];exact⟨-1,rfl,λh=>by omega⟩
  ·rw[ZAA h2]
   obtain⟨q1,q2,q3⟩:=hy' (by omega)
   obtain⟨z,hz,hz'⟩:=ZUu wind (Nat.le_trans c2 le) y (by omega)
   simp only[hz,al_bind_some]
   by_cases h3:z<0
   ·rw[ZA h3];exact⟨-1,rfl,λh=>by omega⟩
   ·rw[ZAA h3]
    exact⟨z,rfl,λh=>⟨(hz' h).1,p2,p3,q2,q3,(hz' h).2⟩⟩
def ZUw(l:List Cue)(hl:l.length<=1048576):F154 F260 (l,())=some (l,()):=by
 unfold F154
 rw[ZBB (by simp),ZAC]
 obtain⟨t,⟨m,rfl,h1,h2⟩,e⟩:=ZBM (f:=s154_0 F260) (K:=λt4=>some (t4.2.1,())) (t:=(l,List.replicate (Int.toNat (Int.ofNat l.length)) (Ty.zero .cue),0,())) l.length
  (λi t=> ∃m:List Cue,t=(l,m,(i:Int),())/\m.length=l.length/\ ∀j,j<i->m[j]?=l[j]?) (by omega) ⟨_,rfl,by simp,λj hj=>by omega⟩
  (by
   rintro i _ hi ⟨m,rfl,h1,h2⟩
   have hx:l[i]?=some l[i]:=by simp
   have hd:m[i]?=some m[i]:=by simp
   refine⟨_,⟨m.set i l[i],rfl,by simp[h1],λj hj=> ?_⟩,λrec K=> ?_⟩
   ·rw[List.getElem?_set]
    by_cases hji:i=j
    ·subst hji;simp[h1,hi]
    ·simp only[al_if_neg hji];exact h2 j (by omega)
   ·simp only[s154_0]
    rw[ZCm,al_if_pos (by simp;omega),ZAE hx]
    simp only[F260,al_bind_some]
    rw[ZAE hd]
    simp only[ZAX]
    rw[hd,ZAB]
    rfl)
  (by
   rintro _ ⟨m,rfl,h1,h2⟩ rec K
   simp only[s154_0]
   rw[ZCm,al_if_neg (by simp)])
 have:m=l:=List.ext_getElem? λj=>by
  by_cases hj:j<l.length
  ·exact h2 j hj
  ·rw[List.getElem?_eq_none (by omega),List.getElem?_eq_none (by omega)]
 subst this
 exact e
def ZUx(a:Cue):F263 (a,a,())=some (true,()):=by
 unfold F263;simp
def ZUy(l:List Cue)(hl:l.length<=1048576):F158 F263 (l,l,())=some (true,()):=by
 unfold F158
 simp only[decide_true,ZAF,al_cond_false]
 obtain⟨t,⟨_,rfl⟩,e⟩:=ZBM (f:=s158_0 F263) (K:=λ_=>some (true,())) (t:=(l,l,0,())) l.length
  (λi t=>True/\t=(l,l,(i:Int),())) (by omega) ⟨trivial,rfl⟩
  (by
   rintro i _ hi ⟨_,rfl⟩
   have hx:l[i]?=some l[i]:=by simp
   refine⟨_,⟨trivial,rfl⟩,λrec K=> ?_⟩
   simp only[s158_0]
   rw[ZA,ZAE hx,ZAE hx,ZUx,ZAB]
   rfl)
  (by
   rintro _ ⟨_,rfl⟩ rec K
   simp only[s158_0]
   rw[ZAA])
 exact e
def ZUz(l:List Device)(hl:l.length<=1048576):F153 (F259 F156) (l,())=some (l,()):=by
 unfold F153
 rw[ZBB (by simp),ZAC]
 obtain⟨t,⟨m,rfl,h1,h2⟩,e⟩:=ZBM (f:=s153_0 (F259 F156)) (K:=λt4=>some (t4.2.1,())) (t:=(l,List.replicate (Int.toNat (Int.ofNat l.length)) (Ty.zero .device),0,())) l.length
  (λi t=> ∃m:List Device,t=(l,m,(i:Int),())/\m.length=l.length/\ ∀j,j<i->m[j]?=l[j]?) (by omega) ⟨_,rfl,by simp,λj hj=>by omega⟩
  (by
   rintro i _ hi ⟨m,rfl,h1,h2⟩
   have hx:l[i]?=some l[i]:=by simp
   have hd:m[i]?=some m[i]:=by simp
   refine⟨_,⟨m.set i l[i],rfl,by simp[h1],λj hj=> ?_⟩,λrec K=> ?_⟩
   ·rw[List.getElem?_set]
    by_cases hji:i=j
    ·subst hji;simp[h1,hi]
    ·simp only[al_if_neg hji];exact h2 j (by omega)
   ·have hid:F259 F156 (l[i],())=some (l[i],()):=rfl
    simp only[s153_0]
    rw[ZCm,al_if_pos (by simp;omega),ZAE hx]
    simp only[hid,al_bind_some]
    rw[ZAE hd]
    simp only[ZAX]
    rw[hd,ZAB]
    rfl)
  (by
   rintro _ ⟨m,rfl,h1,h2⟩ rec K
   simp only[s153_0]
   rw[ZCm,al_if_neg (by simp)])
 have:m=l:=List.ext_getElem? λj=>by
  by_cases hj:j<l.length
  ·exact h2 j hj
  ·rw[List.getElem?_eq_none (by omega),List.getElem?_eq_none (by omega)]
 subst this
 exact e
def ZU0(a:Device):F262 F160 (a,a,())=some (true,()):=by
 unfold F262
 simp[ZIa]
def ZU1(l:List Device)(hl:l.length<=1048576):F157 (F262 F160) (l,l,())=some (true,()):=by
 unfold F157
 simp only[decide_true,ZAF,al_cond_false]
 obtain⟨t,⟨_,rfl⟩,e⟩:=ZBM (f:=s157_0 (F262 F160)) (K:=λ_=>some (true,())) (t:=(l,l,0,())) l.length
  (λi t=>True/\t=(l,l,(i:Int),())) (by omega) ⟨trivial,rfl⟩
  (by
   rintro i _ hi ⟨_,rfl⟩
   have hx:l[i]?=some l[i]:=by simp
   refine⟨_,⟨trivial,rfl⟩,λrec K=> ?_⟩
   simp only[s157_0]
   rw[ZA,ZAE hx,ZAE hx,ZU0,ZAB]
   rfl)
  (by
   rintro _ ⟨_,rfl⟩ rec K
   simp only[s157_0]
   rw[ZAA])
 exact e
def ZU2(l:List Gust)(hl:l.length<=1048576):F155 (F261 F156) (l,())=some (l,()):=by
 unfold F155
 rw[ZBB (by simp),ZAC]
 obtain⟨t,⟨m,rfl,h1,h2⟩,e⟩:=ZBM (f:=s155_0 (F261 F156)) (K:=λt4=>some (t4.2.1,())) (t:=(l,List.replicate (Int.toNat (Int.ofNat l.length)) (Ty.zero .gust),0,())) l.length
  (λi t=> ∃m:List Gust,t=(l,m,(i:Int),())/\m.length=l.length/\ ∀j,j<i->m[j]?=l[j]?) (by omega) ⟨_,rfl,by simp,λj hj=>by omega⟩
  (by
   rintro i _ hi ⟨m,rfl,h1,h2⟩
   have hx:l[i]?=some l[i]:=by simp
   have hd:m[i]?=some m[i]:=by simp
   refine⟨_,⟨m.set i l[i],rfl,by simp[h1],λj hj=> ?_⟩,λrec K=> ?_⟩
   ·rw[List.getElem?_set]
    by_cases hji:i=j
    ·subst hji;simp[h1,hi]
    ·simp only[al_if_neg hji];exact h2 j (by omega)
   ·have hid:F261 F156 (l[i],())=some (l[i],()):=rfl
    simp only[s155_0]
    rw[ZCm,al_if_pos (by simp;omega),ZAE hx]
    simp only[hid,al_bind_some]
    rw[ZAE hd]
    simp only[ZAX]
    rw[hd,ZAB]
    rfl)
  (by
   rintro _ ⟨m,rfl,h1,h2⟩ rec K
   simp only[s155_0]
   rw[ZCm,al_if_neg (by simp)])
 have:m=l:=List.ext_getElem? λj=>by
  by_cases hj:j<l.length
  ·exact h2 j hj
  ·rw[List.getElem?_eq_none (by omega),List.getElem?_eq_none (by omega)]
 subst this
 exact e
def ZU3(a:Gust):F264 F160 (a,a,())=some (true,()):=by
 unfold F264
 simp[ZIa]
def ZU4(l:List Gust)(hl:l.length<=1048576):F159 (F264 F160) (l,l,())=some (true,()):=by
 unfold F159
 simp only[decide_true,ZAF,al_cond_false]
 obtain⟨t,⟨_,rfl⟩,e⟩:=ZBM (f:=s159_0 (F264 F160)) (K:=λ_=>some (true,())) (t:=(l,l,0,())) l.length
  (λi t=>True/\t=(l,l,(i:Int),())) (by omega) ⟨trivial,rfl⟩
  (by
   rintro i _ hi ⟨_,rfl⟩
   have hx:l[i]?=some l[i]:=by simp
   refine⟨_,⟨trivial,rfl⟩,λrec K=> ?_⟩
   simp only[s159_0]
   rw[ZA,ZAE hx,ZAE hx,ZU3,ZAB]
   rfl)
  (by
   rintro _ ⟨_,rfl⟩ rec K
   simp only[s159_0]
   rw[ZAA])
 exact e
abbrev gTo:=F66 (F153 (F259 F156)) (F154 F260) (F155 (F261 F156))
def ZU5(s:ZAN)(h:ShowOK s):gTo (s,())=some (s,()):=by
 obtain⟨rig,score,wind,ticks,u⟩:=s
 unfold gTo F66
 simp only[ZUz rig h.rig,ZUw score h.score,ZU2 wind h.wind,al_bind_some]
abbrev ZK4:=F69 (F157 (F262 F160)) (F158 F263) (F159 (F264 F160))
def ZU6(s:ZAN)(h:ShowOK s):ZK4 (s,s,())=some (true,()):=by
 obtain⟨rig,score,wind,ticks,u⟩:=s
 unfold ZK4 F69
 simp only[ZU1 rig h.rig,ZUy score h.score,ZU4 wind h.wind,al_bind_some,decide_true,ZAF,al_cond_false]
end Ev
end
