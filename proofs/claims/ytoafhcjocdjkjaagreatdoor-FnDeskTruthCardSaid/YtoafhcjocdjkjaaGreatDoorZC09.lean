/- Laid together by program (what the claim does not reach is left out): BaseA. -/
import Derived.Test.YtoafhcjocdjkjaaGreatDoorZC08
set_option linter.all false
set_option maxRecDepth 100000
open Go.Proofs.Tryz
noncomputable section
namespace Ev
open Go
def wp{R:Type}(o:Option R)(Q:R->Prop):Prop:= ∃r,o=some r/\Q r
def ZGG{R:Type}{r:R}{Q:R->Prop}(h:Q r):wp (some r) Q:=⟨r,rfl,h⟩
def ZPf{R:Type}{o:Option R}{P Q:R->Prop}(h:wp o P)(k: ∀r,P r->Q r):wp o Q:=by
 obtain⟨r,e,p⟩:=h
 exact⟨r,e,k r p⟩
def ZCn{R S:Type}{o:Option R}{K:R->Option S}{P:R->Prop}{Q:S->Prop}(h:wp o P)(k: ∀r,P r->wp (K r) Q):wp (o.bind K) Q:=by
 obtain⟨r,e,p⟩:=h
 rw[e]
 exact k r p
def wp_cond{R:Type}{c:Bool}{a b:Option R}{Q:R->Prop}(h1:c=true->wp a Q)(h2:c=false->wp b Q):wp (cond c a b) Q:=by
 cases c with
 | true=>exact h1 rfl
 | false=>exact h2 rfl
def ZCz{R:Type}{p:Prop}[Decidable p]{a b:Option R}{Q:R->Prop}(h1:p->wp a Q)(h2: ¬p->wp b Q):wp (cond (decide p) a b) Q:=by
 by_cases h:p
 ·rw[ZA h];exact h1 h
 ·rw[ZAA h];exact h2 h
def ZCR{R:Type}{n:Nat}{o:Option R}{Q:R->Prop}(h:n<=1099511627776)(k:wp o Q):wp (capK n o) Q:=by
 rw[ZAB h];exact k
def ZLS{R:Type}{p:Prop}[Decidable p]{o:Option R}{Q:R->Prop}(h:p)(k:wp o Q):wp (okIf p o) Q:=by
 rw[ZBT h];exact k
def ZPg{R α:Type}{l:List α}{i:Int}{K:α->Option R}{Q:R->Prop}(h0:0<=i)(h1:i<l.length)(k: ∀x,x∈l->l[i.toNat]?=some x->wp (K x) Q):wp (rdL l i K) Q:=by
 obtain⟨n,rfl⟩:=Int.eq_ofNat_of_zero_le h0
 have hn:n<l.length:=by omega
 have hx:l[n]?=some l[n]:=by simp
 rw[ZAF hx]
 exact k _ (by simp) (by simp[hn])
def ZVm{R T:Type}{f:T->(T->Option R)->(T->Option R)->Option R}{K:T->Option R}{Q:R->Prop}(I:Nat->T->Prop)
  (hs: ∀j t,I j t-> ∀rec:T->Option R,(∀j' t',j'<j->I j' t'->wp (rec t') Q)->wp (f t rec K) Q):
  ∀(m j:Nat) (t:T),j<m->I j t->wp (ZAD f m t K) Q:=by
 intro m
 induction m with
 | zero=>intro j t h;omega
 | succ m ih=>
  intro j t hj h
  exact hs j t h _ λj' t' hlt h'=>ih j' t' (by omega) h'
def ZPh{R T:Type}{f:T->(T->Option R)->(T->Option R)->Option R}{K:T->Option R}{Q:R->Prop}{t:T}(j:Nat)(I:Nat->T->Prop)(hj:j<36893488147419103232)(h0:I j t)
  (hs: ∀j t,I j t-> ∀rec:T->Option R,(∀j' t',j'<j->I j' t'->wp (rec t') Q)->wp (f t rec K) Q):wp (ZAD f fuel t K) Q:=
 ZVm I hs fuel j t (by rw[ZBx];exact hj) h0
def ZFI{R T:Type}{f:T->(T->Option R)->(T->Option R)->Option R}{K:T->Option R}{Q:R->Prop}{t:T}(j:Nat)(I:Nat->T->Prop)(P:T->Prop)(hj:j<36893488147419103232)(h0:I j t)
  (hs: ∀j t,I j t-> ∀rec K:T->Option R,(∀j' t',j'<j->I j' t'->wp (rec t') Q)->(∀t',P t'->wp (K t') Q)->wp (f t rec K) Q) (hk: ∀t,P t->wp (K t) Q):wp (ZAD f fuel t K) Q:=
 ZPh j I hj h0 λj t h rec hr=>hs j t h rec K hr hk
def ZAU{R T:Type}{f:T->(T->Option R)->(T->Option R)->Option R}{K:T->Option R}(st:Nat->T)(n:Nat)(hn:n<=18446744073709551616)
  (hs: ∀i,i<n-> ∀rec K,f (st i) rec K=rec (st (i+1))) (he: ∀rec K,f (st n) rec K=K (st n)):ZAD f fuel (st 0) K=K (st n):=by
 obtain⟨t,e1,e⟩:=ZFF (f:=f) (K:=K) (t:=st 0) n (λi t=>t=st i) hn rfl (λi t hi h=>⟨st (i+1),rfl,λrec K=>by rw[h];exact hs i hi rec K⟩) (λt h rec K=>by rw[h];exact he rec K)
 rw[e,e1]
def ZVn{R T:Type}{f:T->(T->Option R)->(T->Option R)->Option R}{K:T->Option R}(st:Nat->T)(p:Nat->Bool)(r:Option R)(n:Nat)
  (hs: ∀i,i<n-> ∀rec K,f (st i) rec K=cond (p i) (rec (st (i+1))) r) (he: ∀rec K,f (st n) rec K=K (st n)):
  ∀(d i m:Nat),i+d=n->d<m->ZAD f m (st i) K=cond ((List.range' i d).all p) (K (st n)) r:=by
 intro d
 induction d with
 | zero=>
  intro i m h1 h2
  obtain⟨m,rfl⟩: ∃k,m=k+1:=⟨m-1,by omega⟩
  have:i=n:=by omega
  subst this
  rw[ZAS,he];rfl
 | succ d ih=>
  intro i m h1 h2
  obtain⟨m,rfl⟩: ∃k,m=k+1:=⟨m-1,by omega⟩
  rw[ZAS,hs i (by omega),ih (i+1) m (by omega) (by omega),List.range'_succ,List.all_cons]
  cases p i<;>rfl
def ZDi{R T:Type}{f:T->(T->Option R)->(T->Option R)->Option R}{K:T->Option R}(st:Nat->T)(p:Nat->Bool)(r:Option R)(n:Nat)(hn:n<=18446744073709551616)
  (hs: ∀i,i<n-> ∀rec K,f (st i) rec K=cond (p i) (rec (st (i+1))) r) (he: ∀rec K,f (st n) rec K=K (st n)):
  ZAD f fuel (st 0) K=cond ((List.range n).all p) (K (st n)) r:=by
 rw[List.range_eq_range']
 exact ZVn st p r n hs he n 0 fuel (by omega) (by rw[ZBx];omega)
abbrev Cur:=List Int×Int×Int×Unit
def CurP{α:Type}(b:List Int)(P:α->Prop)(r:Cur×α×Unit):Prop:= ∃i h,r.1=(b,i,h,())/\0<=i/\P r.2.1
def ZAN{α S:Type}{b:List Int}{P:α->Prop}{o:Option (Cur×α×Unit)}{K:Cur×α×Unit->Option S}{Q:S->Prop}(h:wp o (CurP b P))(k: ∀i h v,0<=i->P v->wp (K ((b,i,h,()),v,())) Q):wp (o.bind K) Q:=by
 obtain⟨⟨c,v,u⟩,e,i,h,hc,hi,hp⟩:=h
 rw[e]
 have hc:c=(b,i,h,()):=hc
 subst hc
 exact k i h v hi hp
def wp_ret{α:Type}{b:List Int}{P:α->Prop}{i h:Int}{v:α}(hi:0<=i)(hp:P v):wp (some ((b,i,h,()),v,())) (CurP b P):=⟨_,rfl,i,h,rfl,hi,hp⟩
end Ev
namespace Ev
open Go
def ZB0(m:Nat)(hm:m<=1000): ∃n,fuel=n+m:=⟨fuel-m,by rw[ZBx];omega⟩
def wi(a b c:Int):Bool:=decide (b<=a) && decide (a<=c)
def ZAj{a b c:Int} :wi a b c=true↔b<=a/\a<=c:=by simp[wi]
def ZAZ{a b c:Int}(h1:b<=a)(h2:a<=c):wi a b c=true:=ZAj.2 ⟨h1,h2⟩
abbrev gIn:=F233
abbrev gW:=F121
def ZC0(a b c:Int):gIn (a,b,c,())=some (wi a b c,()):=by
 unfold gIn F233 wi
 by_cases h:b<=a<;>simp[h]
def ZA9(a b c:Int):gW (a,b,c,())=some (wi a b c,()):=by
 unfold gW F121 wi
 by_cases h:b<=a<;>simp[h]
def ZLT(h:Int):F354 (h,())=some (wi h 0 3,()):=by
 unfold F354 wi
 by_cases h0:0<=h<;>simp[h0]
abbrev ZHT:=F219 gW
def ZHU(h:Int):ZHT (h,())=some (wi h 0 3,()):=by
 unfold ZHT F219
 simp only[ZA9,al_bind_some]
def ZLU(x:Int):F248 (x,())=some (wi x (-4096) 4096,()):=by
 unfold F248 wi
 by_cases h0: -4096<=x<;>simp[h0]
abbrev ZHV:=F57 gW
def ZGH(x:Int):ZHV (x,())=some (wi x (-4096) 4096,()):=by
 unfold ZHV F57
 simp only[ZA9,al_bind_some]
def isPl(p:Place):Bool:=wi p.X (-4096) 4096 && wi p.Y (-4096) 4096
abbrev gPlS:=F181 F248
abbrev gPl:=F124 ZHV
def ZDz(p:Place):gPlS (p,())=some (isPl p,()):=by
 unfold gPlS F181 isPl
 simp only[ZLU,al_bind_some]
 cases wi p.X (-4096) 4096<;>rfl
def ZB1(p:Place):gPl (p,())=some (isPl p,()):=by
 unfold gPl F124 isPl
 simp only[ZGH,al_bind_some]
 cases wi p.X (-4096) 4096<;>rfl
def ZAk(j:Jet):Bool:=wi j.At.X (-1024) 1024 && (wi j.At.Y (-1024) 1024 && (wi j.Heading 0 3 && (wi j.Tilt 0 16 && wi j.Lift 1 32)))
abbrev ZGI:=F331 gIn F354
abbrev gJet:=F218 gW ZHT
def jetS(j:Jet):ZGI (j,())=some (ZAk j,()):=by
 unfold ZGI F331 ZAk
 simp only[ZC0,ZLT,al_bind_some]
 cases wi j.At.X (-1024) 1024<;>cases wi j.At.Y (-1024) 1024<;>cases wi j.Heading 0 3<;>cases wi j.Tilt 0 16<;>rfl
def jetI(j:Jet):gJet (j,())=some (ZAk j,()):=by
 unfold gJet F218 ZAk
 simp only[ZA9,ZHU,al_bind_some]
 cases wi j.At.X (-1024) 1024<;>cases wi j.At.Y (-1024) 1024<;>cases wi j.Heading 0 3<;>cases wi j.Tilt 0 16<;>rfl
structure JetOK(j:Jet):Prop where
 x: -1024<=j.At.X/\j.At.X<=1024
 y: -1024<=j.At.Y/\j.At.Y<=1024
 h:0<=j.Heading/\j.Heading<=3
 t:0<=j.Tilt/\j.Tilt<=16
 l:1<=j.Lift/\j.Lift<=32
def ZBk{j:Jet}(h:ZAk j=true):JetOK j:=by
 simp only[ZAk,ZAJ,ZAj]at h
 exact⟨h.1,h.2.1,h.2.2.1,h.2.2.2.1,h.2.2.2.2⟩
def ZVo(f:Jet×Unit->Option (Bool×Unit))(L:Int)(h1:1<=L)(h2:L<=32)(n:Nat):ZAD (s311_0 f) (n+40) (1,L,w64 (L-2),()) (λt3=>some (t3.1,()))=some (L+1,()):=by
 have:L=1\/L=2\/L=3\/L=4\/L=5\/L=6\/L=7\/L=8\/L=9\/L=10\/L=11\/L=12\/L=13\/L=14\/L=15\/L=16\/L=17\/L=18\/L=19\/L=20\/L=21\/L=22\/L=23\/L=24\/L=25\/L=26\/L=27\/L=28\/L=29\/L=30\/L=31\/L=32:=by omega
 rcases this with rfl | rfl | rfl | rfl | rfl | rfl | rfl | rfl | rfl | rfl | rfl | rfl | rfl | rfl | rfl | rfl | rfl | rfl | rfl | rfl | rfl | rfl | rfl | rfl | rfl | rfl | rfl | rfl | rfl | rfl | rfl | rfl<;>(show _=_;kernel_rfl)
abbrev gFlS:=F311 ZGI
abbrev gFl:=F126 gJet
def fl(j:Jet):Int:=if ZAk j=true then j.Lift+1 else 0
def flS(j:Jet):gFlS (j,())=some (fl j,()):=by
 unfold gFlS F311 fl
 simp only[jetS,al_bind_some]
 cases h:ZAk j
 ·rfl
 ·have J:=ZBk h
  obtain⟨n,hn⟩:=ZB0 40 (by omega)
  simp only[ZAG,al_cond_false,hn]
  rw[ZVo _ _ J.l.1 J.l.2,al_if_pos trivial]
def flI(j:Jet):gFl (j,())=some (fl j,()):=by
 unfold gFl F126 fl
 simp only[jetI,al_bind_some]
 cases h:ZAk j
 ·rfl
 ·have J:=ZBk h
  have:=J.l
  simp only[ZAG,al_cond_false,if_true]
  rw[ZAC]
def rotN:Nat->Place->Place
 | 0,p=>p
 | k+1,p=>rotN k ⟨w64 (0-p.Y),p.X⟩
def k4{k:Nat}(h:k<4):k=0\/k=1\/k=2\/k=3:=by omega
abbrev ZD0:=F355 F371
abbrev ZD1:=F220 F304
def ZPi(f)(p z:Place)(n k:Nat)(hk:k<4)(K): ∃c,ZAD (s355_0 f) (n+9) (p,z,(k:Int),()) K=K (rotN k p,c):=by
 rcases k4 hk with rfl | rfl | rfl | rfl<;>exact⟨(z,0,()),by kernel_rfl⟩
def ZPj(f)(p z:Place)(n k:Nat)(hk:k<4)(K): ∃c,ZAD (s220_0 f) (n+9) (p,z,(k:Int),0,()) K=K (rotN k p,c):=by
 rcases k4 hk with rfl | rfl | rfl | rfl
 ·exact⟨(z,0,0,()),by kernel_rfl⟩
 ·exact⟨(z,1,1,()),by kernel_rfl⟩
 ·exact⟨(z,2,2,()),by kernel_rfl⟩
 ·exact⟨(z,3,3,()),by kernel_rfl⟩
def ZPk(p:Place)(k:Nat)(hk:k<4):ZD0 (p,(k:Int),())=some (rotN k p,()):=by
 unfold ZD0 F355
 have e:F371 ((k:Int),())=some ((k:Int),()):=by rcases k4 hk with rfl | rfl | rfl | rfl<;>kernel_rfl
 simp only[e,al_bind_some]
 obtain⟨n,hn⟩:=ZB0 9 (by omega)
 obtain⟨c,hc⟩:=ZPi F371 p ⟨0,0⟩ n k hk (λt3=>some (t3.1,()))
 rw[hn,hc]
def ZPl(p:Place)(k:Nat)(hk:k<4):ZD1 (p,(k:Int),())=some (rotN k p,()):=by
 unfold ZD1 F220
 have e:F304 ((k:Int),())=some ((k:Int),()):=by rcases k4 hk with rfl | rfl | rfl | rfl<;>kernel_rfl
 simp only[e,al_bind_some]
 obtain⟨n,hn⟩:=ZB0 9 (by omega)
 obtain⟨c,hc⟩:=ZPj F304 p ⟨0,0⟩ n k hk (λt3=>some (t3.1,()))
 rw[hn,hc]
def ZPm(x m:Int)(h0:0<=x)(hm:x<=m)(hb:m<=1099511627776)(k:Nat)(hk:k<4): -m<=(rotN k ⟨x,0⟩).X/\(rotN k ⟨x,0⟩).X<=m/\ -m<=(rotN k ⟨x,0⟩).Y/\(rotN k ⟨x,0⟩).Y<=m:=by
 have e0:w64 (0-0)=0:=ZAC
 have e1:w64 (0-x)= -x:=by rw[ZAC];omega
 have e2:w64 (0- -x)=x:=by rw[ZAC];omega
 rcases k4 hk with rfl | rfl | rfl | rfl<;>simp only[rotN,e0,e1,e2]<;>omega
def land(j:Jet):Place:=⟨w64 (j.At.X+(rotN j.Heading.toNat ⟨w64 ((j.Lift+1)*j.Tilt),0⟩).X),w64 (j.At.Y+(rotN j.Heading.toNat ⟨w64 ((j.Lift+1)*j.Tilt),0⟩).Y)⟩
def jump{j:Jet}(J:JetOK j):w64 ((j.Lift+1)*j.Tilt)=(j.Lift+1)*j.Tilt/\0<=(j.Lift+1)*j.Tilt/\(j.Lift+1)*j.Tilt<=528:=by
 have hl:=J.l;have ht:=J.t
 have a:0<=(j.Lift+1)*j.Tilt:=Int.mul_nonneg (by omega) ht.1
 have b:(j.Lift+1)*j.Tilt<=33*16:=Int.mul_le_mul (by omega) ht.2 ht.1 (by omega)
 exact⟨ZAC,a,by omega⟩
def ZVp{j:Jet}(J:JetOK j):(-1552<=(land j).X/\(land j).X<=1552/\ -1552<=(land j).Y/\(land j).Y<=1552)/\(land j).X=j.At.X+(rotN j.Heading.toNat ⟨(j.Lift+1)*j.Tilt,0⟩).X/\(land j).Y=j.At.Y+(rotN j.Heading.toNat ⟨(j.Lift+1)*j.Tilt,0⟩).Y:=by
 obtain⟨e,h0,h1⟩:=jump J
 have hh:=J.h;have hx:=J.x;have hy:=J.y
 obtain⟨b1,b2,b3,b4⟩:=ZPm ((j.Lift+1)*j.Tilt) 528 h0 h1 (by omega) j.Heading.toNat (by omega)
 unfold land
 rw[e]
 simp only
 rw[ZAC,ZAC]
 omega
abbrev ZPn:=F356 ZGI gFlS (F351 ZD0 F317)
abbrev ZLV:=F316 gFlS ZPn
abbrev gAir:=F225 gJet gFl gW
abbrev gChk:=F343 gPl
abbrev ZPo:=F303 gPl ZHT ZHV ZD1 gChk
abbrev ZPp:=F217 gAir ZPo
abbrev ZLW:=F125 gFl ZPp
def ZBN(j:Jet):Place×Bool:=if ZAk j=true then(land j,true)else(⟨0,0⟩,false)
def ZPq(j:Jet):ZLV (j,())=some ((ZBN j).1,(ZBN j).2,()):=by
 unfold ZLV F316 ZPn F356 ZBN
 simp only[flS,jetS,al_bind_some]
 cases h:ZAk j
 ·rfl
 ·have J:=ZBk h
  have hl:=J.l
  have hf:fl j=j.Lift+1:=by unfold fl;rw[al_if_pos h]
  rw[hf]
  simp only[ZAG,ZAK,al_cond_true,if_true]
  rw[ZAE (by omega: ¬j.Lift+1<0),ZAA (by omega: ¬j.Lift+1>j.Lift+1)]
  simp only[ZAK,al_cond_true]
  unfold F351
  have hk:j.Heading.toNat<4:=by have:=J.h;omega
  have hh:(j.Heading.toNat:Int)=j.Heading:=by have:=J.h;omega
  have:=ZPk ⟨w64 ((j.Lift+1)*j.Tilt),0⟩ j.Heading.toNat hk
  rw[hh]at this
  simp only[this,al_bind_some,F317]
  rfl
def ZLX(j:Jet):ZLW (j,())=some ((ZBN j).1,(ZBN j).2,()):=by
 unfold ZLW F125 ZPp F217 gAir F225 ZBN
 simp only[flI,jetI,al_bind_some,ZA9]
 cases h:ZAk j
 ·rfl
 ·have J:=ZBk h
  have hl:=J.l;have hx:=J.x;have hy:=J.y
  have hf:fl j=j.Lift+1:=by unfold fl;rw[al_if_pos h]
  rw[hf]
  simp only[al_cond_true,al_bind_some,ZAZ (show(0:Int)<=j.Lift+1 by omega) (Int.le_refl _),ZAG,al_cond_false,if_true]
  obtain⟨e,h0,h1⟩:=jump J
  obtain⟨lb,lx,ly⟩:=ZVp J
  unfold ZPo F303
  have hk:j.Heading.toNat<4:=by have:=J.h;omega
  have hh:(j.Heading.toNat:Int)=j.Heading:=by have:=J.h;omega
  have ht:=ZPl ⟨w64 ((j.Lift+1)*j.Tilt),0⟩ j.Heading.toNat hk
  rw[hh]at ht
  have p1:isPl j.At=true:=by unfold isPl;rw[ZAZ (by omega) (by omega),ZAZ (by omega) (by omega)];rfl
  have p2:wi j.Heading 0 3=true:=ZAZ J.h.1 J.h.2
  have p3:wi (w64 ((j.Lift+1)*j.Tilt)) (-4096) 4096=true:=by rw[e];exact ZAZ (by omega) (by omega)
  have p4:isPl (land j)=true:=by unfold isPl;rw[ZAZ (by omega) (by omega),ZAZ (by omega) (by omega)];rfl
  have p5:gChk (land j,())=some (land j,true,()):=by
   unfold gChk F343
   simp only[ZB1,p4,al_bind_some]
   rfl
  simp only[ZB1,ZHU,ZGH,p1,p2,p3,ht,al_bind_some,ZA4]
  have p6:(⟨w64 (j.At.X+(rotN j.Heading.toNat ⟨w64 ((j.Lift+1)*j.Tilt),0⟩).X),w64 (j.At.Y+(rotN j.Heading.toNat ⟨w64 ((j.Lift+1)*j.Tilt),0⟩).Y)⟩:Place)=land j:=rfl
  rw[p6,p5]
  rfl
def isDr(p:Place):Bool:=wi p.X (-8) 8 && wi p.Y (-8) 8
abbrev gDrS:=F234 gIn
abbrev gDr:=F122 gW
def drS(p:Place):gDrS (p,())=some (isDr p,()):=by
 unfold gDrS F234 isDr
 simp only[ZC0,al_bind_some]
 cases wi p.X (-8) 8<;>rfl
def drI(p:Place):gDr (p,())=some (isDr p,()):=by
 unfold gDr F122 isDr
 simp only[ZA9,al_bind_some]
 cases wi p.X (-8) 8<;>rfl
def cmpI(a b:Int):Int:=if a<b then-1 else if a>b then 1 else 0
def cmpP(p q:Place):Int:=if cmpI p.X q.X=0 then cmpI p.Y q.Y else cmpI p.X q.X
abbrev gCmp:=F216 F302
def ZPr(a b:Int):gCmp (a,b,())=some (cmpI a b,()):=by
 unfold gCmp F216 F302 cmpI
 simp only[decide_true,ZAG,al_bind_some,al_cond_false]
 by_cases h1:a<b
 ·simp[h1]
 ·by_cases h2:a>b<;>simp[h1,h2]
def or_0(a b:Int)(n:Nat)(K):ZAD s215_0 (n+5) (0,[a,b],2,0,()) K=cond (!(decide (a=0))) (some (a,())) (ZAD s215_0 (n+4) (0,[a,b],2,1,()) K):=by kernel_rfl
def or_1(a b:Int)(n:Nat)(K):ZAD s215_0 (n+4) (0,[a,b],2,1,()) K=cond (!(decide (b=0))) (some (b,())) (ZAD s215_0 (n+3) (0,[a,b],2,2,()) K):=by kernel_rfl
def or_2(a b:Int)(n:Nat)(K):ZAD s215_0 (n+3) (0,[a,b],2,2,()) K=K (0,[a,b],2,2,()):=by kernel_rfl
def ZPs(a b:Int):F215 ([a,b],())=some (if a=0 then b else a,()):=by
 unfold F215
 obtain⟨n,hn⟩:=ZB0 5 (by omega)
 rw[hn]
 have l:Int.ofNat [a,b].length=2:=rfl
 simp only[l]
 rw[or_0]
 by_cases ha:a=0
 ·rw[ZAH ha,al_if_pos ha,or_1]
  by_cases hb:b=0
  ·rw[ZAH hb,or_2,hb];rfl
  ·rw[ZAE hb];rfl
 ·rw[ZAE ha,al_if_neg ha];rfl
abbrev ZHW:=F123 gCmp F215
def ZLY(p q:Place):ZHW (p,q,())=some (cmpP p q,()):=by
 unfold ZHW F123 cmpP
 simp only[ZPr,ZPs,al_bind_some]
def ZVq(p q:Place):F235 (p,q,())=some (cmpP p q,()):=by
 unfold F235 cmpP cmpI
 simp only[Bool.and_true]
 by_cases h1:p.X<q.X
 ·simp[h1]
 ·by_cases h2:p.X=q.X
  ·by_cases h3:p.Y<q.Y
   ·simp[h2,h3]
   ·by_cases h4:p.Y=q.Y
    ·simp[h2,h4]
    ·have:p.Y>q.Y:=by omega
     simp[h2,h3,h4,this]
  ·have:p.X>q.X:=by omega
   simp[h1,h2,this]
abbrev ZIy:=F141 gDrS F235
abbrev ZHX:=F51 gDr ZHW gW
def ZPt:ZIy=ZHX:=by
 have e:s141_0 gDrS F235=s51_0 gDr ZHW gW:=by
  funext t rec K
  simp only[s141_0,s51_0,drS,drI,ZVq,ZLY]
 funext a
 unfold ZIy ZHX F141 F51
 rw[e]
 congr 1
 funext t
 simp only[ZA9,al_bind_some]
 unfold wi
 by_cases h:Int.ofNat t.1.length>=1
 ·have h':1<=Int.ofNat t.1.length:=h
  rw[ZA h,ZAH h',Bool.true_and]
 ·have h': ¬1<=Int.ofNat t.1.length:=h
  rw[ZAA h,ZAE h'];rfl
def ZLZ(r:List Place)(hr:r.length<=1048576): ∃b,ZHX (r,())=some (b,())/\(b=true->1<=r.length/\r.length<=4/\ ∀p∈r,isDr p=true):=by
 unfold ZHX F51
 rcases ZHM (f:=s51_0 gDr ZHW gW) (K:=λt6=>(gW ((Int.ofNat (List.length t6.1)),1,4,())).bind λx7=>some (x7.1,())) (t:=(r,r,Int.ofNat r.length,0,())) r.length
  (λi t=>t=(r,r,Int.ofNat r.length,(i:Int),())/\ ∀p∈r.take i,isDr p=true) (λx=>x=some (false,())) (λt=>t.1=r/\ ∀p∈r,isDr p=true) (by omega) ⟨rfl,by simp⟩
  (by
   rintro i _ hi ⟨rfl,hall⟩
   have hx:r[i]?=some r[i]:=by simp
   have grow:isDr r[i]=true-> ∀p∈r.take (i+1),isDr p=true:=λhd p hp=>by
    rw[List.take_add_one,hx]at hp
    rcases List.mem_append.mp hp with h | h
    ·exact hall p h
    ·simp at h;subst h;exact hd
   have e1:w64 ((i:Int)+1)=((i+1:Nat):Int):=ZAC
   cases hd:isDr r[i]
   ·refine .inr (.inl ⟨_,rfl,λrec K=> ?_⟩)
    simp only[s51_0]
    rw[ZA,ZAF hx]
    simp only[drI,hd,al_bind_some]
    rfl
   ·by_cases hz:(i:Int)>0
    ·obtain⟨j,rfl⟩: ∃j,i=j+1:=⟨i-1,by omega⟩
     have hy:r[j]?=some r[j]:=by simp
     have e2:w64 (((j+1:Nat):Int) -1)=(j:Int):=by rw[ZAC];omega
     by_cases hc:cmpP r[j] r[j+1]>=0
     ·refine .inr (.inl ⟨_,rfl,λrec K=> ?_⟩)
      simp only[s51_0]
      rw[ZA,ZAF hx]
      simp only[drI,hd,al_bind_some,ZAG,ZAK,al_cond_true]
      rw[ZA hz,e2,ZAF hy]
      simp only[ZLY,al_bind_some]
      rw[ZA hc]
     ·refine .inl ⟨_,⟨rfl,grow hd⟩,λrec K=> ?_⟩
      simp only[s51_0]
      rw[ZA,ZAF hx]
      simp only[drI,hd,al_bind_some,ZAG,ZAK,al_cond_true]
      rw[ZA hz,e2,ZAF hy]
      simp only[ZLY,al_bind_some]
      rw[ZAA hc,e1]
    ·refine .inl ⟨_,⟨rfl,grow hd⟩,λrec K=> ?_⟩
     simp only[s51_0]
     rw[ZA,ZAF hx]
     simp only[drI,hd,al_bind_some,ZAG,ZAK,al_cond_true]
     rw[ZAA hz,e1])
  (by
   rintro _ ⟨rfl,hall⟩
   refine .inr ⟨(r,r,Int.ofNat r.length,(r.length:Int),()),⟨rfl,by simpa using hall⟩,λrec K=> ?_⟩
   simp only[s51_0]
   rw[ZAA])with ⟨x,rfl,h⟩ | ⟨t,⟨ht,hall⟩,h⟩
 ·exact⟨false,h,λe=>by cases e⟩
 ·rw[ZA9]at h
  refine⟨_,h,λe=> ?_⟩
  rw[ht,ZAj]at e
  simp at e
  exact⟨by omega,by omega,hall⟩
def ZIz(a b:Int):F358 (a,b,())=some (mn a b,()):=by
 unfold F358
 rw[ZIm,ZDy]
 simp only[]
 split<;>split<;>first | rfl | omega | (congr 2;omega)
def ZPu(a b:Int):F313 (a,b,())=some (mx a b,()):=by
 unfold F313
 rw[ZIm,ZGC]
 simp only[]
 split<;>split<;>first | rfl | omega | (congr 2;omega)
def ZLa(a:Int):mn a a=a:=by rw[ZDy];split<;>rfl
def ZLb(a:Int):mx a a=a:=by rw[ZGC];split<;>rfl
def grow(b:Box)(p:Place):Box:=⟨⟨mn b.Low.X p.X,mn b.Low.Y p.Y⟩,⟨mx b.High.X p.X,mx b.High.Y p.Y⟩⟩
abbrev ZI0:=F319 gPlS F358 F313
abbrev gBox:=F214 gPl
def InB(m:Int)(b:Box):Prop:=(-m<=b.Low.X/\b.Low.X<=m)/\(-m<=b.Low.Y/\b.Low.Y<=m)/\(-m<=b.High.X/\b.High.X<=m)/\(-m<=b.High.Y/\b.High.Y<=m)
def ZVr{m:Int}{b:Box}{p:Place}(h:InB m b)(hx: -m<=p.X/\p.X<=m)(hy: -m<=p.Y/\p.Y<=m):InB m (grow b p):=by
 obtain⟨h1,h2,h3,h4⟩:=h
 unfold InB grow
 simp only[ZDy,ZGC]
 refine⟨?_,?_,?_,?_⟩<;>split<;>omega
def ZPv(r:List Place)(hr:r.length<=1048576)(m:Int): ∃B b,ZI0 (r,())=some (B,b,())/\gBox (r,())=some (B,b,())/\((∀p∈r,isPl p=true/\(-m<=p.X/\p.X<=m)/\(-m<=p.Y/\p.Y<=m))->1<=r.length->b=true/\InB m B):=by
 cases r with
 | nil=>
  refine⟨⟨⟨0,0⟩,⟨0,0⟩⟩,false,?_,rfl,λ_ h=>by simp at h⟩
  unfold ZI0 F319
  rw[show fuel=(fuel-1)+1 by rw[ZBx],ZAS]
  rfl
 | cons p0 r0=>
  generalize hrr:p0::r0=r at*
  have h0:r[0]?=some p0:=by rw[<-hrr];rfl
  have hp:0<r.length:=by rw[<-hrr];simp
  have key: ∀(d i n:Nat) (B:Box),1<=i->i+d=r.length->d<n->((∀p∈r,isPl p=true/\(-m<=p.X/\p.X<=m)/\(-m<=p.Y/\p.Y<=m))->InB m B)-> ∃B' b,
    ZAD (s319_0 gPlS F358 F313) n (r,(⟨⟨0,0⟩,⟨0,0⟩⟩:Box),B,r,Int.ofNat r.length,(i:Int),()) (λt12=>some (t12.2.2.1,(decide ((Int.ofNat (List.length t12.1))>0)),()))=some (B',b,())/\
    ZAD (s214_0 gPl) n ((⟨⟨0,0⟩,⟨0,0⟩⟩:Box),B,r,Int.ofNat r.length,(i:Int),()) (λt6=>some (t6.2.1,true,()))=some (B',b,())/\((∀p∈r,isPl p=true/\(-m<=p.X/\p.X<=m)/\(-m<=p.Y/\p.Y<=m))->b=true/\InB m B'):=by
   intro d
   induction d with
   | zero=>
    intro i n B h1 hd hn hB
    obtain⟨n,rfl⟩: ∃k,n=k+1:=⟨n-1,by omega⟩
    refine⟨B,true,?_,?_,λh=>⟨rfl,hB h⟩⟩
    ·rw[ZAS];simp only[s319_0];rw[ZAA,ZAH (by simp;omega)]
    ·rw[ZAS];simp only[s214_0];rw[ZAA]
   | succ d ih=>
    intro i n B h1 hd hn hB
    obtain⟨n,rfl⟩: ∃k,n=k+1:=⟨n-1,by omega⟩
    have hi:i<r.length:=by omega
    have hx:r[i]?=some r[i]:=by simp
    have e1:w64 ((i:Int)+1)=((i+1:Nat):Int):=ZAC
    cases hpl:isPl r[i]
    ·refine⟨⟨⟨0,0⟩,⟨0,0⟩⟩,false,?_,?_,λh=> ?_⟩
     ·rw[ZAS];simp only[s319_0];rw[ZA,ZAF hx];simp only[ZDz,hpl,al_bind_some];rfl
     ·rw[ZAS];simp only[s214_0];rw[ZA,ZAF hx];simp only[ZB1,hpl,al_bind_some];rfl
     ·have:=(h r[i] (by simp)).1
      rw[hpl]at this;cases this
    ·obtain⟨B',b,g1,g2,g3⟩:=ih (i+1) n (grow B r[i]) (by omega) (by omega) (by omega) λh=>ZVr (hB h) (h r[i] (by simp)).2.1 (h r[i] (by simp)).2.2
     refine⟨B',b,?_,?_,g3⟩
     ·rw[ZAS];simp only[s319_0];rw[ZA,ZAF hx]
      simp only[ZDz,hpl,al_bind_some,ZAG,al_cond_false]
      rw[ZAA]
      simp only[ZIz,ZPu,al_bind_some]
      rw[e1];exact g1
     ·rw[ZAS];simp only[s214_0];rw[ZA,ZAF hx]
      simp only[ZB1,hpl,al_bind_some,ZAG,al_cond_false]
      rw[e1];exact g2
  unfold ZI0 F319 gBox F214
  simp only
  rw[ZAA (by simp only[ZAT];omega),show rdL r 0=λ(K:Place->Option (Box×Bool×Unit))=>K p0 from funext λK=>ZAF (i:=0) h0]
  dsimp only
  obtain⟨n,hn⟩:=ZB0 1 (by omega)
  have hnl:r.length<=n:=by have:=ZBx;omega
  rw[hn,ZAS,ZAS]
  simp only[s319_0,s214_0]
  rw[ZA,ZA]
  rw[show rdL r 0=λ(K:Place->Option (Box×Bool×Unit))=>K p0 from funext λK=>ZAF (i:=0) h0]
  simp only[ZDz,ZB1,al_bind_some]
  have mem:p0∈r:=by rw[<-hrr];simp
  cases hpl:isPl p0
  ·refine⟨⟨⟨0,0⟩,⟨0,0⟩⟩,false,rfl,rfl,λh _=> ?_⟩
   have:=(h p0 mem).1
   rw[hpl]at this;cases this
  ·obtain⟨B',b,g1,g2,g3⟩:=key (r.length-1) 1 n ⟨p0,p0⟩ (by omega) (by omega) (by omega) λh=>by
    have:=h p0 mem
    exact⟨this.2.1,this.2.2,this.2.1,this.2.2⟩
   have e1:w64 (0+1)=((1:Nat):Int):=by kernel_rfl
   refine⟨B',b,?_,?_,λh _=>g3 h⟩
   ·simp only[ZAG,al_cond_false,decide_true,al_cond_true,ZIz,ZPu,al_bind_some,ZLa,ZLb,e1]
    exact g1
   ·simp only[ZAG,al_cond_false,ZLa,ZLb,e1]
    exact g2
abbrev gRBS:=F357 ZI0 ZIy
abbrev gRB:=F301 ZHX gW gBox
def ZVs(r:List Place)(hr:r.length<=1048576)(n:Int): ∃B b,gRBS (r,n,())=some (B,b,())/\gRB (r,n,())=some (B,b,())/\(b=true->0<=n/\n<=128/\ ∃C,InB 8 C/\B=⟨⟨w64 (n*C.Low.X),w64 (n*C.Low.Y)⟩,⟨w64 (n*C.High.X),w64 (n*C.High.Y)⟩⟩):=by
 obtain⟨C,cb,c1,c2,c3⟩:=ZPv r hr 8
 obtain⟨rb,r1,r2⟩:=ZLZ r hr
 have r1':ZIy (r,())=some (rb,()):=by rw[ZPt];exact r1
 unfold gRBS F357 gRB F301
 simp only[c1,c2,r1,r1',al_bind_some,ZA9]
 cases rb with
 | false=>exact⟨_,_,rfl,rfl,λh=>by cases h⟩
 | true=>
  simp only[ZAG,ZAK,al_cond_true]
  by_cases hn:n<0
  ·rw[ZAH hn,show wi n 0 128=false by rw[<-Bool.not_eq_true,ZAj];omega]
   exact⟨_,_,rfl,rfl,λh=>by cases h⟩
  ·rw[ZAE hn]
   simp only[ZAK,al_cond_true]
   by_cases hm:n>128
   ·rw[ZA hm,show wi n 0 128=false by rw[<-Bool.not_eq_true,ZAj];omega]
    exact⟨_,_,rfl,rfl,λh=>by cases h⟩
   ·rw[ZAA hm,ZAZ (by omega) (by omega)]
    obtain⟨q1,q2,q3⟩:=r2 rfl
    have:=c3 (λp hp=>by
     have hd:=q3 p hp
     simp only[isDr,ZAJ,ZAj]at hd
     refine⟨?_,hd.1,hd.2⟩
     unfold isPl
     rw[ZAZ (by omega) (by omega),ZAZ (by omega) (by omega)];rfl) q1
    exact⟨_,_,rfl,rfl,λ_=>⟨by omega,by omega,C,this.2,rfl⟩⟩
abbrev gLBS:=F318 ZLV gFlS gRBS F317
abbrev gLB:=F213 ZLW gFl gRB
def ZLc(j:Jet)(r:List Place)(hr:r.length<=1048576): ∃B b,gLBS (j,r,())=some (B,b,())/\gLB (j,r,())=some (B,b,()):=by
 obtain⟨B,b,h1,h2,_⟩:=ZVs r hr (fl j)
 unfold gLBS F318 gLB F213
 simp only[ZPq,ZLX,flS,flI,h1,h2,al_bind_some,F317]
 cases (ZBN j).2<;>cases b<;>exact⟨_,_,rfl,rfl⟩
end Ev
namespace Ev
open Go
def chOK(i:Nat)(c:UInt8):Bool:=wi (c.toNat:Int) 97 122 || (!decide (i=0) && wi (c.toNat:Int) 48 57)
def nm:Nat->Str->Bool
 | _,[]=>true
 | i,c::r=>chOK i c && nm (i+1) r
def isNm(s:Str):Bool:=nm 0 s && wi (Int.ofNat s.length) 1 8
def ZI1{α:Type}(s:List α)(i:Nat)(h:i<s.length):s.drop i=s[i]::s.drop (i+1):=by
 rw[List.drop_eq_getElem_cons h]
def ZVt(s:Str)(hs:s.length<=1048576)(i:Nat)(hi:i<s.length)(rec K):s268_0 (s,(i:Int),()) rec K=cond (chOK i s[i]) (rec (s,((i+1:Nat):Int),())) (some (false,())):=by
 have hx:s[i]?=some s[i]:=by simp
 have hx':=λ(K:UInt8->Option (Bool×Unit))=>ZAF (K:=K) hx
 have d0:(i:Int)<Int.ofNat s.length:=by simp;omega
 have ew:w64 ((i:Int)+1)=((i+1:Nat):Int):=ZAC
 simp only[s268_0,d0,decide_true,al_cond_true,hx',ew]
 unfold chOK wi
 have hc:(Int.ofNat s[i].toNat)=(s[i].toNat:Int):=rfl
 simp only[hc]
 generalize (s[i].toNat:Int)=c
 by_cases c1:c>=97<;>by_cases c2:c<=122<;>by_cases c3:c>=48<;>by_cases c4:c<=57<;>by_cases h0:i=0<;>
  (
  have c1':=c1;have c3':=c3;rw[ge_iff_le]at c1' c3';have h0':((i:Int)=0)=(i=0):=by simp
  simp only[c1,c2,c3,c4,c1',c3',h0,h0',decide_true,decide_false,ZA4,Bool.true_and,Bool.false_and,Bool.and_true,Bool.and_false,Bool.or_true,Bool.or_false,Bool.true_or,Bool.false_or]<;>first | rfl | omega)
abbrev gNmS:=F268
abbrev gNm:=F280 gW
def ZVu(s:Str)(hs:s.length<=1048576)(i:Nat)(hi:i<s.length)(rec K):s280_0 gW (s,Int.ofNat s.length,(i:Int),()) rec K=cond (chOK i s[i]) (rec (s,Int.ofNat s.length,((i+1:Nat):Int),())) (some (false,())):=by
 have hx:s[i]?=some s[i]:=by simp
 have hx':=λ(K:UInt8->Option (Bool×Unit))=>ZAF (K:=K) hx
 have d0:(i:Int)<Int.ofNat s.length:=by simp;omega
 have ew:w64 ((i:Int)+1)=((i+1:Nat):Int):=ZAC
 simp only[s280_0,d0,decide_true,al_cond_true,hx',ew]
 unfold chOK wi
 have hc:(Int.ofNat s[i].toNat)=(s[i].toNat:Int):=rfl
 simp only[hc]
 generalize (s[i].toNat:Int)=c
 by_cases c1:c>=97<;>by_cases c2:c<=122<;>by_cases c3:c>=48<;>by_cases c4:c<=57<;>by_cases h0:i=0<;>
  (
  have c1':=c1;have c3':=c3;rw[ge_iff_le]at c1' c3';have h0':((i:Int)=0)=(i=0):=by simp
  have c5:(c<48)= ¬(48<=c):=by simp
  have c6:(c>57)= ¬(c<=57):=by simp
  simp only[c1,c2,c3,c4,c5,c6,c1',c3',h0,h0',not_true_eq_false,not_false_eq_true,decide_true,decide_false,ZA4,Bool.true_and,Bool.false_and,Bool.and_true,Bool.and_false,Bool.or_true,Bool.or_false,Bool.true_or,Bool.false_or]<;>first | rfl | omega)
def ZHY(s:Str)(hs:s.length<=1048576):gNmS (s,())=some (isNm s,()):=by
 have key: ∀(d i n:Nat),i+d=s.length->d<n->ZAD s268_0 n (s,(i:Int),()) (λt8=>cond (decide ((Int.ofNat (List.length t8.1))>0)) (some ((decide ((Int.ofNat (List.length t8.1))<=8)),())) (some (false,())))=some (nm i (s.drop i) && wi (Int.ofNat s.length) 1 8,()):=by
  intro d
  induction d with
  | zero=>
   intro i n hd hn
   obtain⟨n,rfl⟩: ∃k,n=k+1:=⟨n-1,by omega⟩
   rw[ZAS];simp only[s268_0]
   rw[ZAA,List.drop_eq_nil_of_le (by omega)]
   unfold wi
   by_cases h:Int.ofNat s.length>0
   ·rw[ZA h,ZAH (by omega:1<=Int.ofNat s.length)];rfl
   ·rw[ZAA h,ZAE (by omega: ¬1<=Int.ofNat s.length)];rfl
  | succ d ih=>
   intro i n hd hn
   obtain⟨n,rfl⟩: ∃k,n=k+1:=⟨n-1,by omega⟩
   have hi:i<s.length:=by omega
   rw[ZAS,ZVt s hs i hi,ZI1 s i hi]
   simp only[nm]
   cases hc:chOK i s[i]
   ·rfl
   ·rw[al_cond_true,ih (i+1) n (by omega) (by omega)];rfl
 exact key s.length 0 fuel (by omega) (by rw[ZBx];omega)
def ZHZ(s:Str)(hs:s.length<=1048576):gNm (s,())=some (isNm s,()):=by
 have key: ∀(d i n:Nat),i+d=s.length->d<n->ZAD (s280_0 gW) n (s,Int.ofNat s.length,(i:Int),()) (λt8=>(gW ((Int.ofNat (List.length t8.1)),1,8,())).bind λx9=>some (x9.1,()))=some (nm i (s.drop i) && wi (Int.ofNat s.length) 1 8,()):=by
  intro d
  induction d with
  | zero=>
   intro i n hd hn
   obtain⟨n,rfl⟩: ∃k,n=k+1:=⟨n-1,by omega⟩
   rw[ZAS];simp only[s280_0]
   rw[ZAA,List.drop_eq_nil_of_le (by omega),ZA9]
   rfl
  | succ d ih=>
   intro i n hd hn
   obtain⟨n,rfl⟩: ∃k,n=k+1:=⟨n-1,by omega⟩
   have hi:i<s.length:=by omega
   rw[ZAS,ZVu s hs i hi,ZI1 s i hi]
   simp only[nm]
   cases hc:chOK i s[i]
   ·rfl
   ·rw[al_cond_true,ih (i+1) n (by omega) (by omega)];rfl
 exact key s.length 0 fuel (by omega) (by rw[ZBx];omega)
end Ev
namespace Ev
open Go
def ZCS(l:List Cue):Prop:= ∀c∈l,c.Name.length<=1048576
def ZAz(c:Cue):Bool:=wi c.Tick 0 64 && (isNm c.Name && (wi c.Level 0 32 && wi c.Ramp 0 16))
abbrev ZLd:=F171 gIn gNmS
abbrev gCue:=F199 gW gNm
def cueS(c:Cue)(h:c.Name.length<=1048576):ZLd (c,())=some (ZAz c,()):=by
 unfold ZLd F171 ZAz
 simp only[ZC0,ZHY c.Name h,al_bind_some]
 cases wi c.Tick 0 64<;>cases isNm c.Name<;>cases wi c.Level 0 32<;>rfl
def cueI(c:Cue)(h:c.Name.length<=1048576):gCue (c,())=some (ZAz c,()):=by
 unfold gCue F199 ZAz
 simp only[ZA9,ZHZ c.Name h,al_bind_some]
 cases wi c.Tick 0 64<;>cases isNm c.Name<;>cases wi c.Level 0 32<;>rfl
def cmpS(a b:Str):Int:=if Op.bytesLess a b=true then-1 else if a=b then 0 else 1
def cmpC(p q:Cue):Int:=if cmpI p.Tick q.Tick=0 then cmpS p.Name q.Name else cmpI p.Tick q.Tick
abbrev ZLe:=F288 F341
def ZVv(a b:Str):ZLe (a,b,())=some (cmpS a b,()):=by
 unfold ZLe F288 F341 cmpS
 simp only[decide_true,ZAG,al_bind_some,al_cond_false]
 cases h1:Op.bytesLess a b
 ·by_cases h2:a=b<;>simp[h2]
 ·rfl
abbrev ZI2:=F201 gCmp ZLe F215
def ZHa(p q:Cue):ZI2 (p,q,())=some (cmpC p q,()):=by
 unfold ZI2 F201 cmpC
 simp only[ZPr,ZVv,ZPs,al_bind_some]
def ZPw(p q:Cue):F307 (p,q,())=some (cmpC p q,()):=by
 unfold F307 cmpC cmpI cmpS
 by_cases h1:p.Tick<q.Tick
 ·simp[h1]
 ·by_cases h2:p.Tick=q.Tick
  ·simp only[h2]
   cases h3:Op.bytesLess p.Name q.Name
   ·by_cases h4:p.Name=q.Name<;>simp[h4]
   ·simp
  ·have:p.Tick>q.Tick:=by omega
   simp[h1,h2,this]
abbrev ZI3:=F231 ZLd F307
abbrev ZFJ:=F119 gCue ZI2
def ZVw{R α:Type}{l:List α}{i:Int}{K K':α->Option R}(h: ∀x∈l,K x=K' x):rdL l i K=rdL l i K':=by
 unfold rdL
 split
 ·cases hx:l[i.toNat]? with
  | none=>rfl
  | some x=>exact h x (al_mem_get hx)
 ·rfl
def ZPx(l:List Cue)(hn:ZCS l):ZI3 (l,())=ZFJ (l,()):=by
 unfold ZI3 ZFJ F231 F119
 refine ZO8 (λt=>t.1=l/\t.2.1=l) ?_ fuel _ ⟨rfl,rfl⟩
 rintro ⟨a,b,c,d,u⟩ rec rec' ⟨h1,h2⟩ hr
 simp only at h1 h2
 subst h1;subst h2
 simp only[s231_0,s119_0,ZPw,ZHa]
 cases hd:decide (d<c)
 ·rfl
 ·simp only[al_cond_true]
  refine ZVw λx hx=> ?_
  rw[cueS x (hn x hx),cueI x (hn x hx)]
  simp only[al_bind_some]
  rw[hr _ ⟨rfl,rfl⟩]
def ZLf(l:List Cue)(hn:ZCS l)(hl:l.length<=1048576): ∃b,ZFJ (l,())=some (b,())/\(b=true->l.length<=12/\ ∀c∈l,ZAz c=true):=by
 unfold ZFJ F119
 rcases ZHM (f:=s119_0 gCue ZI2) (K:=λt6=>some (decide (Int.ofNat (List.length t6.1)<=12),())) (t:=(l,l,Int.ofNat l.length,0,())) l.length
  (λi t=>t=(l,l,Int.ofNat l.length,(i:Int),())/\ ∀p∈l.take i,ZAz p=true) (λx=>x=some (false,())) (λt=>t.1=l/\ ∀p∈l,ZAz p=true) (by omega) ⟨rfl,by simp⟩
  (by
   rintro i _ hi ⟨rfl,hall⟩
   have hx:l[i]?=some l[i]:=by simp
   have hb:=hn l[i] (by simp)
   have grow:ZAz l[i]=true-> ∀p∈l.take (i+1),ZAz p=true:=λhd p hp=>by
    rw[List.take_add_one,hx]at hp
    rcases List.mem_append.mp hp with h | h
    ·exact hall p h
    ·simp at h;subst h;exact hd
   have e1:w64 ((i:Int)+1)=((i+1:Nat):Int):=ZAC
   cases hd:ZAz l[i]
   ·refine .inr (.inl ⟨_,rfl,λrec K=> ?_⟩)
    simp only[s119_0]
    rw[ZA,ZAF hx,cueI _ hb,hd]
    rfl
   ·by_cases hz:(i:Int)>0
    ·obtain⟨j,rfl⟩: ∃j,i=j+1:=⟨i-1,by omega⟩
     have hy:l[j]?=some l[j]:=by simp
     have e2:w64 (((j+1:Nat):Int) -1)=(j:Int):=by rw[ZAC];omega
     by_cases hc:cmpC l[j] l[j+1]>=0
     ·refine .inr (.inl ⟨_,rfl,λrec K=> ?_⟩)
      simp only[s119_0]
      rw[ZA,ZAF hx,cueI _ hb,hd]
      simp only[al_bind_some,ZAG,ZAK,al_cond_true]
      rw[ZA hz,e2,ZAF hy]
      simp only[ZHa,al_bind_some]
      rw[ZA hc]
     ·refine .inl ⟨_,⟨rfl,grow hd⟩,λrec K=> ?_⟩
      simp only[s119_0]
      rw[ZA,ZAF hx,cueI _ hb,hd]
      simp only[al_bind_some,ZAG,ZAK,al_cond_true]
      rw[ZA hz,e2,ZAF hy]
      simp only[ZHa,al_bind_some]
      rw[ZAA hc,e1]
    ·refine .inl ⟨_,⟨rfl,grow hd⟩,λrec K=> ?_⟩
     simp only[s119_0]
     rw[ZA,ZAF hx,cueI _ hb,hd]
     simp only[al_bind_some,ZAG,ZAK,al_cond_true]
     rw[ZAA hz,e1])
  (by
   rintro _ ⟨rfl,hall⟩
   refine .inr ⟨(l,l,Int.ofNat l.length,(l.length:Int),()),⟨rfl,by simpa using hall⟩,λrec K=> ?_⟩
   simp only[s119_0]
   rw[ZAA])with ⟨x,rfl,h⟩ | ⟨t,⟨ht,hall⟩,h⟩
 ·exact⟨false,h,λe=>by cases e⟩
 ·refine⟨_,h,λe=>⟨?_,hall⟩⟩
  rw[ht]at e
  simp at e;omega
abbrev ZPy:=F323 F248 F359
abbrev ZFK:=F209 ZHV F295
def ZPz:ZPy=ZFK:=by
 have e:F359=F295:=rfl
 funext a
 unfold ZPy ZFK F323 F209
 simp only[ZLU,ZGH,e,Int.mul_comm]
def ZVx(a b:Int)(hb:b≠0): ∃v,F295 (a,b,())=some (v,()):=by
 unfold F295
 simp only
 rw[ZAA hb,ZAA hb]
 cases decide (Int.tmod a b<0)<;>exact⟨_,rfl⟩
def ZP0(a b t r:Int): ∃v,ZFK (a,b,t,r,())=some (v,()):=by
 unfold ZFK F209
 simp only[ZGH,al_bind_some]
 cases wi a (-4096) 4096
 ·exact⟨_,rfl⟩
 ·cases wi b (-4096) 4096
  ·exact⟨_,rfl⟩
  ·simp only[ZA4]
   by_cases h1:t>=r
   ·rw[ZA h1];exact⟨_,rfl⟩
   ·rw[ZAA h1]
    by_cases h2:t<=0
    ·rw[ZAH h2];exact⟨_,rfl⟩
    ·rw[ZAE h2]
     simp only[ZAK,al_cond_true]
     by_cases h3:r>999
     ·rw[ZA h3];exact⟨_,rfl⟩
     ·rw[ZAA h3]
      obtain⟨v,hv⟩:=ZVx (w64 (t*w64 (b-a))) r (by omega)
      rw[hv];exact⟨_,rfl⟩
abbrev gLev:=F110 ZFJ ZFK
def ZVy(l:List Cue)(hn:ZCS l)(hl:l.length<=1048576)(name:Str)(t:Int): ∃v,gLev (l,name,t,())=some (v,()):=by
 obtain⟨b,hb,_⟩:=ZLf l hn hl
 unfold gLev F110
 simp only[hb,al_bind_some]
 cases b
 ·exact⟨_,rfl⟩
 ·simp only[ZAG,ZAK,al_cond_true]
  cases decide (t<0)
  ·simp only[al_cond_false]
   obtain⟨t',⟨acc,c,rfl⟩,e⟩:=ZFF (f:=s110_0 ZFJ ZFK) (K:=λt5=>(ZFK (t5.2.2.1,t5.2.2.2.1.Level,(w64 (t5.2.1-t5.2.2.2.1.Tick)),t5.2.2.2.1.Ramp,())).bind λx6=>some (x6.1,()))
    (t:=(name,t,0,(⟨0,[],0,0⟩:Cue),l,Int.ofNat l.length,0,())) l.length (λi t'=> ∃(acc:Int) (c:Cue),t'=(name,t,acc,c,l,Int.ofNat l.length,(i:Int),())) (by omega) ⟨0,⟨0,[],0,0⟩,rfl⟩
    (by
     rintro i _ hi ⟨acc,c,rfl⟩
     have hx:l[i]?=some l[i]:=by simp
     have e1:w64 ((i:Int)+1)=((i+1:Nat):Int):=ZAC
     obtain⟨v,hv⟩:=ZP0 acc c.Level (w64 (l[i].Tick-c.Tick)) c.Ramp
     by_cases c1:l[i].Name=name
     ·by_cases c2:l[i].Tick<=t
      ·refine⟨_,⟨v,l[i],rfl⟩,λrec K=> ?_⟩
       simp only[s110_0]
       rw[ZA,ZAF hx,ZA c1,ZA c2,hv,e1]
       rfl
      ·refine⟨_,⟨acc,c,rfl⟩,λrec K=> ?_⟩
       simp only[s110_0]
       rw[ZA,ZAF hx,ZA c1,ZAA c2,e1]
     ·refine⟨_,⟨acc,c,rfl⟩,λrec K=> ?_⟩
      simp only[s110_0]
      rw[ZA,ZAF hx,ZAA c1,e1])
    (by
     rintro _ ⟨acc,c,rfl⟩ rec K
     simp only[s110_0]
     rw[ZAA])
   obtain⟨v,hv⟩:=ZP0 acc c.Level (w64 (t-c.Tick)) c.Ramp
   rw[e]
   simp only[hv,al_bind_some]
   exact⟨_,rfl⟩
  ·exact⟨_,rfl⟩
end Ev
namespace Ev
open Go
abbrev ZDj:=F169 gNmS (F269 gIn) (F270 ZGI) gIn gPlS
abbrev gDev:=F192 gNm (F281 gW) gJet gW gPl
def devJ(d:Device):Jet:=⟨⟨d.At.X,d.At.Y⟩,d.Heading,d.Tilt,1⟩
def supS(x:Int):F269 gIn (x,())=some (wi x 0 512,()):=by
 unfold F269;simp only[ZC0,al_bind_some]
def supI(x:Int):F281 gW (x,())=some (wi x 0 512,()):=by
 unfold F281;simp only[ZA9,al_bind_some]
def djS(d:Device):F270 ZGI (d,())=some (ZAk (devJ d),()):=by
 unfold F270;exact congrArg (λo=>Option.bind o λx1=>some (x1.1,())) (jetS (devJ d))
def ZVz(d:Device)(h1:d.Name.length<=1048576)(h2:d.Line.length<=1048576): ∃b,ZDj (d,())=some (b,())/\gDev (d,())=some (b,())/\(b=true->d.Kind=1\/(d.Kind=2/\0<=d.Most/\d.Most<=32)\/d.Kind=3):=by
 have jI:gJet ((⟨⟨d.At.X,d.At.Y⟩,d.Heading,d.Tilt,1⟩:Jet),())=some (ZAk (devJ d),()):=jetI (devJ d)
 unfold ZDj F169 gDev F192
 simp only[ZHY d.Name h1,ZHY d.Line h2,ZHZ d.Name h1,ZHZ d.Line h2,supS,supI,djS,jI,ZC0,ZA9,ZDz,ZB1,al_bind_some,decide_true,Bool.true_and,Bool.and_true]
 by_cases k1:d.Kind=1
 ·have k2: ¬d.Kind=2:=by omega
  simp only[k1,decide_true,al_cond_true]
  generalize (decide (d.Line=[]) && (decide (d.At.X=0) && (decide (d.At.Y=0) && (decide (d.Heading=0) && decide (d.Tilt=0)))))=z
  cases isNm d.Name<;>cases isNm d.Line<;>cases wi d.Most 0 512<;>cases z<;>exact⟨_,rfl,rfl,λ_=>by simp⟩
 ·by_cases k2:d.Kind=2
  ·simp only[k2,decide_true,al_cond_true,show¬(2:Int)=1 by decide,decide_false,al_cond_false]
   cases hm:wi d.Most 0 32
   ·cases isNm d.Name<;>cases isNm d.Line<;>cases decide (d.Line=d.Name)<;>cases ZAk (devJ d)<;>exact⟨_,rfl,rfl,λh=>by cases h⟩
   ·have hm':=ZAj.1 hm
    cases isNm d.Name<;>cases isNm d.Line<;>cases decide (d.Line=d.Name)<;>cases ZAk (devJ d)<;>exact⟨_,rfl,rfl,λ_=> .inr (.inl ⟨by simp,hm'⟩)⟩
  ·by_cases k3:d.Kind=3
   ·simp only[k3,decide_true,al_cond_true,show¬(3:Int)=1 by decide,show¬(3:Int)=2 by decide,decide_false,al_cond_false]
    generalize (decide (d.Heading=0) && (decide (d.Tilt=0) && decide (d.Most=0)))=z
    cases isNm d.Name<;>cases isNm d.Line<;>cases decide (d.Line=d.Name)<;>cases isPl d.At<;>cases z<;>exact⟨_,rfl,rfl,λ_=>by simp⟩
   ·simp only[k1,k2,k3,decide_false,al_cond_false]
    cases isNm d.Name<;>cases isNm d.Line<;>exact⟨_,rfl,rfl,λh=>by cases h⟩
def ZCc(l:List Device):Prop:= ∀d∈l,d.Name.length<=1048576/\d.Line.length<=1048576
def ZGJ: ∀(a b:Str),(!Op.bytesLess b a)=(Op.bytesLess a b || decide (a=b))
 | [],[]=>rfl
 | [],y::b=>by simp[Op.bytesLess]
 | x::a,[]=>by simp[Op.bytesLess]
 | x::a,y::b=>by
  have ih:=ZGJ a b
  simp only[Op.bytesLess]
  rcases Nat.lt_trichotomy x.toNat y.toNat with h | h | h
  ·replace h:=UInt8.lt_iff_toNat_lt.mpr h
   have h1: ¬y<x:=UInt8.lt_asymm h
   have h2: ¬y=x:=λe=>by subst e;exact UInt8.lt_irrefl _ h
   have h3: ¬x=y:=λe=>h2 e.symm
   simp[h,h1,h2,h3]
  ·replace h:=UInt8.toNat_inj.mp h
   subst h
   have h1: ¬x<x:=UInt8.lt_irrefl _
   simp[h1,ih]
  ·replace h:=UInt8.lt_iff_toNat_lt.mpr h
   have h1: ¬x<y:=UInt8.lt_asymm h
   have h2: ¬y=x:=λe=>by subst e;exact UInt8.lt_irrefl _ h
   have h3: ¬x=y:=λe=>h2 e.symm
   simp[h,h1,h2,h3]
abbrev ZP1:=F265
abbrev ZLg:=F193 (F282 F283)
def ZP2(l:List Device)(hl:l.length<=1048576)(name:Str): ∃v,ZP1 (l,name,())=some (v,())/\ZLg (l,name,())=some (v,())/\(0<=v->v<(l.length:Int)):=by
 have key: ∀(d i n:Nat),i+d=l.length->d<n-> ∃v,
   ZAD s265_0 n (name,l,Int.ofNat l.length,(i:Int),()) (λt3=>some ((-1),()))=some (v,())/\
   ZAD (s282_0 F283) n (l,(name,()),Int.ofNat l.length,(i:Int),()) (λt4=>some ((-1),()))=some (v,())/\(0<=v->v<(l.length:Int)):=by
  intro d
  induction d with
  | zero=>
   intro i n hd hn
   obtain⟨n,rfl⟩: ∃k,n=k+1:=⟨n-1,by omega⟩
   refine⟨-1,?_,?_,by omega⟩
   ·rw[ZAS];simp only[s265_0];rw[ZAA]
   ·rw[ZAS];simp only[s282_0];rw[ZAA]
  | succ d ih=>
   intro i n hd hn
   obtain⟨n,rfl⟩: ∃k,n=k+1:=⟨n-1,by omega⟩
   have hi:i<l.length:=by omega
   have hx:l[i]?=some l[i]:=by simp
   have e1:w64 ((i:Int)+1)=((i+1:Nat):Int):=ZAC
   by_cases hc:l[i].Name=name
   ·refine⟨(i:Int),?_,?_,by omega⟩
    ·rw[ZAS];simp only[s265_0];rw[ZA,ZAF hx,ZA hc]
    ·rw[ZAS];simp only[s282_0,F283];rw[ZA,ZAF hx]
     simp only[al_bind_some]
     rw[ZA hc]
   ·obtain⟨v,g1,g2,g3⟩:=ih (i+1) n (by omega) (by omega)
    refine⟨v,?_,?_,g3⟩
    ·rw[ZAS];simp only[s265_0];rw[ZA,ZAF hx,ZAA hc,e1];exact g1
    ·rw[ZAS];simp only[s282_0,F283];rw[ZA,ZAF hx]
     simp only[al_bind_some]
     rw[ZAA hc,e1];exact g2
 obtain⟨v,g1,g2,g3⟩:=key l.length 0 fuel (by omega) (by rw[ZBx];omega)
 refine⟨v,g1,?_,g3⟩
 unfold ZLg F193 F282
 exact congrArg (λo=>Option.bind o λx1=>some (x1.1,())) g2
abbrev ZI4:=F266 ZP1
abbrev ZI5:=F194 ZLg
def ZP3(l:List Device)(hl:l.length<=1048576)(d:Device)(hk:d.Kind=1\/d.Kind=2\/d.Kind=3): ∃b,ZI4 (l,d,())=some (b,())/\ZI5 (l,d,())=some (b,()):=by
 obtain⟨v,f1,f2,f3⟩:=ZP2 l hl d.Line
 unfold ZI4 F266 ZI5 F194
 simp only[f1,f2,al_bind_some]
 rcases hk with hk | hk | hk
 ·simp only[hk]
  exact⟨true,rfl,rfl⟩
 ·have e:w64 (2-1)=1:=by kernel_rfl
  simp only[hk,e]
  by_cases hv:v>=0
  ·obtain⟨i,rfl⟩:=Int.eq_ofNat_of_zero_le hv
   have hi:i<l.length:=by have:=f3 hv;omega
   have hx:l[i]?=some l[i]:=by simp
   refine⟨decide (l[i].Kind=1),?_,?_⟩
   ·rw[ZA,ZA hv,ZAF hx]
   ·rw[ZAA,ZA hv,ZAF hx]
  ·refine⟨false,?_,?_⟩
   ·rw[ZA,ZAA hv]
   ·rw[ZAA,ZAA hv]
 ·have e:w64 (3-1)=2:=by kernel_rfl
  simp only[hk,e]
  by_cases hv:v>=0
  ·obtain⟨i,rfl⟩:=Int.eq_ofNat_of_zero_le hv
   have hi:i<l.length:=by have:=f3 hv;omega
   have hx:l[i]?=some l[i]:=by simp
   refine⟨decide (l[i].Kind=2),?_,?_⟩
   ·rw[ZAA,ZA,ZA hv,ZAF hx]
   ·rw[ZAA,ZA hv,ZAF hx]
  ·refine⟨false,?_,?_⟩
   ·rw[ZAA,ZA,ZAA hv]
   ·rw[ZAA,ZAA hv]
abbrev ZI6:=F230 ZDj ZI4
abbrev gRig:=F118 gDev ZI5
def ZP4(l:List Device)(hl:l.length<=1048576)(hn:ZCc l): ∃b,ZI6 (l,())=some (b,())/\gRig (l,())=some (b,())/\(b=true->l.length<=8/\ ∀d∈l,gDev (d,())=some (true,())):=by
 have key: ∀(d i n:Nat),i+d=l.length->d<n-> ∃b,
   ZAD (s230_0 ZDj ZI4) n (l,l,Int.ofNat l.length,(i:Int),()) (λt7=>some ((decide ((Int.ofNat (List.length t7.1))<=8)),()))=some (b && decide (Int.ofNat l.length<=8),())/\
   ZAD (s118_0 gDev ZI5) n (l,l,Int.ofNat l.length,(i:Int),()) (λt7=>some (true,()))=some (b,())/\(b=true-> ∀j,i<=j-> ∀h:j<l.length,gDev (l[j],())=some (true,())):=by
  intro d
  induction d with
  | zero=>
   intro i n hd hn
   obtain⟨n,rfl⟩: ∃k,n=k+1:=⟨n-1,by omega⟩
   refine⟨true,?_,?_,λ_ j h1 h2=>by omega⟩
   ·rw[ZAS];simp only[s230_0];rw[ZAA,Bool.true_and]
   ·rw[ZAS];simp only[s118_0];rw[ZAA]
  | succ d ih=>
   intro i n hd hnn
   obtain⟨n,rfl⟩: ∃k,n=k+1:=⟨n-1,by omega⟩
   have hi:i<l.length:=by omega
   have hx:l[i]?=some l[i]:=by simp
   have e1:w64 ((i:Int)+1)=((i+1:Nat):Int):=ZAC
   obtain⟨q1,q2⟩:=hn l[i] (by simp)
   obtain⟨v,d1,d2,d3⟩:=ZVz l[i] q1 q2
   cases hv:v
   ·subst hv
    refine⟨false,?_,?_,λh=>by cases h⟩
    ·rw[ZAS];simp only[s230_0];rw[ZA,ZAF hx,d1];rfl
    ·rw[ZAS];simp only[s118_0];rw[ZA,ZAF hx,d2];rfl
   ·subst hv
    have hk:l[i].Kind=1\/l[i].Kind=2\/l[i].Kind=3:=by
     rcases d3 rfl with h | h | h
     ·exact .inl h
     ·exact .inr (.inl h.1)
     ·exact .inr (.inr h)
    obtain⟨hb,u1,u2⟩:=ZP3 l hl l[i] hk
    obtain⟨b,g1,g2,g3⟩:=ih (i+1) n (by omega) (by omega)
    have g4:b=true-> ∀j,i<=j-> ∀h:j<l.length,gDev (l[j],())=some (true,()):=λhb j hj hjl=>by
     by_cases hji:j=i
     ·subst hji;exact d2
     ·exact g3 hb j (by omega) hjl
    by_cases hz:(i:Int)>0
    ·obtain⟨j,rfl⟩: ∃j,i=j+1:=⟨i-1,by omega⟩
     have hy:l[j]?=some l[j]:=by simp
     have e2:w64 (((j+1:Nat):Int) -1)=(j:Int):=by rw[ZAC];omega
     cases ho:Op.bytesLess l[j].Name l[j+1].Name
     ·have ho':(Op.bytesLess l[j+1].Name l[j].Name || decide (l[j+1].Name=l[j].Name))=true:=by rw[<-ZGJ,ho];rfl
      refine⟨false,?_,?_,λh=>by cases h⟩
      ·rw[ZAS];simp only[s230_0];rw[ZA,ZAF hx,d1]
       simp only[al_bind_some,ZAG,ZAK,al_cond_true]
       rw[ZA hz,e2,ZAF hy,ho];rfl
      ·rw[ZAS];simp only[s118_0];rw[ZA,ZAF hx,d2]
       simp only[al_bind_some,ZAG,ZAK,al_cond_true]
       rw[ZA hz,e2,ZAF hy,ho'];rfl
     ·have ho':(Op.bytesLess l[j+1].Name l[j].Name || decide (l[j+1].Name=l[j].Name))=false:=by rw[<-ZGJ,ho];rfl
      cases hb
      ·refine⟨false,?_,?_,λh=>by cases h⟩
       ·rw[ZAS];simp only[s230_0];rw[ZA,ZAF hx,d1]
        simp only[al_bind_some,ZAG,ZAK,al_cond_true]
        rw[ZA hz,e2,ZAF hy,ho,u1];rfl
       ·rw[ZAS];simp only[s118_0];rw[ZA,ZAF hx,d2]
        simp only[al_bind_some,ZAG,ZAK,al_cond_true]
        rw[ZA hz,e2,ZAF hy,ho',u2];rfl
      ·refine⟨b,?_,?_,g4⟩
       ·rw[ZAS];simp only[s230_0];rw[ZA,ZAF hx,d1]
        simp only[al_bind_some,ZAG,ZAK,al_cond_true]
        rw[ZA hz,e2,ZAF hy,ho,u1,e1];exact g1
       ·rw[ZAS];simp only[s118_0];rw[ZA,ZAF hx,d2]
        simp only[al_bind_some,ZAG,ZAK,al_cond_true]
        rw[ZA hz,e2,ZAF hy,ho',u2,e1];exact g2
    ·cases hb
     ·refine⟨false,?_,?_,λh=>by cases h⟩
      ·rw[ZAS];simp only[s230_0];rw[ZA,ZAF hx,d1]
       simp only[al_bind_some,ZAG,ZAK,al_cond_true]
       rw[ZAA hz,u1];rfl
      ·rw[ZAS];simp only[s118_0];rw[ZA,ZAF hx,d2]
       simp only[al_bind_some,ZAG,ZAK,al_cond_true]
       rw[ZAA hz,u2];rfl
     ·refine⟨b,?_,?_,g4⟩
      ·rw[ZAS];simp only[s230_0];rw[ZA,ZAF hx,d1]
       simp only[al_bind_some,ZAG,ZAK,al_cond_true]
       rw[ZAA hz,u1,e1];exact g1
      ·rw[ZAS];simp only[s118_0];rw[ZA,ZAF hx,d2]
       simp only[al_bind_some,ZAG,ZAK,al_cond_true]
       rw[ZAA hz,u2,e1];exact g2
 obtain⟨b,g1,g2,g3⟩:=key l.length 0 fuel (by omega) (by rw[ZBx];omega)
 refine⟨b && decide (Int.ofNat l.length<=8),g1,?_,λh=> ?_⟩
 rotate_left
 ·simp only[ZAJ,ZAX]at h
  refine⟨by have:=h.2;simp at this;omega,λd hd=> ?_⟩
  obtain⟨j,hj,rfl⟩:=List.getElem_of_mem hd
  exact g3 h.1 j (by omega) hj
 unfold gRig F118
 by_cases h8:Int.ofNat l.length>8
 ·rw[ZA h8,ZAE (by omega),Bool.and_false]
 ·rw[ZAA h8,ZAH (by omega),Bool.and_true]
  exact g2
abbrev ZFL:=F232 gIn gDrS
abbrev ZEf:=F120 gW gDr
def ZP5:ZFL=ZEf:=by
 have e:s232_0 gIn gDrS=s120_0 gW gDr:=by
  funext t rec K
  simp only[s232_0,s120_0,drS,drI,ZC0,ZA9]
  try rfl
 funext a
 unfold ZFL ZEf F232 F120
 rw[e]
def ZP6(l:List Gust)(hl:l.length<=1048576): ∃b,ZEf (l,())=some (b,()):=by
 unfold ZEf F120
 rcases ZHM (f:=s120_0 gW gDr) (K:=λt6=>some (decide (Int.ofNat (List.length t6.1)<=8),())) (t:=(l,l,Int.ofNat l.length,0,())) l.length
  (λi t=>t=(l,l,Int.ofNat l.length,(i:Int),())) (λx=>x=some (false,())) (λt=>True) (by omega) rfl
  (by
   rintro i _ hi rfl
   have hx:l[i]?=some l[i]:=by simp
   have e1:w64 ((i:Int)+1)=((i+1:Nat):Int):=ZAC
   cases h1:wi l[i].From 0 64
   ·refine .inr (.inl ⟨_,rfl,λrec K=> ?_⟩)
    simp only[s120_0]
    rw[ZA,ZAF hx]
    simp only[ZA9,h1,al_bind_some];rfl
   ·cases h2:isDr l[i].Drift
    ·refine .inr (.inl ⟨_,rfl,λrec K=> ?_⟩)
     simp only[s120_0]
     rw[ZA,ZAF hx]
     simp only[ZA9,drI,h1,h2,al_bind_some];rfl
    ·by_cases hz:(i:Int)>0
     ·obtain⟨j,rfl⟩: ∃j,i=j+1:=⟨i-1,by omega⟩
      have hy:l[j]?=some l[j]:=by simp
      have e2:w64 (((j+1:Nat):Int) -1)=(j:Int):=by rw[ZAC];omega
      by_cases hc:l[j+1].From<=l[j].From
      ·refine .inr (.inl ⟨_,rfl,λrec K=> ?_⟩)
       simp only[s120_0]
       rw[ZA,ZAF hx]
       simp only[ZA9,drI,h1,h2,al_bind_some,ZAG,ZAK,al_cond_true]
       rw[ZA hz,e2,ZAF hy,ZA hc]
      ·refine .inl ⟨_,rfl,λrec K=> ?_⟩
       simp only[s120_0]
       rw[ZA,ZAF hx]
       simp only[ZA9,drI,h1,h2,al_bind_some,ZAG,ZAK,al_cond_true]
       rw[ZA hz,e2,ZAF hy,ZAA hc,e1]
     ·refine .inl ⟨_,rfl,λrec K=> ?_⟩
      simp only[s120_0]
      rw[ZA,ZAF hx]
      simp only[ZA9,drI,h1,h2,al_bind_some,ZAG,ZAK,al_cond_true]
      rw[ZAA hz,e1])
  (by
   rintro _ rfl
   refine .inr ⟨(l,l,Int.ofNat l.length,(l.length:Int),()),trivial,λrec K=> ?_⟩
   simp only[s120_0]
   rw[ZAA])with ⟨x,rfl,h⟩ | ⟨t,_,h⟩
 ·exact⟨false,h⟩
 ·exact⟨_,h⟩
abbrev ZAM:=List Device×List Cue×List Gust×Int×Unit
structure ShowOK(s:ZAM):Prop where
 rig:s.1.length<=1048576
 devs:ZCc s.1
 score:s.2.1.length<=1048576
 names:ZCS s.2.1
 wind:s.2.2.1.length<=1048576
abbrev ZLh:=F140 ZI6 ZI3 ZFL gIn
abbrev ZLi:=F50 gRig ZFJ ZEf gW
end Ev
end
