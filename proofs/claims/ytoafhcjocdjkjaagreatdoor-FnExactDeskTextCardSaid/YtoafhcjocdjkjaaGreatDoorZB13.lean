/- Laid together by program (what the claim does not reach is left out): MarkA, Desk8, Shift8, DkC, DkD, DkE, DkF, DkG, DkH, TurnI. -/
import Derived.Test.YtoafhcjocdjkjaaGreatDoorZB12
set_option linter.all false
set_option maxRecDepth 100000
open Go.Proofs.Tryz
noncomputable section
namespace Ev
open Go
def ZX3(n:Int)(h0:0<=n)(h1:n<=1099511627): ∃s,F43 (n,())=some (s,()):=by
 unfold F43
 by_cases hz:n<=0
 ·rw[ZA hz];exact⟨_,rfl⟩
 ·rw[ZAA hz]
  rcases ZEu (f:=s43_0) (K:=λt2=>capK (List.length [109]+List.length t2.2.1) (some (([109]++t2.2.1),()))) (t:=(n,[],())) n.toNat
   (λi t=> ∃(k:Int) (s:Str),t=(k,s,())/\0<=k/\k+i<=n/\s.length<=i) (λ_=>False) (λt=>t.2.1.length<=n.toNat) (by omega) ⟨n,[],rfl,by omega,by omega,by simp⟩
   (by
    rintro i _ hi ⟨k,s,rfl,k0,k1,hs⟩
    by_cases hk:k>0
    ·have ed:Int.tdiv k 10=k/10:=Int.tdiv_eq_ediv_of_nonneg k0
     have e:w64 (Int.tdiv k 10)=Int.tdiv k 10:=ZAB
     refine .inl ⟨(Int.tdiv k 10,(List.map (λn=>UInt8.ofNat (Int.toNat n)) ([(IntKind.wrap .u8 (w64 (48+(Int.tmod k 10))))]:List Int))++s,()),⟨Int.tdiv k 10,_,rfl,by omega,by omega,by simp;omega⟩,λrec K=> ?_⟩
     simp only[s43_0]
     rw[ZA hk,ZAC,e]
    ·refine .inr (.inr ⟨(k,s,()),by simp only;omega,λrec K=> ?_⟩)
     simp only[s43_0]
     rw[ZAA hk])
   (by
    rintro _ ⟨k,s,rfl,k0,k1,hs⟩
    refine .inr ⟨(k,s,()),by simp only;omega,λrec K=> ?_⟩
    simp only[s43_0]
    rw[ZAA])with ⟨r,h,_⟩ | ⟨t,ht,h⟩
  ·exact h.elim
  ·rw[h,ZAC]
   exact⟨_,rfl⟩
def mt(k:Int):Str:=((F43 (k,())).map λx=>x.1).getD []
def ZEX(k:Int)(h0:0<=k)(h1:k<=1099511627):F43 (k,())=some (mt k,()):=by
 obtain⟨v,hv⟩:=ZX3 k h0 h1
 unfold mt
 rw[hv];rfl
def mD(q:Int):Device:=⟨mt q,q+1,mt (q+1+1),⟨q+1+1+1,q+1+1+1+1⟩,q+1+1+1+1+1,q+1+1+1+1+1+1,q+1+1+1+1+1+1+1⟩
def mDs:Nat->Int->List Device
 | 0,_=>[]
 | n+1,k=>mD k::mDs n (k+8)
def ZJL: ∀(n:Nat) (k:Int),(mDs n k).length=n
 | 0,_=>rfl
 | n+1,k=>by simp[mDs,ZJL n]
def ZMB: ∀(n:Nat) (k:Int) (i:Nat),i<n->(mDs n k)[i]?=some (mD (k+8*i))
 | 0,_,_,h=>by omega
 | n+1,k,0,_=>by simp[mDs]
 | n+1,k,i+1,h=>by
  simp only[mDs,List.getElem?_cons_succ]
  rw[ZMB n (k+8) i (by omega)]
  rw[show k+8+8*(i:Int)=k+8*((i+1:Nat):Int)by omega]
def ZX4(l:List Device)(hl:l.length<=1048576)(k:Int)(hk:0<=k/\k<=100000000):(F161 F43) (l,k,())=some (mDs l.length k,k+8*(l.length:Int),()):=by
 unfold F161
 obtain⟨t,⟨m,rfl,h1,h2⟩,e⟩:=ZBM (f:=(s161_0 F43)) (K:=λt7=>some (t7.1,t7.2.1,())) (t:=(l,k,0,())) l.length
  (λi t=> ∃m:List Device,t=(m,k+8*(i:Int),(i:Int),())/\m.length=l.length/\ ∀j:Nat,j<i->m[j]?=some (mD (k+8*(j:Int)))) (by omega) ⟨l,by simp,rfl,λj hj=>by omega⟩
  (by
   rintro i _ hi ⟨m,rfl,h1,h2⟩
   have hd:m[i]?=some m[i]:=by simp
   have hset: ∀x:Device,(m.set i x)[i]?=some x:=λx=>by rw[List.getElem?_set];simp[show i<m.length by omega]
   have hset':=λ(x:Device) (K:Device->Option (List Device×Int×Unit))=>ZAE (K:=K) (hset x)
   have hd':=λ(K:Device->Option (List Device×Int×Unit))=>ZAE (K:=K) hd
   have eq:k+8*((i+1:Nat):Int)=k+8*(i:Int)+8:=by omega
   have hq:0<=k+8*(i:Int)/\k+8*(i:Int)<=200000000:=by omega
   have h2':=h2
   generalize hqq:k+8*(i:Int)=q at hq eq⊢
   have e1:w64 (q+1)=q+1:=ZAB
   have e2:w64 (q+1+1)=q+1+1:=ZAB
   have e3:w64 (q+1+1+1)=q+1+1+1:=ZAB
   have e4:w64 (q+1+1+1+1)=q+1+1+1+1:=ZAB
   have e5:w64 (q+1+1+1+1+1)=q+1+1+1+1+1:=ZAB
   have e6:w64 (q+1+1+1+1+1+1)=q+1+1+1+1+1+1:=ZAB
   have e7:w64 (q+1+1+1+1+1+1+1)=q+1+1+1+1+1+1+1:=ZAB
   have e8:w64 (q+1+1+1+1+1+1+1+1)=q+1+1+1+1+1+1+1+1:=ZAB
   have ei:w64 ((i:Int)+1)=((i+1:Nat):Int):=ZAB
   have t0:=ZEX (q) (by omega) (by omega)
   have t1:=ZEX (q+1+1) (by omega) (by omega)
   refine⟨(m.set i (mD q),k+8*((i+1:Nat):Int),((i+1:Nat):Int),()),⟨_,rfl,by simp[h1],λj hj=> ?_⟩,λrec K=> ?_⟩
   ·rw[List.getElem?_set]
    by_cases hji:i=j
    ·subst hji;simp[show i<m.length by omega,hqq]
    ·simp only[al_if_neg hji];exact h2' j (by omega)
   ·simp only[s161_0]
    rw[ZA]
    simp only[hd',hd,ZAX,al_bind_some,e1,e2,e3,e4,e5,e6,e7,e8,t0,t1,ei,hset',hset,List.set_set]
    unfold mD
    rw[eq,show q+1+1+1+1+1+1+1+1=q+8 by omega])
  (by
   rintro _ ⟨m,rfl,h1,h2⟩ rec K
   simp only[s161_0]
   rw[ZAA])
 have:m=mDs l.length k:=List.ext_getElem? λj=>by
  by_cases hj:j<l.length
  ·rw[h2 j hj,ZMB _ _ _ hj]
  ·rw[List.getElem?_eq_none (by omega),List.getElem?_eq_none (by rw[ZJL];omega)]
 subst this
 exact e
def ZX5(n:Nat)(hn:n<=1048576)(k:Int)(hk:0<=k/\k<=100000000):(F164 F43) (mDs n k,k,())=some (k+8*(n:Int),()):=by
 unfold F164
 obtain⟨t,⟨_,rfl⟩,e⟩:=ZBM (f:=(s164_0 F43)) (K:=λt7=>some (t7.2.1,())) (t:=(mDs n k,k,0,())) n
  (λi t=>True/\t=(mDs n k,k+8*(i:Int),(i:Int),())) (by omega) ⟨trivial,by simp⟩
  (by
   rintro i _ hi ⟨_,rfl⟩
   have hx:=ZMB n k i hi
   have eq:k+8*((i+1:Nat):Int)=k+8*(i:Int)+8:=by omega
   have hq:0<=k+8*(i:Int)/\k+8*(i:Int)<=200000000:=by omega
   have hlt:(i:Int)<Int.ofNat (mDs n k).length:=by rw[ZJL];simp;omega
   generalize k+8*(i:Int)=q at hq eq hx⊢
   unfold mD at hx
   have hx':=λ(K:Device->Option (Int×Unit))=>ZAE (K:=K) hx
   have e1:w64 (q+1)=q+1:=ZAB
   have e2:w64 (q+1+1)=q+1+1:=ZAB
   have e3:w64 (q+1+1+1)=q+1+1+1:=ZAB
   have e4:w64 (q+1+1+1+1)=q+1+1+1+1:=ZAB
   have e5:w64 (q+1+1+1+1+1)=q+1+1+1+1+1:=ZAB
   have e6:w64 (q+1+1+1+1+1+1)=q+1+1+1+1+1+1:=ZAB
   have e7:w64 (q+1+1+1+1+1+1+1)=q+1+1+1+1+1+1+1:=ZAB
   have e8:w64 (q+1+1+1+1+1+1+1+1)=q+1+1+1+1+1+1+1+1:=ZAB
   have ei:w64 ((i:Int)+1)=((i+1:Nat):Int):=ZAB
   have t0:=ZEX (q) (by omega) (by omega)
   have t1:=ZEX (q+1+1) (by omega) (by omega)
   refine⟨_,⟨trivial,rfl⟩,λrec K=> ?_⟩
   simp only[s164_0]
   rw[ZA hlt]
   simp only[hx',al_bind_some,e1,e2,e3,e4,e5,e6,e7,e8,t0,t1,ei,decide_true,ZAF,al_cond_false]
   rw[eq,show q+1+1+1+1+1+1+1+1=q+8 by omega])
  (by
   rintro _ ⟨_,rfl⟩ rec K
   simp only[s164_0]
   rw[ZAA (by simp[ZJL])])
 exact e
def mC(q:Int):Cue:=⟨q,mt (q+1),q+1+1,q+1+1+1⟩
def mCs:Nat->Int->List Cue
 | 0,_=>[]
 | n+1,k=>mC k::mCs n (k+4)
def ZJM: ∀(n:Nat) (k:Int),(mCs n k).length=n
 | 0,_=>rfl
 | n+1,k=>by simp[mCs,ZJM n]
def ZMC: ∀(n:Nat) (k:Int) (i:Nat),i<n->(mCs n k)[i]?=some (mC (k+4*i))
 | 0,_,_,h=>by omega
 | n+1,k,0,_=>by simp[mCs]
 | n+1,k,i+1,h=>by
  simp only[mCs,List.getElem?_cons_succ]
  rw[ZMC n (k+4) i (by omega)]
  rw[show k+4+4*(i:Int)=k+4*((i+1:Nat):Int)by omega]
def ZX6(l:List Cue)(hl:l.length<=1048576)(k:Int)(hk:0<=k/\k<=100000000):(F162 F43) (l,k,())=some (mCs l.length k,k+4*(l.length:Int),()):=by
 unfold F162
 obtain⟨t,⟨m,rfl,h1,h2⟩,e⟩:=ZBM (f:=(s162_0 F43)) (K:=λt7=>some (t7.1,t7.2.1,())) (t:=(l,k,0,())) l.length
  (λi t=> ∃m:List Cue,t=(m,k+4*(i:Int),(i:Int),())/\m.length=l.length/\ ∀j:Nat,j<i->m[j]?=some (mC (k+4*(j:Int)))) (by omega) ⟨l,by simp,rfl,λj hj=>by omega⟩
  (by
   rintro i _ hi ⟨m,rfl,h1,h2⟩
   have hd:m[i]?=some m[i]:=by simp
   have hset: ∀x:Cue,(m.set i x)[i]?=some x:=λx=>by rw[List.getElem?_set];simp[show i<m.length by omega]
   have hset':=λ(x:Cue) (K:Cue->Option (List Cue×Int×Unit))=>ZAE (K:=K) (hset x)
   have hd':=λ(K:Cue->Option (List Cue×Int×Unit))=>ZAE (K:=K) hd
   have eq:k+4*((i+1:Nat):Int)=k+4*(i:Int)+4:=by omega
   have hq:0<=k+4*(i:Int)/\k+4*(i:Int)<=200000000:=by omega
   have h2':=h2
   generalize hqq:k+4*(i:Int)=q at hq eq⊢
   have e1:w64 (q+1)=q+1:=ZAB
   have e2:w64 (q+1+1)=q+1+1:=ZAB
   have e3:w64 (q+1+1+1)=q+1+1+1:=ZAB
   have e4:w64 (q+1+1+1+1)=q+1+1+1+1:=ZAB
   have ei:w64 ((i:Int)+1)=((i+1:Nat):Int):=ZAB
   have t0:=ZEX (q+1) (by omega) (by omega)
   refine⟨(m.set i (mC q),k+4*((i+1:Nat):Int),((i+1:Nat):Int),()),⟨_,rfl,by simp[h1],λj hj=> ?_⟩,λrec K=> ?_⟩
   ·rw[List.getElem?_set]
    by_cases hji:i=j
    ·subst hji;simp[show i<m.length by omega,hqq]
    ·simp only[al_if_neg hji];exact h2' j (by omega)
   ·simp only[s162_0]
    rw[ZA]
    simp only[hd',hd,ZAX,al_bind_some,e1,e2,e3,e4,t0,ei,hset',hset,List.set_set]
    unfold mC
    rw[eq,show q+1+1+1+1=q+4 by omega])
  (by
   rintro _ ⟨m,rfl,h1,h2⟩ rec K
   simp only[s162_0]
   rw[ZAA])
 have:m=mCs l.length k:=List.ext_getElem? λj=>by
  by_cases hj:j<l.length
  ·rw[h2 j hj,ZMC _ _ _ hj]
  ·rw[List.getElem?_eq_none (by omega),List.getElem?_eq_none (by rw[ZJM];omega)]
 subst this
 exact e
def ZX7(n:Nat)(hn:n<=1048576)(k:Int)(hk:0<=k/\k<=100000000):(F165 F43) (mCs n k,k,())=some (k+4*(n:Int),()):=by
 unfold F165
 obtain⟨t,⟨_,rfl⟩,e⟩:=ZBM (f:=(s165_0 F43)) (K:=λt7=>some (t7.2.1,())) (t:=(mCs n k,k,0,())) n
  (λi t=>True/\t=(mCs n k,k+4*(i:Int),(i:Int),())) (by omega) ⟨trivial,by simp⟩
  (by
   rintro i _ hi ⟨_,rfl⟩
   have hx:=ZMC n k i hi
   have eq:k+4*((i+1:Nat):Int)=k+4*(i:Int)+4:=by omega
   have hq:0<=k+4*(i:Int)/\k+4*(i:Int)<=200000000:=by omega
   have hlt:(i:Int)<Int.ofNat (mCs n k).length:=by rw[ZJM];simp;omega
   generalize k+4*(i:Int)=q at hq eq hx⊢
   unfold mC at hx
   have hx':=λ(K:Cue->Option (Int×Unit))=>ZAE (K:=K) hx
   have e1:w64 (q+1)=q+1:=ZAB
   have e2:w64 (q+1+1)=q+1+1:=ZAB
   have e3:w64 (q+1+1+1)=q+1+1+1:=ZAB
   have e4:w64 (q+1+1+1+1)=q+1+1+1+1:=ZAB
   have ei:w64 ((i:Int)+1)=((i+1:Nat):Int):=ZAB
   have t0:=ZEX (q+1) (by omega) (by omega)
   refine⟨_,⟨trivial,rfl⟩,λrec K=> ?_⟩
   simp only[s165_0]
   rw[ZA hlt]
   simp only[hx',al_bind_some,e1,e2,e3,e4,t0,ei,decide_true,ZAF,al_cond_false]
   rw[eq,show q+1+1+1+1=q+4 by omega])
  (by
   rintro _ ⟨_,rfl⟩ rec K
   simp only[s165_0]
   rw[ZAA (by simp[ZJM])])
 exact e
def mG(q:Int):Gust:=⟨q,⟨q+1,q+1+1⟩⟩
def mGs:Nat->Int->List Gust
 | 0,_=>[]
 | n+1,k=>mG k::mGs n (k+3)
def ZJN: ∀(n:Nat) (k:Int),(mGs n k).length=n
 | 0,_=>rfl
 | n+1,k=>by simp[mGs,ZJN n]
def ZMD: ∀(n:Nat) (k:Int) (i:Nat),i<n->(mGs n k)[i]?=some (mG (k+3*i))
 | 0,_,_,h=>by omega
 | n+1,k,0,_=>by simp[mGs]
 | n+1,k,i+1,h=>by
  simp only[mGs,List.getElem?_cons_succ]
  rw[ZMD n (k+3) i (by omega)]
  rw[show k+3+3*(i:Int)=k+3*((i+1:Nat):Int)by omega]
def ZX8(l:List Gust)(hl:l.length<=1048576)(k:Int)(hk:0<=k/\k<=100000000):(F163) (l,k,())=some (mGs l.length k,k+3*(l.length:Int),()):=by
 unfold F163
 obtain⟨t,⟨m,rfl,h1,h2⟩,e⟩:=ZBM (f:=(s163_0)) (K:=λt7=>some (t7.1,t7.2.1,())) (t:=(l,k,0,())) l.length
  (λi t=> ∃m:List Gust,t=(m,k+3*(i:Int),(i:Int),())/\m.length=l.length/\ ∀j:Nat,j<i->m[j]?=some (mG (k+3*(j:Int)))) (by omega) ⟨l,by simp,rfl,λj hj=>by omega⟩
  (by
   rintro i _ hi ⟨m,rfl,h1,h2⟩
   have hd:m[i]?=some m[i]:=by simp
   have hset: ∀x:Gust,(m.set i x)[i]?=some x:=λx=>by rw[List.getElem?_set];simp[show i<m.length by omega]
   have hset':=λ(x:Gust) (K:Gust->Option (List Gust×Int×Unit))=>ZAE (K:=K) (hset x)
   have hd':=λ(K:Gust->Option (List Gust×Int×Unit))=>ZAE (K:=K) hd
   have eq:k+3*((i+1:Nat):Int)=k+3*(i:Int)+3:=by omega
   have hq:0<=k+3*(i:Int)/\k+3*(i:Int)<=200000000:=by omega
   have h2':=h2
   generalize hqq:k+3*(i:Int)=q at hq eq⊢
   have e1:w64 (q+1)=q+1:=ZAB
   have e2:w64 (q+1+1)=q+1+1:=ZAB
   have e3:w64 (q+1+1+1)=q+1+1+1:=ZAB
   have ei:w64 ((i:Int)+1)=((i+1:Nat):Int):=ZAB
   refine⟨(m.set i (mG q),k+3*((i+1:Nat):Int),((i+1:Nat):Int),()),⟨_,rfl,by simp[h1],λj hj=> ?_⟩,λrec K=> ?_⟩
   ·rw[List.getElem?_set]
    by_cases hji:i=j
    ·subst hji;simp[show i<m.length by omega,hqq]
    ·simp only[al_if_neg hji];exact h2' j (by omega)
   ·simp only[s163_0]
    rw[ZA]
    simp only[hd',hd,ZAX,al_bind_some,e1,e2,e3,ei,hset',hset,List.set_set]
    unfold mG
    rw[eq,show q+1+1+1=q+3 by omega])
  (by
   rintro _ ⟨m,rfl,h1,h2⟩ rec K
   simp only[s163_0]
   rw[ZAA])
 have:m=mGs l.length k:=List.ext_getElem? λj=>by
  by_cases hj:j<l.length
  ·rw[h2 j hj,ZMD _ _ _ hj]
  ·rw[List.getElem?_eq_none (by omega),List.getElem?_eq_none (by rw[ZJN];omega)]
 subst this
 exact e
def ZX9(n:Nat)(hn:n<=1048576)(k:Int)(hk:0<=k/\k<=100000000):(F166) (mGs n k,k,())=some (k+3*(n:Int),()):=by
 unfold F166
 obtain⟨t,⟨_,rfl⟩,e⟩:=ZBM (f:=(s166_0)) (K:=λt7=>some (t7.2.1,())) (t:=(mGs n k,k,0,())) n
  (λi t=>True/\t=(mGs n k,k+3*(i:Int),(i:Int),())) (by omega) ⟨trivial,by simp⟩
  (by
   rintro i _ hi ⟨_,rfl⟩
   have hx:=ZMD n k i hi
   have eq:k+3*((i+1:Nat):Int)=k+3*(i:Int)+3:=by omega
   have hq:0<=k+3*(i:Int)/\k+3*(i:Int)<=200000000:=by omega
   have hlt:(i:Int)<Int.ofNat (mGs n k).length:=by rw[ZJN];simp;omega
   generalize k+3*(i:Int)=q at hq eq hx⊢
   unfold mG at hx
   have hx':=λ(K:Gust->Option (Int×Unit))=>ZAE (K:=K) hx
   have e1:w64 (q+1)=q+1:=ZAB
   have e2:w64 (q+1+1)=q+1+1:=ZAB
   have e3:w64 (q+1+1+1)=q+1+1+1:=ZAB
   have ei:w64 ((i:Int)+1)=((i+1:Nat):Int):=ZAB
   refine⟨_,⟨trivial,rfl⟩,λrec K=> ?_⟩
   simp only[s166_0]
   rw[ZA hlt]
   simp only[hx',al_bind_some,e1,e2,e3,ei,decide_true,ZAF,al_cond_false]
   rw[eq,show q+1+1+1=q+3 by omega])
  (by
   rintro _ ⟨_,rfl⟩ rec K
   simp only[s166_0]
   rw[ZAA (by simp[ZJN])])
 exact e
abbrev ZRG:=F72 (F161 F43) (F162 F43) F163
abbrev ZRH:=F74 (F164 F43) (F165 F43) F166
def ZY(a b c:Nat)(rig:List Device)(score:List Cue)(wind:List Gust)(ticks:Int)(h1:rig.length<=1048576)(h2:score.length<=1048576)(h3:wind.length<=1048576):
  ZRG ((rig,score,wind,ticks,()),1,())=some (mDs rig.length 1,mCs score.length (1+8*(rig.length:Int)),mGs wind.length (1+8*(rig.length:Int)+4*(score.length:Int)),1+8*(rig.length:Int)+4*(score.length:Int)+3*(wind.length:Int),()):=by
 unfold ZRG F72
 simp only[ZX4 rig h1 1 (by omega),ZX6 score h2 _ (show 0<=1+8*(rig.length:Int)/\1+8*(rig.length:Int)<=100000000 by omega),ZX8 wind h3 _ (show 0<=1+8*(rig.length:Int)+4*(score.length:Int)/\1+8*(rig.length:Int)+4*(score.length:Int)<=100000000 by omega),al_bind_some]
def ZYA(a b c:Nat)(ticks:Int)(h1:a<=1048576)(h2:b<=1048576)(h3:c<=1048576):
  ZRH ((mDs a 1,mCs b (1+8*(a:Int)),mGs c (1+8*(a:Int)+4*(b:Int)),ticks,()),1,())=some (1+8*(a:Int)+4*(b:Int)+3*(c:Int),()):=by
 unfold ZRH F74
 have c1: ¬(1+8*(a:Int)<0):=by omega
 have c2: ¬(1+8*(a:Int)+4*(b:Int)<0):=by omega
 have c3: ¬(1+8*(a:Int)+4*(b:Int)+3*(c:Int)<0):=by omega
 simp only[ZX5 a h1 1 (by omega),ZX7 b h2 _ (show 0<=1+8*(a:Int)/\1+8*(a:Int)<=100000000 by omega),ZX9 c h3 _ (show 0<=1+8*(a:Int)+4*(b:Int)/\1+8*(a:Int)+4*(b:Int)<=100000000 by omega),al_bind_some,c1,c2,c3,decide_false,al_cond_false]
end Ev
namespace Ev
open Go
def mP(q:Int):Place:=⟨q,q+1⟩
def mPs:Nat->Int->List Place
 | 0,_=>[]
 | n+1,k=>mP k::mPs n (k+2)
def ZJO: ∀(n:Nat) (k:Int),(mPs n k).length=n
 | 0,_=>rfl
 | n+1,k=>by simp[mPs,ZJO n]
def ZME: ∀(n:Nat) (k:Int) (i:Nat),i<n->(mPs n k)[i]?=some (mP (k+2*i))
 | 0,_,_,h=>by omega
 | n+1,k,0,_=>by simp[mPs]
 | n+1,k,i+1,h=>by
  simp only[mPs,List.getElem?_cons_succ]
  rw[ZME n (k+2) i (by omega)]
  rw[show k+2+2*(i:Int)=k+2*((i+1:Nat):Int)by omega]
def ZYB(l:List Place)(hl:l.length<=1048576)(k:Int)(hk:0<=k/\k<=100000000):(F73) (l,k,())=some (mPs l.length k,k+2*(l.length:Int),()):=by
 unfold F73
 obtain⟨t,⟨m,rfl,h1,h2⟩,e⟩:=ZBM (f:=(s73_0)) (K:=λt7=>some (t7.1,t7.2.1,())) (t:=(l,k,0,())) l.length
  (λi t=> ∃m:List Place,t=(m,k+2*(i:Int),(i:Int),())/\m.length=l.length/\ ∀j:Nat,j<i->m[j]?=some (mP (k+2*(j:Int)))) (by omega) ⟨l,by simp,rfl,λj hj=>by omega⟩
  (by
   rintro i _ hi ⟨m,rfl,h1,h2⟩
   have hd:m[i]?=some m[i]:=by simp
   have hset: ∀x:Place,(m.set i x)[i]?=some x:=λx=>by rw[List.getElem?_set];simp[show i<m.length by omega]
   have hset':=λ(x:Place) (K:Place->Option (List Place×Int×Unit))=>ZAE (K:=K) (hset x)
   have hd':=λ(K:Place->Option (List Place×Int×Unit))=>ZAE (K:=K) hd
   have eq:k+2*((i+1:Nat):Int)=k+2*(i:Int)+2:=by omega
   have hq:0<=k+2*(i:Int)/\k+2*(i:Int)<=200000000:=by omega
   have h2':=h2
   generalize hqq:k+2*(i:Int)=q at hq eq⊢
   have e1:w64 (q+1)=q+1:=ZAB
   have e2:w64 (q+1+1)=q+1+1:=ZAB
   have ei:w64 ((i:Int)+1)=((i+1:Nat):Int):=ZAB
   refine⟨(m.set i (mP q),k+2*((i+1:Nat):Int),((i+1:Nat):Int),()),⟨_,rfl,by simp[h1],λj hj=> ?_⟩,λrec K=> ?_⟩
   ·rw[List.getElem?_set]
    by_cases hji:i=j
    ·subst hji;simp[show i<m.length by omega,hqq]
    ·simp only[al_if_neg hji];exact h2' j (by omega)
   ·simp only[s73_0]
    rw[ZA]
    simp only[hd',hd,ZAX,al_bind_some,e1,e2,ei,hset',hset,List.set_set]
    unfold mP
    rw[eq,show q+1+1=q+2 by omega])
  (by
   rintro _ ⟨m,rfl,h1,h2⟩ rec K
   simp only[s73_0]
   rw[ZAA])
 have:m=mPs l.length k:=List.ext_getElem? λj=>by
  by_cases hj:j<l.length
  ·rw[h2 j hj,ZME _ _ _ hj]
  ·rw[List.getElem?_eq_none (by omega),List.getElem?_eq_none (by rw[ZJO];omega)]
 subst this
 exact e
end Ev
namespace Ev
open Go
def ZYC(l:List Str)(hl:l.length<=1048576):G14 (l,l,())=some (true,()):=by
 unfold G14 F14
 dsimp only
 rw[ZAL rfl]
 simp only[ZAF,al_cond_false]
 refine ZAW (f:=s14_0) (K:=λt4=>some (true,())) (λi=>(l,l,(i:Int),())) l.length (by omega) ?_ ?_
 ·intro i hi rec K
  have hx:l[i]?=some l[i]:=by simp
  have hx':=λ(K:Str->Option (Bool×Unit))=>ZAE (K:=K) hx
  have e1:w64 ((i:Int)+1)=((i+1:Nat):Int):=ZAB
  simp only[s14_0]
  rw[ZA]
  simp only[hx',e1,decide_true,ZAF,al_cond_false]
 ·intro rec K
  simp only[s14_0]
  rw[ZAA]
def mTs(n:Nat)(k:Int):List Str:=(List.range n).map λ(i:Nat)=>mt (k+(i:Int))
def ZEY(n:Nat)(k:Int):(mTs n k).length=n:=by simp[mTs]
def ZYD(n:Nat)(k:Int)(i:Nat)(h:i<n):(mTs n k)[i]?=some (mt (k+(i:Int))):=by
 unfold mTs
 rw[List.getElem?_map,List.getElem?_range h];rfl
def ZYE(l:List Str)(hl:l.length<=1048576)(k:Int)(hk:0<=k/\k<=100000000):G15 (l,k,())=some (mTs l.length k,k+(l.length:Int),()):=by
 unfold G15 F15
 have key:=ZAW (f:=s15_0 G43) (K:=λt4=>some (t4.1,t4.2.1,())) (λi=>(mTs i k++l.drop i,k+(i:Int),(i:Int),())) l.length (by omega)
  (by
   intro i hi rec K
   have hlen:(mTs i k++l.drop i).length=l.length:=by rw[al_len_append,ZEY,List.length_drop];omega
   have hx:(mTs i k++l.drop i)[i]?=some l[i]:=by rw[List.getElem?_append_right (by rw[ZEY];exact Nat.le_refl _),ZEY,Nat.sub_self];simp[List.getElem?_drop]
   have hx':=λ(K:Str->Option (List Str×Int×Unit))=>ZAE (K:=K) hx
   have e1:w64 ((i:Int)+1)=((i+1:Nat):Int):=ZAB
   have e2:w64 (k+(i:Int)+1)=k+((i+1:Nat):Int):=by rw[ZAB];omega
   have em:G43 (k+(i:Int),())=some (mt (k+(i:Int)),()):=ZEX _ (by omega) (by omega)
   have eset:(mTs i k++l.drop i).set i (mt (k+(i:Int)))=mTs (i+1) k++l.drop (i+1):=by
    rw[List.set_append_right _ _ (by rw[ZEY];exact Nat.le_refl _),ZEY,Nat.sub_self,ZG6 l i hi]
    unfold mTs
    rw[List.range_succ,List.map_append,List.set_cons_zero,List.append_assoc];rfl
   simp only[s15_0]
   rw[ZA (by rw[hlen];simp;omega),em]
   simp only[al_bind_some,hx',hx,ZAX,eset,e1,e2])
  (by
   intro rec K
   simp only[s15_0]
   rw[ZAA (by rw[al_len_append,ZEY,List.length_drop];simp)])
 have e0:mTs 0 k++l.drop 0=l:=by simp[mTs]
 have en:mTs l.length k++l.drop l.length=mTs l.length k:=by simp
 simp only[en]at key
 rw[e0]at key
 have ek:k+((0:Nat):Int)=k:=by omega
 rw[ek]at key
 exact key
def ZYF(n:Nat)(hn:n<=1048576)(k:Int)(hk:0<=k/\k<=100000000):G16 (mTs n k,k,())=some (k+(n:Int),()):=by
 unfold G16 F16
 have key:=ZAW (f:=s16_0 G43) (K:=λt4=>some (t4.2.1,())) (λi=>(mTs n k,k+(i:Int),(i:Int),())) n (by omega)
  (by
   intro i hi rec K
   have hx:=ZYD n k i hi
   have hx':=λ(K:Str->Option (Int×Unit))=>ZAE (K:=K) hx
   have e1:w64 ((i:Int)+1)=((i+1:Nat):Int):=ZAB
   have e2:w64 (k+(i:Int)+1)=k+((i+1:Nat):Int):=by rw[ZAB];omega
   have em:G43 (k+(i:Int),())=some (mt (k+(i:Int)),()):=ZEX _ (by omega) (by omega)
   simp only[s16_0]
   rw[ZA (by rw[ZEY];simp;omega)]
   simp only[hx',em,al_bind_some,decide_true,ZAF,al_cond_false,e1,e2])
  (by
   intro rec K
   simp only[s16_0]
   rw[ZAA (by rw[ZEY];simp)])
 have ek:k+((0:Nat):Int)=k:=by omega
 simp only[ek]at key
 exact key
end Ev
end
noncomputable section
namespace Ev
open Go
abbrev ZAQ:=List Device×List Cue×List Gust×Int×List Place×Int×Int×Int×Int×Unit
def ZAQ.shw(x:ZAQ):ZAN:=(x.1,x.2.1,x.2.2.1,x.2.2.2.1,())
def ZAQ.ros(x:ZAQ):List Place:=x.2.2.2.2.1
def ZAQ.bas(x:ZAQ):Box:=⟨⟨x.2.2.2.2.2.1,x.2.2.2.2.2.2.1⟩,⟨x.2.2.2.2.2.2.2.1,x.2.2.2.2.2.2.2.2.1⟩⟩
def ZMF(x:ZAQ):Prop:=ZPN x.shw/\(∀p∈x.ros,Wf .place p)/\x.ros.length<=maxLen
def ZZp{w:World}{ca:Array Value}(h:ZBa w [.sl .device,.sl .cue,.sl .gust,.int .i64,.sl .place,.int .i64,.int .i64,.int .i64,.int .i64] ca.toList):
  ∃x:ZAQ,RelA (λ_=>none) (λb=>b<w.heap.size) w (.agg [.lst .device x.1,.lst .cue x.2.1,.lst .gust x.2.2.1,.int .i64 x.2.2.2.1,.lst .place x.2.2.2.2.1,.int .i64 x.2.2.2.2.2.1,.int .i64 x.2.2.2.2.2.2.1,.int .i64 x.2.2.2.2.2.2.2.1,.int .i64 x.2.2.2.2.2.2.2.2.1]) (.agg ca)/\ZMF x:=by
 obtain⟨c0,r0,e0,⟨l0,a0,b0,m0⟩,h1⟩:=ZAV h
 obtain⟨c1,r1,e1,⟨l1,a1,b1,m1⟩,h2⟩:=ZAV h1
 obtain⟨c2,r2,e2,⟨l2,a2,b2,m2⟩,h3⟩:=ZAV h2
 obtain⟨c3,r3,e3,⟨n3,a3,b3⟩,h4⟩:=ZAV h3
 obtain⟨c4,r4,e4,⟨l4,a4,b4,m4⟩,h5⟩:=ZAV h4
 obtain⟨c5,r5,e5,⟨n5,a5,b5⟩,h6⟩:=ZAV h5
 obtain⟨c6,r6,e6,⟨n6,a6,b6⟩,h7⟩:=ZAV h6
 obtain⟨c7,r7,e7,⟨n7,a7,b7⟩,h8⟩:=ZAV h7
 obtain⟨c8,r8,e8,⟨n8,a8,b8⟩,h9⟩:=ZAV h8
 have e9:=ZCJ h9
 refine⟨(l0,l1,l2,n3,l4,n5,n6,n7,n8,()),ZTk ?_,⟨⟨b0,m0⟩,⟨b1,m1⟩,⟨b2,m2⟩⟩,b4,m4⟩
 rw[e0,e1,e2,e3,e4,e5,e6,e7,e8,e9]
 exact⟨a0,a1,a2,a3,a4,a5,a6,a7,a8,trivial⟩
structure DeskOK(x:ZAQ):Prop where
 shw:ShowOK x.shw
 ros:x.ros.length<=1048576
def rosB(r:List Place):Bool:=((G51 (r,())).map λx=>x.1).getD false
def ZHa(r:List Place)(hr:r.length<=1048576):G51 (r,())=some (rosB r,()):=by
 obtain⟨b,h1,_⟩:=ZEN r hr
 unfold rosB;rw[h1];rfl
def ZMG(r:List Place)(hr:r.length<=1048576):G141 (r,())=some (rosB r,()):=by
 obtain⟨b,h1,h2,_⟩:=ZEN r hr
 unfold rosB;rw[h1,h2];rfl
def ZCD(x:ZAQ):Bool:=ZA2 x.shw && (rosB x.ros && isBx x.bas)
def ZFK(x:ZAQ)(h:DeskOK x):G25 (x,())=some (ZCD x,()):=by
 have e1:G50 (x.shw,())=some (ZA2 x.shw,()):=ZDE _ h.shw
 unfold G25 F25 ZCD
 rw[show(x.1,x.2.1,x.2.2.1,x.2.2.2.1,())=x.shw from rfl,e1,show x.2.2.2.2.1=x.ros from rfl,ZHa _ h.ros]
 simp only[al_bind_some]
 rw[show(⟨⟨x.2.2.2.2.2.1,x.2.2.2.2.2.2.1⟩,⟨x.2.2.2.2.2.2.2.1,x.2.2.2.2.2.2.2.2.1⟩⟩:Box)=x.bas from rfl,ZEM]
 cases ZA2 x.shw<;>cases rosB x.ros<;>rfl
def ZJP(x:ZAQ)(h:DeskOK x):G64 (x,())=some (ZCD x,()):=by
 have e1:G140 (x.shw,())=some (ZA2 x.shw,()):=ZCQ _ h.shw
 unfold G64 F64 ZCD
 rw[show(x.1,x.2.1,x.2.2.1,x.2.2.2.1,())=x.shw from rfl,e1,show x.2.2.2.2.1=x.ros from rfl,ZMG _ h.ros]
 simp only[al_bind_some]
 rw[show(⟨⟨x.2.2.2.2.2.1,x.2.2.2.2.2.2.1⟩,⟨x.2.2.2.2.2.2.2.1,x.2.2.2.2.2.2.2.2.1⟩⟩:Box)=x.bas from rfl,ZHL]
 cases ZA2 x.shw<;>cases rosB x.ros<;>rfl
abbrev gSzD:=F27 gSz F62
def ZYG(x:ZAQ)(hw:ZMF x): ∃n,gSzD (x,1048576,())=some (n,())/\(0<=n->DeskOK x):=by
 obtain⟨rig,score,wind,ticks,rose,a,b,c,d,u⟩:=x
 obtain⟨w1,w2,w3⟩:=hw
 obtain⟨n,hn,hn'⟩:=ZUv _ w1 1048576 (by omega)
 simp only[ZAQ.shw]at hn
 unfold gSzD F27
 simp only[hn,al_bind_some]
 by_cases h1:n<0
 ·rw[ZA h1];exact⟨-1,rfl,λh=>by omega⟩
 ·rw[ZAA h1]
  obtain⟨p1,p2⟩:=hn' (by omega)
  have w3':rose.length<=9223372036854775807:=Nat.le_trans w3 (by decide)
  by_cases hl:rose.length<=1048576
  ·rw[ZUh rose hl n (by omega),al_bind_some]
   by_cases c2:n<(rose.length:Int)
   ·rw[al_if_pos c2,ZA (by decide)];exact⟨-1,rfl,λh=>by omega⟩
   ·rw[al_if_neg c2]
    simp only
    rw[ZAA]
    exact⟨_,rfl,λ_=>⟨p2,hl⟩⟩
  ·rw[ZUi rose hl w3' n (by omega),al_bind_some,ZA (by decide)]
   exact⟨-1,rfl,λh=>by omega⟩
abbrev gToD:=F29 gTo ZKx (F68 F156)
def ZYH(x:ZAQ)(h:DeskOK x):gToD (x,())=some (x,()):=by
 obtain⟨rig,score,wind,ticks,rose,a,b,c,d,u⟩:=x
 have t1:=ZU5 _ h.shw
 simp only[ZAQ.shw]at t1
 have t2:F68 F156 ((⟨⟨a,b⟩,⟨c,d⟩⟩:Box),())=some (⟨⟨a,b⟩,⟨c,d⟩⟩,()):=rfl
 have t3:=ZUj rose h.ros
 unfold gToD F29
 simp only[t1,t2,t3,al_bind_some]
abbrev gEqD:=F30 ZK4 (F70 F160) (F71 F160)
def ZRI(x:ZAQ)(h:DeskOK x):gEqD (x,x,())=some (true,()):=by
 obtain⟨rig,score,wind,ticks,rose,a,b,c,d,u⟩:=x
 have t1:=ZU6 _ h.shw
 simp only[ZAQ.shw]at t1
 have t3:=ZUk rose h.ros
 unfold gEqD F30
 simp only[t1,t3,ZVz,al_bind_some,ZAF,al_cond_false]
end Ev
end
noncomputable section
namespace Ev
open Go
def mix(f:Device->Device)(l:List Device)(i:Nat):List Device:=l.mapIdx λm d=>if m<i then f d else d
def ZEZ(f:Device->Device)(l:List Device)(i m:Nat):(mix f l i)[m]?=(l[m]?).map λd=>if m<i then f d else d:=by
 unfold mix;rw[List.getElem?_mapIdx]
def ZYI(f:Device->Device)(l:List Device)(i:Nat):(mix f l i).length=l.length:=by unfold mix;simp
def ZYJ(f:Device->Device)(l:List Device):mix f l 0=l:=by
 apply List.ext_getElem?;intro m
 rw[ZEZ]
 cases l[m]?<;>simp
def ZYK(f:Device->Device)(l:List Device):mix f l l.length=l.map f:=by
 apply List.ext_getElem?;intro m
 rw[ZEZ,List.getElem?_map]
 by_cases h:m<l.length
 ·simp only[h,if_true]
 ·rw[List.getElem?_eq_none (by omega)];rfl
def ZYL(f:Device->Device)(l:List Device)(i:Nat)(h:i<l.length):(mix f l i).set i (f l[i])=mix f l (i+1):=by
 apply List.ext_getElem?;intro m
 rw[List.getElem?_set,ZEZ,ZEZ,ZYI]
 by_cases hm:i=m
 ·subst hm
  simp[h]
 ·rw[al_if_neg hm]
  by_cases h1:m<i
  ·simp only[h1,show m<i+1 by omega,if_true]
  ·simp only[h1,show¬m<i+1 by omega,if_false]
def ZYM(f:Device->Device)(l:List Device)(i:Nat)(h:i<l.length)(hf:f l[i]=l[i]):mix f l i=mix f l (i+1):=by
 apply List.ext_getElem?;intro m
 rw[ZEZ,ZEZ]
 by_cases hm:i=m
 ·subst hm
  simp[h,hf]
 ·by_cases h1:m<i
  ·simp only[h1,show m<i+1 by omega,if_true]
  ·simp only[h1,show¬m<i+1 by omega,if_false]
def ZRJ(l:List Device)(hl:l.length<=1048576):G184 (l,())=some (l,()):=by
 unfold G184 F184 ZBe
 cases l with
 | nil=>rw[ZAC];exact ZFu
 | cons x l=>rw[ZAC (by simp at hl⊢;omega)];rfl
def ZYN(l:List Gust)(hl:l.length<=1048576):G186 (l,())=some (l,()):=by
 unfold G186 F186 ZBe
 cases l with
 | nil=>rw[ZAC];exact ZFu
 | cons x l=>rw[ZAC (by simp at hl⊢;omega)];rfl
def shW(y:Place)(d:Device):Device:=if d.Kind=1 then d else⟨d.Name,d.Kind,d.Line,⟨w64 (d.At.X+y.X),w64 (d.At.Y+y.Y)⟩,d.Heading,d.Tilt,d.Most⟩
def ZJQ(y:Place)(d:Device):(shW y d).Name=d.Name/\(shW y d).Line=d.Line:=by
 unfold shW;split<;>exact⟨rfl,rfl⟩
def ZRK{d:Device}(h:devB d=true):isPl d.At=true:=by
 obtain⟨h1,h2,_⟩:=ZK6 h
 unfold isPl
 rw[ZAa h1.1 h1.2,ZAa h2.1 h2.2];rfl
def ZYO{p y:Place}(hp:isPl p=true)(hy:isPl y=true):G293 (p,y,())=some (if isPl ⟨w64 (p.X+y.X),w64 (p.Y+y.Y)⟩=true then(⟨w64 (p.X+y.X),w64 (p.Y+y.Y)⟩,true,())else(⟨0,0⟩,false,())):=by
 have q1:G124 (p,())=some (isPl p,()):=ZBv p
 have q2:G124 (y,())=some (isPl y,()):=ZBv y
 have q3:G124 ((⟨w64 (p.X+y.X),w64 (p.Y+y.Y)⟩:Place),())=some (isPl ⟨w64 (p.X+y.X),w64 (p.Y+y.Y)⟩,()):=ZBv _
 unfold G293 F293 G343 F343
 simp only[q1,q2,hp,hy,al_bind_some,ZAF,ZAH,al_cond_true,al_cond_false,q3]
 cases isPl ⟨w64 (p.X+y.X),w64 (p.Y+y.Y)⟩<;>rfl
def shB(y:Place)(l:List Device):Bool:=(List.range l.length).all λi=>((l[i]?).map λd=>devB (shW y d)).getD true
def ZRL{l:List Device}(h:RigP l){y:Place}(hy:isPl y=true):G207 (l,y,())=cond (shB y l) (some (l.map (shW y),true,())) (some (([]:List Device),false,())):=by
 have hlen:=h.len
 have hl:l.length<=1048576:=by omega
 have hR:G118 (l,())=some (true,()):=by rw[ZDV l hl (ZGG h),(ZDW l).2 h]
 have q2:G124 (y,())=some (isPl y,()):=ZBv y
 unfold G207 F207
 simp only[hR,q2,hy,ZRJ l hl,al_bind_some,ZAF,ZAH,al_cond_true,al_cond_false]
 have run:=ZDT (f:=s207_0 G118 G124 G184 G293 G192) (K:=λt10=>some (t10.2.1,true,())) (λi=>(y,mix (shW y) l i,(),Int.ofNat l.length,(i:Int),())) (λi=>((l[i]?).map λd=>devB (shW y d)).getD true) (some (([]:List Device),false,())) l.length (by omega)
  (by
   intro i hi rec K
   have hx0:l[i]?=some l[i]:=by simp
   have hx:(mix (shW y) l i)[i]?=some l[i]:=by rw[ZEZ];simp[hi]
   have hx':=λ(K:Device->Option (List Device×Bool×Unit))=>ZAE (K:=K) hx
   have e1:w64 ((i:Int)+1)=((i+1:Nat):Int):=ZAB
   have hm:l[i]∈l:=by simp
   have hdv:=h.dev _ hm
   simp only[s207_0]
   rw[ZA,hx0]
   simp only[hx',hx,ZAX,al_bind_some,Option.map_some,Option.getD_some,e1]
   by_cases k1:l[i].Kind=1
   ·have es:shW y l[i]=l[i]:=by unfold shW;rw[al_if_pos k1]
    rw[ZA k1,es,hdv,ZYM (shW y) l i hi es]
    rfl
   ·have ed:shW y l[i]=⟨l[i].Name,l[i].Kind,l[i].Line,⟨w64 (l[i].At.X+y.X),w64 (l[i].At.Y+y.Y)⟩,l[i].Heading,l[i].Tilt,l[i].Most⟩:=by unfold shW;rw[al_if_neg k1]
    rw[ZAA k1,ZYO (ZRK hdv) hy]
    have hz:(mix (shW y) l (i+1))[i]?=some (shW y l[i]):=by rw[ZEZ];simp[hi]
    have hz':=λ(K:Device->Option (List Device×Bool×Unit))=>ZAE (K:=K) hz
    have hset:=ZYL (shW y) l i hi
    have hnl:=ZGG h _ hm
    have hdI:G192 (shW y l[i],())=some (devB (shW y l[i]),()):=(ZDD (shW y l[i]) (by rw[(ZJQ y _).1];exact hnl.1) (by rw[(ZJQ y _).2];exact hnl.2)).2
    by_cases hp:isPl ⟨w64 (l[i].At.X+y.X),w64 (l[i].At.Y+y.Y)⟩=true
    ·rw[al_if_pos hp]
     simp only[al_bind_some,ZAF,ZAH,al_cond_true]
     rw[<-ed,hset]
     simp only[hz',hz,al_bind_some,hdI]
     cases devB (shW y l[i])<;>rfl
    ·rw[al_if_neg hp]
     have hno:devB (shW y l[i])=false:=by
      cases hb:devB (shW y l[i])
      ·rfl
      ·have:=ZRK hb
       rw[ed]at this
       exact absurd this hp
     rw[hno]
     simp only[al_bind_some,ZAF,ZAH,al_cond_false])
  (by
   intro rec K
   simp only[s207_0]
   rw[ZAA])
 rw[ZYJ,ZYK]at run
 exact run
def ZYP{x:Int}(h:0<=x/\x<=3):hd4 x 0=x:=by
 unfold hd4
 rw[al_if_pos (ZAa h.1 h.2)]
 omega
def ZYQ{d:Device}(h:devB d=true)(hk:d.Kind=2):0<=d.Heading/\d.Heading<=3:=by
 unfold devB at h
 rw[ZAM]at h
 have h:=h.2
 rw[al_if_neg (by rw[hk];decide),al_if_pos hk]at h
 simp only[ZAM]at h
 have J:=(ZB6 h.2.2.1).h
 simpa[devJ]using J
def ZYR{l:List Device}(h:RigP l){y:Place}(hy:isPl y=true):G330 (l,y,())=cond (shB y l) (some (l.map (shW y),true,())) (some (([]:List Device),false,())):=by
 have hlen:=h.len
 have hl:l.length<=1048576:=by omega
 have hR:G230 (l,())=some (true,()):=by rw[ZE1 l hl (ZGG h),(ZDW l).2 h]
 have q2:G181 (y,())=some (isPl y,()):=ZDh y
 unfold G330 F330 G360 F360
 simp only[hR,q2,hy,al_bind_some,ZAF,ZAH,al_cond_true,al_cond_false]
 have run:=ZDT (f:=s360_0 G355 G317 G372 G169) (K:=λt11=>some (t11.2.2.1,true,())) (λi=>((0:Int),y,(l.take i).map (shW y),l,Int.ofNat l.length,(i:Int),())) (λi=>((l[i]?).map λd=>devB (shW y d)).getD true) (some (([]:List Device),false,())) l.length (by omega)
  (by
   intro i hi rec K
   have hx:l[i]?=some l[i]:=by simp
   have e1:w64 ((i:Int)+1)=((i+1:Nat):Int):=ZAB
   have hm:l[i]∈l:=by simp
   have hdv:=h.dev _ hm
   have hnl:=ZGG h _ hm
   have hdS:G169 (shW y l[i],())=some (devB (shW y l[i]),()):=(ZDD (shW y l[i]) (by rw[(ZJQ y _).1];exact hnl.1) (by rw[(ZJQ y _).2];exact hnl.2)).1
   have hcap:((l.take i).map (shW y)).length+1<=1099511627776:=by simp;omega
   rw[<-ZDk (shW y) l i hi]
   simp only[s360_0]
   rw[ZA,ZAE hx,hx]
   simp only[Option.map_some,Option.getD_some]
   have ht: ∀p:Place,G355 (p,0,())=some (p,()):=λp=>ZIg p 0
   have ha: ∀p q:Place,G317 (p,q,())=some (⟨w64 (p.X+q.X),w64 (p.Y+q.Y)⟩,()):=λp q=>rfl
   have hh: ∀x:Int,G372 (x,0,())=some (hd4 x 0,()):=λx=>thS x 0
   by_cases k1:l[i].Kind=1
   ·have es:shW y l[i]=l[i]:=by unfold shW;rw[al_if_pos k1]
    rw[es]at hdS⊢
    rw[ZAL k1]
    simp only[ZAF,al_cond_false]
    rw[ZAA,hdS,hdv]
    simp only[al_bind_some,ZAF,al_cond_false,al_cond_true]
    rw[ZAC (by simpa using hcap),e1]
   ·have ed:shW y l[i]=⟨l[i].Name,l[i].Kind,l[i].Line,⟨w64 (l[i].At.X+y.X),w64 (l[i].At.Y+y.Y)⟩,l[i].Heading,l[i].Tilt,l[i].Most⟩:=by unfold shW;rw[al_if_neg k1]
    rw[ZAG k1]
    simp only[ZAH,al_cond_true,ht,ha,al_bind_some]
    by_cases k2:l[i].Kind=2
    ·rw[ZA k2]
     simp only[hh,al_bind_some,ZYP (ZYQ hdv k2)]
     rw[<-ed,hdS]
     simp only[al_bind_some]
     cases devB (shW y l[i])
     ·rfl
     ·simp only[ZAF,al_cond_false,al_cond_true]
      rw[ZAC (by simpa using hcap),e1]
    ·rw[ZAA k2]
     rw[<-ed,hdS]
     simp only[al_bind_some]
     cases devB (shW y l[i])
     ·rfl
     ·simp only[ZAF,al_cond_false,al_cond_true]
      rw[ZAC (by simpa using hcap),e1])
  (by
   intro rec K
   simp only[s360_0]
   rw[ZAA])
 have run:ZAD (s360_0 G355 G317 G372 G169) fuel ((0:Int),y,([]:List Device),l,Int.ofNat l.length,0,()) (λt11=>some (t11.2.2.1,true,()))=_:=run
 rw[run]
 unfold shB
 cases (List.range l.length).all λi=>((l[i]?).map λd=>devB (shW y d)).getD true
 ·rfl
 ·simp only[List.take_length,al_cond_true,al_bind_some]
def ZYS(l:List Device)(hl:l.length<=1048576)(hn:ZB7 l)(y:Place): ∃R b,G330 (l,y,())=some (R,b,())/\G207 (l,y,())=some (R,b,())/\R.length<=l.length:=by
 cases hr:rigB l
 ·refine⟨[],false,?_,?_,by simp⟩
  ·unfold G330 F330
   simp only[ZE1 l hl hn,hr,al_bind_some]
   rfl
  ·unfold G207 F207
   simp only[ZDV l hl hn,hr,al_bind_some]
   rfl
 ·cases hp:isPl y
  ·have q2:G181 (y,())=some (isPl y,()):=ZDh y
   have q3:G124 (y,())=some (isPl y,()):=ZBv y
   refine⟨[],false,?_,?_,by simp⟩
   ·unfold G330 F330
    simp only[ZE1 l hl hn,hr,q2,hp,al_bind_some]
    rfl
   ·unfold G207 F207
    simp only[ZDV l hl hn,hr,q3,hp,al_bind_some]
    rfl
  ·have h:=(ZDW l).1 hr
   rw[ZRL h hp,ZYR h hp]
   cases shB y l
   ·exact⟨[],false,rfl,rfl,by simp⟩
   ·exact⟨l.map (shW y),true,rfl,rfl,by simp⟩
def ZYT(l:List Device)(hl:l.length<=1048576):G228 (l,())=some (l,()):=by
 unfold G228 F228
 rw[ZAC];rfl
def ZYU(s:ZAN)(h:ShowOK s):G139 (s,())=some (s,()):=by
 have h1:=ZYT s.1 h.rig
 have h2:G229 (s.2.1,())=some (s.2.1,()):=ZK7 s.2.1 h.score
 have h3:=h.wind
 unfold G139 F139
 simp only[h1,h2,al_bind_some]
 rw[ZAC]
 rfl
def ZRM(s:ZAN)(h:ShowOK s):G94 (s,())=some (s,()):=by
 have c1:=ZRJ s.1 h.rig
 have c2:G185 (s.2.1,())=some (s.2.1,()):=ZIh s.2.1 h.score
 have c3:=ZYN s.2.2.1 h.wind
 unfold G94 F94
 simp only[c1,c2,c3,al_bind_some]
def ZYV(s:ZAN)(h:ShowOK s)(y:Place): ∃(x:ZAN) (b:Bool),G258 (s,y,())=some (x,b,())/\G108 (s,y,())=some (x,b,())/\x.1.length<=1048576/\x.2.1.length<=1048576/\x.2.2.1.length<=1048576:=by
 obtain⟨R,b,g1,g2,hR⟩:=ZYS s.1 h.rig h.devs y
 have hlen:=h.rig
 unfold G258 F258 G108 F108
 simp only[ZBC,g1,g2,ZCQ s h,ZDE s h,ZYU s h,ZRM s h,al_bind_some]
 cases ZA2 s
 ·exact⟨([],[],[],0,()),false,rfl,rfl,by simp,by simp,by simp⟩
 ·cases b
  ·exact⟨([],[],[],0,()),false,rfl,rfl,by simp,by simp,by simp⟩
  ·exact⟨(R,s.2.1,s.2.2.1,s.2.2.2.1,()),true,rfl,rfl,by simp only;omega,h.score,h.wind⟩
end Ev
end
noncomputable section
namespace Ev
open Go
structure DeskV(x:ZAQ):Prop where
 ok:DeskOK x
 shw:ShowV x.shw
 ros:RoseV x.ros
 box:isBx x.bas=true
def ZMH{x:ZAQ}(h:DeskOK x)(hb:ZCD x=true):DeskV x:=by
 unfold ZCD at hb
 simp only[ZAM]at hb
 have hr:=ZHa x.ros h.ros
 rw[hb.2.1]at hr
 exact⟨h,ZDl h.shw hb.1,ZL6 h.ros hr,hb.2.2⟩
def ZYW{r:List Place}(h:RoseV r):rosB r=true:=by unfold rosB;rw[h.isI];rfl
def ZGI{x:ZAQ}(h:DeskV x):ZCD x=true:=by
 unfold ZCD;rw[ZE3 h.shw,ZYW h.ros,h.box];rfl
def yesT:Str:=[111,107]
def noT2:Str:=[110,111]
def ZBF:Str:=[119,104,97,116]
def ZRN(b:Bool):Str:=if b=true then [121,101,115]else [110,111]
def ZCw(x:ZAQ)(s:ZAN):ZAQ:=(s.1,s.2.1,s.2.2.1,s.2.2.2.1,x.2.2.2.2)
def ZHb(x:ZAQ)(r:List Place):ZAQ:=(x.1,x.2.1,x.2.2.1,x.2.2.2.1,r,x.2.2.2.2.2)
def ZHc(x:ZAQ)(p q:Place):ZAQ:=(x.1,x.2.1,x.2.2.1,x.2.2.2.1,x.2.2.2.2.1,p.X,p.Y,q.X,q.Y,())
def ZCM(s:ZAN)(n:Int):ZAN:=((G107 (s,n,())).map λx=>x.1).getD s
def ZBH(s:ZAN)(p:Place):ZAN×Bool:=((G108 (s,p,())).map λx=>(x.1,x.2.1)).getD (s,false)
def ZBS(s:ZAN)(r:List Place):Box×Bool:=((G117 (s,r,())).map λx=>(x.1,x.2.1)).getD (⟨⟨0,0⟩,⟨0,0⟩⟩,false)
def dryV(s:ZAN)(c:Box):Bool:=((G20 (s,c,())).map λx=>x.1).getD false
def ZCx(s:ZAN)(t:Int):Int:=((G116 (s,t,())).map λx=>x.1).getD 0
def ZCy(s:ZAN)(t:Int):Int:=((G115 (s,t,())).map λx=>x.1).getD 0
def ZMI(s:ZAN)(h:ShowOK s)(n:Int):G107 (s,n,())=some (ZCM s n,())/\G252 (s,n,())=some (ZCM s n,())/\(ZCM s n).1.length<=1048576/\(ZCM s n).2.1.length<=1048576/\(ZCM s n).2.2.1.length<=1048576:=by
 obtain⟨r,h1,h2,h3⟩:=ZV s h n
 have h1:G252 (s,n,())=some (r,()):=h1
 have h2:G107 (s,n,())=some (r,()):=h2
 have e:ZCM s n=r:=by unfold ZCM;rw[h2];rfl
 rw[e]
 exact⟨h2,h1,h3⟩
def ZMJ(s:ZAN)(h:ShowOK s)(p:Place):G108 (s,p,())=some ((ZBH s p).1,(ZBH s p).2,())/\G258 (s,p,())=some ((ZBH s p).1,(ZBH s p).2,())/\(ZBH s p).1.1.length<=1048576/\(ZBH s p).1.2.1.length<=1048576/\(ZBH s p).1.2.2.1.length<=1048576:=by
 obtain⟨r,b,h1,h2,h3⟩:=ZYV s h p
 have e:ZBH s p=(r,b):=by unfold ZBH;rw[h2];rfl
 rw[e]
 exact⟨h2,h1,h3⟩
def ZRO(s:ZAN)(h:ShowOK s)(r:List Place)(hr:r.length<=1048576):G117 (s,r,())=some ((ZBS s r).1,(ZBS s r).2,())/\G241 (s,r,())=some ((ZBS s r).1,(ZBS s r).2,()):=by
 obtain⟨B,b,h1,h2⟩:=ZVy s h r hr
 have e:ZBS s r=(B,b):=by unfold ZBS;rw[h2];rfl
 rw[e];exact⟨h2,h1⟩
def ZRP(s:ZAN)(h:ShowOK s)(c:Box):G20 (s,c,())=some (dryV s c,())/\G242 (s,c,())=some (dryV s c,()):=by
 obtain⟨L,_,h1,h2⟩:=ZXM s h c
 have e:dryV s c=(ZA2 s && (isBx c && dryB c L)):=by unfold dryV;rw[h2];rfl
 rw[e];exact⟨h2,h1⟩
def ZRQ{s:ZAN}(h:ShowV s)(t:Int):G116 (s,t,())=some (ZCx s t,())/\G257 (s,t,())=some (ZCx s t,())/\0<=ZCx s t/\ZCx s t<=512:=by
 obtain⟨v,h1,h2⟩:=ZVa s h.ok t
 have e:ZCx s t=v:=by unfold ZCx;rw[h2];rfl
 rw[ZQ0 h t]at h2
 cases h2
 rw[e]
 refine⟨ZQ0 h t,h1,by omega,?_⟩
 have:=List.countP_le_length (p:=ZHW t) (l:=ZAO s)
 have:=ZBx h
 omega
def ZRR{s:ZAN}(h:ShowV s)(t:Int):G115 (s,t,())=some (ZCy s t,())/\G256 (s,t,())=some (ZCy s t,())/\0<=ZCy s t/\ZCy s t<=512:=by
 have h2:=ZQz h t
 have e:ZCy s t=(((ZAO s).countP (ZFH t):Nat):Int):=by unfold ZCy;rw[h2];rfl
 rw[e]
 refine⟨h2,ZXP h t,by omega,?_⟩
 have:=List.countP_le_length (p:=ZFH t) (l:=ZAO s)
 have:=ZBx h
 omega
def ZRS{s:ZAN}(h:ShowV s)(t:Int):G111 (s,t,())=some (ZA0 s t,())/\G253 (s,t,())=some (ZA0 s t,()):=by
 obtain⟨L,h1,h2,_⟩:=ZVT s h.ok t
 have h3:=ZLL h t
 rw[h3]at h2
 cases h2
 exact⟨h3,h1⟩
def ZRT{x:ZAQ}(h:DeskV x):G109 (x.shw,x.ros,x.bas,())=some (lmS x.ros x.bas x.shw,true,())/\G236 (x.shw,x.ros,x.bas,())=some (lmS x.ros x.bas x.shw,true,()):=by
 have h1:=ZXe h.shw h.ros h.box
 obtain⟨y,b,h2,h3,_⟩:=ZWK x.shw h.ok.shw x.ros h.ok.ros x.bas
 rw[h1]at h3
 cases h3
 exact⟨h1,h2⟩
def ZBr(x:ZAQ)(p:Str)(n:Int):ZAQ×Str:=
 if p=ZAv then(if n<=64 then((x.1,x.2.1,x.2.2.1,n,x.2.2.2.2),yesT)else(x,noT2))
 else if p=ZAl then(ZCw x (ZCM x.shw n),yesT)
 else if p=ZAs then(x,ZCL (ZJJ x.shw (ZA0 x.shw n)))
 else if p=ZAt then(x,ZCL ((nowL x.shw n).map (ZBR true)))
 else(x,(Go.Lib.itoa (ZCy x.shw n)++[32])++Go.Lib.itoa (ZCx x.shw n))
def ZA1(x:ZAQ)(p r:Str):ZAQ×Str:=
 if p=devW then(if((devP r).2 && addB x.1 (devP r).1)=true then((addD x.1 (devP r).1,x.2),yesT)else(x,noT2))
 else if p=cueW then(if((cueP r).2 && ZBk x.2.1 (cueP r).1)=true then((x.1,ZCf x.2.1 (cueP r).1,x.2.2),yesT)else(x,noT2))
 else if p=remW then(if(splC 32 r).length=1 then(if remB x.1 r=true then((remD x.1 r,x.2),yesT)else(x,noT2))else(x,ZBF))
 else if p=ZAe then(if(splC 32 r).length=2/\(numP (wAt (splC 32 r) 1)).2=true then(x,ZAR (lvl x.2.1 (wAt (splC 32 r) 0) (numP (wAt (splC 32 r) 1)).1))else(x,ZBF))
 else if p=ZAd then(if(splC 32 r).length=2/\(numP (wAt (splC 32 r) 0)).2=true/\(ZAS (wAt (splC 32 r) 1)).2=true then
  (if jnB x.2.2.1 (ZAS (wAt (splC 32 r) 1)).1 (numP (wAt (splC 32 r) 0)).1=true then((x.1,x.2.1,jnD x.2.2.1 (ZAS (wAt (splC 32 r) 1)).1 (numP (wAt (splC 32 r) 0)).1,x.2.2.2),yesT)else(x,noT2))else(x,ZBF))
 else if p∈ZBz then(if(splC 32 r).length=1/\(numP r).2=true then ZBr x p (numP r).1 else(x,ZBF))
 else if p=ZAb then(if ZAf (splC 32 r)=true then(if rosB (ZA4 (splC 32 r))=true then(ZHb x (ZA4 (splC 32 r)),yesT)else(x,noT2))else(x,ZBF))
 else if p=ZAi then(if(splC 32 r).length=2/\ZAf (splC 32 r)=true then(if isBx ⟨(ZAS (wAt (splC 32 r) 0)).1,(ZAS (wAt (splC 32 r) 1)).1⟩=true then(ZHc x (ZAS (wAt (splC 32 r) 0)).1 (ZAS (wAt (splC 32 r) 1)).1,yesT)else(x,noT2))else(x,ZBF))
 else if p=ZAj then(if(splC 32 r).length=1/\ZAf (splC 32 r)=true then(if(ZBH x.shw (ZAS r).1).2=true then(ZCw x (ZBH x.shw (ZAS r).1).1,yesT)else(x,noT2))else(x,ZBF))
 else(x,ZBF)
def oneR(x:ZAQ)(line:Str):ZAQ×Str:=
 if line=ZAw then(ZCw x (lmS x.ros x.bas x.shw),yesT)
 else if line=ZAm then(x,ZCL ((ZDG x.shw).map (ZBR false)))
 else if line=ZAn then(x,ZAR (ZFI x.shw))
 else if line=ZAo then(x,ZEW x.shw x.ros (rosB x.ros) x.bas)
 else if line=ZAp then(x,if(ZBS x.shw x.ros).2=true then(ZAk (ZBS x.shw x.ros).1.Low++[32])++ZAk (ZBS x.shw x.ros).1.High else ZL7)
 else if line=dryW then(x,ZRN (dryV x.shw x.bas))
 else(x,ZBF)
def ZBc(x:ZAQ)(line:Str):ZAQ×Str:=if(splC 32 line).length=1 then oneR x line else ZA1 x (wAt (splC 32 line) 0) (Go.Lib.cut line [32]).2.1
def ZMK(x:ZAQ){line:Str}(h: ∀c∈line,c≠32):ZBc x line=oneR x line:=by
 unfold ZBc
 rw[ZHO h]
 exact al_if_pos rfl
def ZML(x:ZAQ){p r:Str}(h: ∀c∈p,c≠32):ZBc x (p++32::r)=ZA1 x p r:=by
 unfold ZBc
 rw[ZHP h,al_if_neg (by have:=List.length_pos_iff.mpr (ZCd 32 r);simp;exact ZCd 32 r)]
 unfold Go.Lib.cut
 rw[ZF3 h,al_if_pos]
 simp[wAt]
def ZYX(l:List Device)(hl:l.length<=1048576):G184 (l,())=some (l,()):=ZOg l hl
def ZYY(l:List Gust)(hl:l.length<=1048576):G186 (l,())=some (l,()):=by
 unfold G186 F186 ZBe
 cases l with
 | nil=>rw[ZAC];exact ZGx
 | cons x l=>rw[ZAC (by simp at hl⊢;omega)];rfl
def ZYZ(l:List Place)(hl:l.length<=1048576):G95 (l,())=some (l,()):=by
 unfold G95 F95 ZBe
 cases l with
 | nil=>rw[ZAC];exact ZGx
 | cons x l=>rw[ZAC (by simp at hl⊢;omega)];rfl
structure DeskZ(x:ZAQ):Prop where
 r:x.1.length<=1048576
 s:x.2.1.length<=1048576
 w:x.2.2.1.length<=1048576
 p:x.2.2.2.2.1.length<=1048576
def ZBP{x:ZAQ}(h:DeskOK x):DeskZ x:=⟨h.shw.rig,h.shw.score,h.shw.wind,h.ros⟩
def ZBs{x:ZAQ}(h:DeskZ x):G46 (x,())=some (x,()):=by
 unfold G46 F46 G94 F94
 have e2:G185 (x.2.1,())=some (x.2.1,()):=ZOp x.2.1 h.s
 simp only[ZYX _ h.r,e2,ZYY _ h.w,ZYZ _ h.p,al_bind_some]
def ZHd{x:ZAQ}(h:DeskZ x):G63 (x,())=some (x,()):=by
 unfold G63 F63 G139 F139
 have:=h.w;have:=h.p
 simp only[ZJF _ h.r,ZJH _ h.s,al_bind_some]
 rw[ZAC]
 simp only[al_bind_some]
 rw[ZAC]
 rfl
end Ev
end
noncomputable section
namespace Ev
open Go
theorem ZRU(r:Str):(devP r).1.Name.length<=1048576/\(devP r).1.Line.length<=1048576:=by
 unfold devP
 split
 ·rename_i h
  have hb:devB (ZBE (splC 32 r))=true:=by
   cases e:devB (ZBE (splC 32 r))with
   | true=>rfl
   | false=>exact absurd h.2 (by unfold ZBW;rw[e];exact λq=>h.1 q.symm)
  have hk:=ZDJ hb
  have:=ZBX hk.nm
  refine⟨by show(ZBE _).Name.length<=_;omega,?_⟩
  show(ZBE _).Line.length<=_
  rcases hk.k with ⟨_,e,_⟩ | ⟨_,e,_⟩ | ⟨_,e,_⟩
  ·rw[e];simp
  ·have:=ZBX e;omega
  ·have:=ZBX e;omega
 ·exact⟨by simp,by simp⟩
theorem ZRV(r:Str):(cueP r).1.Name.length<=1048576:=by
 unfold cueP
 split
 ·rename_i h
  have hb:ZAz (ZCV (splC 32 r))=true:=by
   cases e:ZAz (ZCV (splC 32 r))with
   | true=>rfl
   | false=>
    have:=h.2
    unfold ZBO at this
    rw[e]at this
    rw[<-this]at h
    exact absurd h.1 ZJ
  have:=ZBX (ZFB hb).nm
  show(ZCV _).Name.length<=_;omega
 ·simp
theorem rd1{R α:Type}{x y:α}{r:List α}{K:α->Option R} :rdL (x::y::r) 1 K=K y:=ZAE (i:=1) rfl
theorem ZJR{n:Int}(h0:0<=n)(h1:n<=512):(Go.Lib.itoa n).length<=20:=ZCr (by omega) (by omega)
section
variable {x:ZAQ} (h:DeskV x) (r:Str) (n:Int) (ps:List Place)
include h
theorem ZYa:G49 (x,(ZAe,r,n,ps,()),())=some (ZAR (lvl x.2.1 r n),()):=by
 unfold G49 F49
 simp (config:= {decide:=true})only[devW,remW,cueW,ZAd,ZAv,ZAb,ZAi,ZAl,ZAj,ZAw,ZAe,ZAs,ZAt,ZAm,ZAx,ZAn,ZAo,ZAp,dryW,if_true,if_false,al_cond_true,al_cond_false,decide_true,decide_false,ZAF,ZAH,al_bind_some]
 have e:G110 (x.2.1,r,n,())=some (lvl x.2.1 r n,()):=ZLI h.ok.shw.names h.ok.shw.score r n
 rw[e]
 simp only[al_bind_some,fmI]
theorem ZYb:G49 (x,(ZAs,r,n,ps,()),())=some (ZCL (ZJJ x.shw (ZA0 x.shw n)),()):=by
 unfold G49 F49
 simp (config:= {decide:=true})only[devW,remW,cueW,ZAd,ZAv,ZAb,ZAi,ZAl,ZAj,ZAw,ZAe,ZAs,ZAt,ZAm,ZAx,ZAn,ZAo,ZAp,dryW,if_true,if_false,al_cond_true,al_cond_false,decide_true,decide_false,ZAF,ZAH,al_bind_some]
 have e:G111 ((x.1,x.2.1,x.2.2.1,x.2.2.2.1,()),n,())=some (ZA0 x.shw n,()):=(ZRS h.shw n).1
 rw[e]
 simp only[al_bind_some]
 exact ZXp _ _ _ _ _ _ _ _ _ _ x.shw (λd hd=>ZBX (ZDJ (h.shw.rig.dev d hd)).nm) _ (ZEL _ _) (by rw[ZEL];exact h.shw.rig.len)
theorem ZYc:G49 (x,(ZAt,r,n,ps,()),())=some (ZCL ((nowL x.shw n).map (ZBR true)),()):=by
 unfold G49 F49
 simp (config:= {decide:=true})only[devW,remW,cueW,ZAd,ZAv,ZAb,ZAi,ZAl,ZAj,ZAw,ZAe,ZAs,ZAt,ZAm,ZAx,ZAn,ZAo,ZAp,dryW,if_true,if_false,al_cond_true,al_cond_false,decide_true,decide_false,ZAF,ZAH,al_bind_some]
 have e:G113 ((x.1,x.2.1,x.2.2.1,x.2.2.2.1,()),n,())=some (nowL x.shw n,()):=ZVo h.shw n
 rw[e]
 simp only[al_bind_some]
 exact ZXn _ _ _ _ _ _ _ _ _ _ _ (ZP1 h.shw n) (ZRA h.shw n)
theorem ZYd:G49 (x,(ZAm,r,n,ps,()),())=some (ZCL ((ZDG x.shw).map (ZBR false)),()):=by
 unfold G49 F49
 simp (config:= {decide:=true})only[devW,remW,cueW,ZAd,ZAv,ZAb,ZAi,ZAl,ZAj,ZAw,ZAe,ZAs,ZAt,ZAm,ZAx,ZAn,ZAo,ZAp,dryW,if_true,if_false,al_cond_true,al_cond_false,decide_true,decide_false,ZAF,ZAH,al_bind_some]
 have e:G114 ((x.1,x.2.1,x.2.2.1,x.2.2.2.1,()),())=some (ZDG x.shw,()):=ZP3 h.shw
 rw[e]
 simp only[al_bind_some]
 exact ZXo _ _ _ _ _ _ _ _ _ _ _ (by rw[ZLT];exact ZBx h.shw) (ZRB h.shw)
theorem ZYe:G49 (x,(ZAx,r,n,ps,()),())=some ((Go.Lib.itoa (ZCy x.shw n)++[32])++Go.Lib.itoa (ZCx x.shw n),()):=by
 unfold G49 F49
 simp (config:= {decide:=true})only[devW,remW,cueW,ZAd,ZAv,ZAb,ZAi,ZAl,ZAj,ZAw,ZAe,ZAs,ZAt,ZAm,ZAx,ZAn,ZAo,ZAp,dryW,if_true,if_false,al_cond_true,al_cond_false,decide_true,decide_false,ZAF,ZAH,al_bind_some]
 obtain⟨t1,_,t2,t3⟩:=ZRR h.shw n
 obtain⟨l1,_,l2,l3⟩:=ZRQ h.shw n
 have e1:G115 ((x.1,x.2.1,x.2.2.1,x.2.2.2.1,()),n,())=some (ZCy x.shw n,()):=t1
 have e2:G116 ((x.1,x.2.1,x.2.2.1,x.2.2.2.1,()),n,())=some (ZCx x.shw n,()):=l1
 have:=ZJR t2 t3;have:=ZJR l2 l3
 rw[e1,e2]
 simp only[al_bind_some,numI (n:=ZCy x.shw n) (by omega) (by omega),numI (n:=ZCx x.shw n) (by omega) (by omega),al_len_append,al_len_cons,al_len_nil]
 rw[ZAC,ZAC]
theorem ZYf:G49 (x,(ZAn,r,n,ps,()),())=some (ZAR (ZFI x.shw),()):=by
 unfold G49 F49
 simp (config:= {decide:=true})only[devW,remW,cueW,ZAd,ZAv,ZAb,ZAi,ZAl,ZAj,ZAw,ZAe,ZAs,ZAt,ZAm,ZAx,ZAn,ZAo,ZAp,dryW,if_true,if_false,al_cond_true,al_cond_false,decide_true,decide_false,ZAF,ZAH,al_bind_some]
 have e:G22 ((x.1,x.2.1,x.2.2.1,x.2.2.2.1,()),())=some (ZFI x.shw,()):=ZQ1 h.shw
 rw[e]
 simp only[al_bind_some,fmI]
theorem ZYg:G49 (x,(ZAo,r,n,ps,()),())=some (ZEW x.shw x.ros (rosB x.ros) x.bas,()):=by
 unfold G49 F49
 simp (config:= {decide:=true})only[devW,remW,cueW,ZAd,ZAv,ZAb,ZAi,ZAl,ZAj,ZAw,ZAe,ZAs,ZAt,ZAm,ZAx,ZAn,ZAo,ZAp,dryW,if_true,if_false,al_cond_true,al_cond_false,decide_true,decide_false,ZAF,ZAH,al_bind_some]
 have e:=ZXJ x.shw h.ok.shw x.ros h.ok.ros x.bas (rosB x.ros) (ZHa _ h.ok.ros)
 have e:G19 ((x.1,x.2.1,x.2.2.1,x.2.2.2.1,()),x.2.2.2.2.1,(⟨⟨x.2.2.2.2.2.1,x.2.2.2.2.2.2.1⟩,⟨x.2.2.2.2.2.2.2.1,x.2.2.2.2.2.2.2.2.1⟩⟩:Box),())=some (ZEW x.shw x.ros (rosB x.ros) x.bas,()):=e
 rw[e]
 rfl
theorem ZYh:G49 (x,(ZAp,r,n,ps,()),())=some (if(ZBS x.shw x.ros).2=true then(ZAk (ZBS x.shw x.ros).1.Low++[32])++ZAk (ZBS x.shw x.ros).1.High else ZL7,()):=by
 unfold G49 F49
 simp (config:= {decide:=true})only[devW,remW,cueW,ZAd,ZAv,ZAb,ZAi,ZAl,ZAj,ZAw,ZAe,ZAs,ZAt,ZAm,ZAx,ZAn,ZAo,ZAp,dryW,if_true,if_false,al_cond_true,al_cond_false,decide_true,decide_false,ZAF,ZAH,al_bind_some]
 have e:G117 ((x.1,x.2.1,x.2.2.1,x.2.2.2.1,()),x.2.2.2.2.1,())=some ((ZBS x.shw x.ros).1,(ZBS x.shw x.ros).2,()):=(ZRO x.shw h.ok.shw x.ros h.ok.ros).1
 rw[e]
 have:=ZCS (ZBS x.shw x.ros).1.Low
 have:=ZCS (ZBS x.shw x.ros).1.High
 simp only[al_bind_some,fpI,al_len_append,al_len_cons,al_len_nil]
 cases (ZBS x.shw x.ros).2
 ·rfl
 ·simp only[ZAF,al_cond_false,if_true]
  rw[ZAC,ZAC]
theorem ZYi:G49 (x,(dryW,r,n,ps,()),())=some (ZRN (dryV x.shw x.bas),()):=by
 unfold G49 F49
 simp (config:= {decide:=true})only[devW,remW,cueW,ZAd,ZAv,ZAb,ZAi,ZAl,ZAj,ZAw,ZAe,ZAs,ZAt,ZAm,ZAx,ZAn,ZAo,ZAp,dryW,if_true,if_false,al_cond_true,al_cond_false,decide_true,decide_false,ZAF,ZAH,al_bind_some]
 have e:G20 ((x.1,x.2.1,x.2.2.1,x.2.2.2.1,()),(⟨⟨x.2.2.2.2.2.1,x.2.2.2.2.2.2.1⟩,⟨x.2.2.2.2.2.2.2.1,x.2.2.2.2.2.2.2.2.1⟩⟩:Box),())=some (dryV x.shw x.bas,()):=(ZRP x.shw h.ok.shw x.bas).1
 rw[e]
 cases dryV x.shw x.bas<;>rfl
end
section
variable {x:ZAQ} (h:DeskV x) (r:Str) (n:Int) (ps:List Place)
include h
theorem ZYj(hr:r.length<=1048576):G48.1 (x,(devW,r,n,ps,()),())=some (ps,if(devP r).2=true then(addD x.1 (devP r).1,x.2)else x,(devP r).2 && addB x.1 (devP r).1,true,()):=by
 unfold G48 F48
 simp only[ZBs (ZBP h.ok),ZWr r hr,al_bind_some]
 simp (config:= {decide:=true})only[devW,remW,cueW,ZAd,ZAv,ZAb,ZAi,ZAl,ZAj,ZAw,ZAe,ZAs,ZAt,ZAm,ZAx,ZAn,ZAo,ZAp,dryW,if_true,if_false,al_cond_true,al_cond_false,decide_true,decide_false,ZAF,ZAH,al_bind_some]
 have hk:(devP r).1.Name.length<=1048576/\(devP r).1.Line.length<=1048576:=ZRU r
 have e:=ZW0 x.1 h.ok.shw.rig h.ok.shw.devs (devP r).1 hk.1 hk.2
 cases (devP r).2
 ·rfl
 ·simp only[al_cond_true,e,al_bind_some];rfl
theorem ZYk:G48.1 (x,(remW,r,n,ps,()),())=some (ps,(remD x.1 r,x.2),remB x.1 r,true,()):=by
 unfold G48 F48
 simp only[ZBs (ZBP h.ok),al_bind_some]
 simp (config:= {decide:=true})only[devW,remW,cueW,ZAd,ZAv,ZAb,ZAi,ZAl,ZAj,ZAw,ZAe,ZAs,ZAt,ZAm,ZAx,ZAn,ZAo,ZAp,dryW,if_true,if_false,al_cond_true,al_cond_false,decide_true,decide_false,ZAF,ZAH,al_bind_some]
 simp only[ZW5 x.1 h.ok.shw.rig h.ok.shw.devs r,al_bind_some]
theorem ZYl(hr:r.length<=1048576):G48.1 (x,(cueW,r,n,ps,()),())=some (ps,if(cueP r).2=true then(x.1,ZCf x.2.1 (cueP r).1,x.2.2)else x,(cueP r).2 && ZBk x.2.1 (cueP r).1,true,()):=by
 unfold G48 F48
 simp only[ZBs (ZBP h.ok),ZWw r hr,al_bind_some]
 simp (config:= {decide:=true})only[devW,remW,cueW,ZAd,ZAv,ZAb,ZAi,ZAl,ZAj,ZAw,ZAe,ZAs,ZAt,ZAm,ZAx,ZAn,ZAo,ZAp,dryW,if_true,if_false,al_cond_true,al_cond_false,decide_true,decide_false,ZAF,ZAH,al_bind_some]
 have e:G105 (x.2.1,(cueP r).1,())=some (ZCf x.2.1 (cueP r).1,ZBk x.2.1 (cueP r).1,()):=ZW9 x.2.1 h.ok.shw.score h.ok.shw.names (cueP r).1 (ZRV r)
 cases (cueP r).2
 ·rfl
 ·simp only[al_cond_true,e,al_bind_some];rfl
theorem ZYm(p:Place):G48.1 (x,(ZAd,r,n,[p],()),())=some ([p],(x.1,x.2.1,jnD x.2.2.1 p n,x.2.2.2),jnB x.2.2.1 p n,true,()):=by
 unfold G48 F48
 simp only[ZBs (ZBP h.ok),al_bind_some]
 simp (config:= {decide:=true})only[devW,remW,cueW,ZAd,ZAv,ZAb,ZAi,ZAl,ZAj,ZAw,ZAe,ZAs,ZAt,ZAm,ZAx,ZAn,ZAo,ZAp,dryW,if_true,if_false,al_cond_true,al_cond_false,decide_true,decide_false,ZAF,ZAH,al_bind_some]
 have e:G106 (x.2.2.1,[⟨0,⟨p.X,p.Y⟩⟩],n,())=some (jnD x.2.2.1 p n,jnB x.2.2.1 p n,()):=ZXE x.2.2.1 h.ok.shw.wind p n
 simp only[rd0,show([p]:List Place)[Int.toNat 0]?=some p from rfl,al_bind_some,e]
theorem ZYn:G48.1 (x,(ZAv,r,n,ps,()),())=some (ps,(x.1,x.2.1,x.2.2.1,n,x.2.2.2.2),decide (n<=64),true,()):=by
 unfold G48 F48
 simp only[ZBs (ZBP h.ok),al_bind_some]
 simp (config:= {decide:=true})only[devW,remW,cueW,ZAd,ZAv,ZAb,ZAi,ZAl,ZAj,ZAw,ZAe,ZAs,ZAt,ZAm,ZAx,ZAn,ZAo,ZAp,dryW,if_true,if_false,al_cond_true,al_cond_false,decide_true,decide_false,ZAF,ZAH,al_bind_some]
theorem ZYo(p q:Place):G48.1 (x,(ZAi,r,n,[p,q],()),())=some ([p,q],ZHc x p q,isBx ⟨p,q⟩,true,()):=by
 unfold G48 F48
 simp only[ZBs (ZBP h.ok),al_bind_some]
 simp (config:= {decide:=true})only[devW,remW,cueW,ZAd,ZAv,ZAb,ZAi,ZAl,ZAj,ZAw,ZAe,ZAs,ZAt,ZAm,ZAx,ZAn,ZAo,ZAp,dryW,if_true,if_false,al_cond_true,al_cond_false,decide_true,decide_false,ZAF,ZAH,al_bind_some]
 have e:G52 ((⟨⟨p.X,p.Y⟩,⟨q.X,q.Y⟩⟩:Box),())=some (isBx ⟨p,q⟩,()):=ZEM _
 simp only[rd0,rd1,show([p,q]:List Place)[Int.toNat 0]?=some p from rfl,show([p,q]:List Place)[Int.toNat 1]?=some q from rfl,al_bind_some,e]
 rfl
theorem ZYp:G48.1 (x,(ZAl,r,n,ps,()),())=some (ps,ZCw x (ZCM x.shw n),true,true,()):=by
 unfold G48 F48
 simp only[ZBs (ZBP h.ok),al_bind_some]
 simp (config:= {decide:=true})only[devW,remW,cueW,ZAd,ZAv,ZAb,ZAi,ZAl,ZAj,ZAw,ZAe,ZAs,ZAt,ZAm,ZAx,ZAn,ZAo,ZAp,dryW,if_true,if_false,al_cond_true,al_cond_false,decide_true,decide_false,ZAF,ZAH,al_bind_some]
 have e:G107 ((x.1,x.2.1,x.2.2.1,x.2.2.2.1,()),n,())=some (ZCM x.shw n,()):=(ZMI x.shw h.ok.shw n).1
 rw[e];rfl
theorem ZYq(p:Place):G48.1 (x,(ZAj,r,n,[p],()),())=some ([p],ZCw x (ZBH x.shw p).1,(ZBH x.shw p).2,true,()):=by
 unfold G48 F48
 simp only[ZBs (ZBP h.ok),al_bind_some]
 simp (config:= {decide:=true})only[devW,remW,cueW,ZAd,ZAv,ZAb,ZAi,ZAl,ZAj,ZAw,ZAe,ZAs,ZAt,ZAm,ZAx,ZAn,ZAo,ZAp,dryW,if_true,if_false,al_cond_true,al_cond_false,decide_true,decide_false,ZAF,ZAH,al_bind_some]
 have e:G108 ((x.1,x.2.1,x.2.2.1,x.2.2.2.1,()),p,())=some ((ZBH x.shw p).1,(ZBH x.shw p).2,()):=(ZMJ x.shw h.ok.shw p).1
 simp only[rd0,show([p]:List Place)[Int.toNat 0]?=some p from rfl,al_bind_some,e]
 rfl
theorem ZYr:G48.1 (x,(ZAw,r,n,ps,()),())=some (ps,ZCw x (lmS x.ros x.bas x.shw),true,true,()):=by
 unfold G48 F48
 simp only[ZBs (ZBP h.ok),al_bind_some]
 simp (config:= {decide:=true})only[devW,remW,cueW,ZAd,ZAv,ZAb,ZAi,ZAl,ZAj,ZAw,ZAe,ZAs,ZAt,ZAm,ZAx,ZAn,ZAo,ZAp,dryW,if_true,if_false,al_cond_true,al_cond_false,decide_true,decide_false,ZAF,ZAH,al_bind_some]
 have e:G109 ((x.1,x.2.1,x.2.2.1,x.2.2.2.1,()),x.2.2.2.2.1,(⟨⟨x.2.2.2.2.2.1,x.2.2.2.2.2.2.1⟩,⟨x.2.2.2.2.2.2.2.1,x.2.2.2.2.2.2.2.2.1⟩⟩:Box),())=some (lmS x.ros x.bas x.shw,true,()):=(ZRT h).1
 rw[e];rfl
theorem ZYs(hp:ps.length<=1048576):G48.2 (x,(ZAb,r,n,ps,()),())=some (ps,(x.1,x.2.1,x.2.2.1,x.2.2.2.1,(),x.2.2.2.2.2),rosB ps,true,()):=by
 unfold G48 F48
 simp only[ZBs (ZBP h.ok),al_bind_some]
 simp (config:= {decide:=true})only[devW,remW,cueW,ZAd,ZAv,ZAb,ZAi,ZAl,ZAj,ZAw,ZAe,ZAs,ZAt,ZAm,ZAx,ZAn,ZAo,ZAp,dryW,if_true,if_false,al_cond_true,al_cond_false,decide_true,decide_false,ZAF,ZAH,al_bind_some]
 rw[ZHa ps hp];rfl
theorem ZDt{w:Str}(hw:w=ZAe\/w=ZAs\/w=ZAt\/w=ZAm\/w=ZAx\/w=ZAn\/w=ZAo\/w=ZAp\/w=dryW):G48.1 (x,(w,r,n,ps,()),())=some (ps,x,false,false,()):=by
 unfold G48 F48
 simp only[ZBs (ZBP h.ok),al_bind_some]
 rcases hw with rfl | rfl | rfl | rfl | rfl | rfl | rfl | rfl | rfl<;>simp (config:= {decide:=true})only[devW,remW,cueW,ZAd,ZAv,ZAb,ZAi,ZAl,ZAj,ZAw,ZAe,ZAs,ZAt,ZAm,ZAx,ZAn,ZAo,ZAp,dryW,if_true,if_false,al_cond_true,al_cond_false,decide_true,decide_false,ZAF,ZAH,al_bind_some]
end
section
variable {x:ZAQ} (h:DeskV x) {c:UInt8} {l:Str} (hc:c.toNat≠35)
include h hc
theorem ZRW{y:PT}(h47:G47 (c::l,())=some (y,false,())):G18 (x,c::l,())=some (x,ZBF,()):=by
 unfold G18 F18
 rw[ZFK x h.ok,ZGI h]
 simp only[al_bind_some,ZAF,ZAH,al_cond_true,rd0,h47,ZBs (ZBP h.ok)]
 rw[ZAG (by simp),ZAA (by simp only[ZAU];omega)]
 rfl
theorem ZDu{w r:Str}{n:Int}{ps ps':List Place}{y:ZAQ}{ok:Bool}(h47:G47 (c::l,())=some ((w,r,n,ps,()),true,()))(hw:w≠ZAb)(h48:G48.1 (x,(w,r,n,ps,()),())=some (ps',y,ok,true,())):
  G18 (x,c::l,())=some (if ok=true then(y,yesT,())else(x,noT2,())):=by
 unfold G18 F18
 rw[ZFK x h.ok,ZGI h]
 simp only[al_bind_some,ZAF,ZAH,al_cond_true,al_cond_false,rd0,h47,h48,ZBs (ZBP h.ok)]
 rw[ZAG (by simp),ZAA (by simp only[ZAU];omega),ZAA (show¬w=[114,111,115,101]from hw)]
 cases ok<;>rfl
theorem ZDv{w r:Str}{n:Int}{ps ps':List Place}{y:ZAQ}{ok:Bool}{t:Str}(h47:G47 (c::l,())=some ((w,r,n,ps,()),true,()))(hw:w≠ZAb)(h48:G48.1 (x,(w,r,n,ps,()),())=some (ps',y,ok,false,()))(h49:G49 (x,(w,r,n,ps',()),())=some (t,())):
  G18 (x,c::l,())=some (x,t,()):=by
 unfold G18 F18
 rw[ZFK x h.ok,ZGI h]
 simp only[al_bind_some,ZAF,ZAH,al_cond_true,al_cond_false,rd0,h47,h48,h49,ZBs (ZBP h.ok)]
 rw[ZAG (by simp),ZAA (by simp only[ZAU];omega),ZAA (show¬w=[114,111,115,101]from hw)]
 rfl
theorem ZYt{r:Str}{n:Int}{ps:List Place}(hp:ps.length<=1048576)(h47:G47 (c::l,())=some ((ZAb,r,n,ps,()),true,())):
  G18 (x,c::l,())=some (if rosB ps=true then(ZHb x ps,yesT,())else(x,noT2,())):=by
 have h48:=ZYs h r n ps hp
 unfold G18 F18
 rw[ZFK x h.ok,ZGI h]
 simp only[al_bind_some,ZAF,ZAH,al_cond_true,al_cond_false,rd0,h47,h48,ZBs (ZBP h.ok)]
 rw[ZAG (by simp),ZAA (by simp only[ZAU];omega),ZA (show ZAb=[114,111,115,101]from rfl)]
 cases rosB ps<;>rfl
end
theorem ZFL{r:Str}(h:(splC 32 r).length=1):splC 32 r=[r]:=by
 rcases ZE9 32 r with ⟨_,e⟩ | ⟨p,q,_,_,e2⟩
 ·exact e
 ·rw[e2]at h
  have:=List.length_pos_iff.mpr (ZCd 32 q)
  simp at h;exact absurd h (ZCd 32 q)
theorem ZHe{r:Str}(h:(splC 32 r).length=2):splC 32 r=[wAt (splC 32 r) 0,wAt (splC 32 r) 1]:=by
 generalize splC 32 r=l at h
 match l,h with
 | [a,b],_=>rfl
section
variable {p r:Str} (hl:(p++32::r).length<=1048576) (h: ∀x∈p,x≠32)
include hl h
theorem rd_n(hs:G97 (p,())=some ([110],true,()))(h1:(splC 32 r).length=1):G47 (p++32::r,())=some ((p,r,0,[],()),true,()):=by
 obtain⟨m,hm⟩:=ZBp 3 (by omega)
 rw[ZFJ hl h hs (by decide),al_if_pos (show(splC 32 r).length=([110]:Str).length from h1),ZFL h1,hm]
 refine(ZXy _ _ _ _ _ (m+1)).trans ?_
 rfl
theorem ZGJ{c:Str}(hs:G97 (p,())=some (c,true,()))(hc:c≠[]/\c≠[84]/\c≠[42])(h1:(splC 32 r).length≠c.length): ∃y:PT,G47 (p++32::r,())=some (y,false,()):=by
 rw[ZFJ hl h hs hc,al_if_neg h1]
 exact⟨_,rfl⟩
theorem rd_N(hs:G97 (p,())=some ([78],true,()))(h1:(splC 32 r).length=1):G47 (p++32::r,())=some ((p,r,(numP r).1,[],()),(numP r).2,()):=by
 obtain⟨m,hm⟩:=ZBp 3 (by omega)
 rw[ZFJ hl h hs (by decide),al_if_pos (show(splC 32 r).length=([78]:Str).length from h1),ZFL h1,hm]
 refine(ZXx _ _ _ _ _ (m+1)).trans ?_
 rw[ZGD r (rlen hl)]
 simp only[al_bind_some]
 cases (numP r).2<;>rfl
theorem rd_P(hs:G97 (p,())=some ([80],true,()))(h1:(splC 32 r).length=1):G47 (p++32::r,())=some ((p,r,0,[(ZAS r).1],()),(ZAS r).2,()):=by
 obtain⟨m,hm⟩:=ZBp 3 (by omega)
 rw[ZFJ hl h hs (by decide),al_if_pos (show(splC 32 r).length=([80]:Str).length from h1),ZFL h1,hm]
 refine(ZXz _ _ _ _ _ (m+1)).trans ?_
 rw[ZGE r (rlen hl)]
 simp only[al_bind_some]
 rw[ZAC]
 cases (ZAS r).2<;>rfl
theorem ZYu(hs:G97 (p,())=some ([78,80],true,()))(h1:(splC 32 r).length=2):
  if(numP (wAt (splC 32 r) 0)).2=true/\(ZAS (wAt (splC 32 r) 1)).2=true then G47 (p++32::r,())=some ((p,r,(numP (wAt (splC 32 r) 0)).1,[(ZAS (wAt (splC 32 r) 1)).1],()),true,())else∃y:PT,G47 (p++32::r,())=some (y,false,()):=by
 obtain⟨m,hm⟩:=ZBp 3 (by omega)
 have l0:(wAt (splC 32 r) 0).length<=1048576:=Nat.le_trans ZCu (rlen hl)
 have l1:(wAt (splC 32 r) 1).length<=1048576:=Nat.le_trans ZCu (rlen hl)
 have e:=ZHe h1
 rw[ZFJ hl h hs (by decide),al_if_pos (show(splC 32 r).length=([78,80]:Str).length from h1),hm]
 generalize wAt (splC 32 r) 0=a at e l0
 generalize wAt (splC 32 r) 1=b at e l1
 rw[e]
 have ep:=ZX0 ([],[],0,[],()) (p,r,0,[],()) true a b (λx4=>some (x4.2.2.2.1,true,())) m
 have ep':=ep
 simp only[ZGD a l0,ZGE b l1,al_bind_some]at ep'
 rw[ZAC]at ep'
 split
 ·rename_i hh
  refine ep'.trans ?_
  rw[hh.1,hh.2];rfl
 ·rename_i hh
  cases q1:(numP a).2 with
  | false=>rw[q1]at ep';exact⟨_,ep'⟩
  | true=>
   cases q2:(ZAS b).2 with
   | false=>rw[q1,q2]at ep';exact⟨_,ep'⟩
   | true=>exact absurd ⟨q1,q2⟩ hh
theorem ZYv(hs:G97 (p,())=some ([80,80],true,()))(h1:(splC 32 r).length=2):
  if(ZAS (wAt (splC 32 r) 0)).2=true/\(ZAS (wAt (splC 32 r) 1)).2=true then G47 (p++32::r,())=some ((p,r,0,[(ZAS (wAt (splC 32 r) 0)).1,(ZAS (wAt (splC 32 r) 1)).1],()),true,())else∃y:PT,G47 (p++32::r,())=some (y,false,()):=by
 obtain⟨m,hm⟩:=ZBp 3 (by omega)
 have l0:(wAt (splC 32 r) 0).length<=1048576:=Nat.le_trans ZCu (rlen hl)
 have l1:(wAt (splC 32 r) 1).length<=1048576:=Nat.le_trans ZCu (rlen hl)
 have e:=ZHe h1
 rw[ZFJ hl h hs (by decide),al_if_pos (show(splC 32 r).length=([80,80]:Str).length from h1),hm]
 generalize wAt (splC 32 r) 0=a at e l0
 generalize wAt (splC 32 r) 1=b at e l1
 rw[e]
 have ep:=ZX1 ([],[],0,[],()) (p,r,0,[],()) true a b (λx4=>some (x4.2.2.2.1,true,())) m
 have ep':=ep
 simp only[ZGE a l0,ZGE b l1,al_bind_some]at ep'
 rw[ZAC,ZAC]at ep'
 split
 ·rename_i hh
  refine ep'.trans ?_
  rw[hh.1,hh.2];rfl
 ·rename_i hh
  cases q1:(ZAS a).2 with
  | false=>rw[q1]at ep';exact⟨_,ep'⟩
  | true=>
   cases q2:(ZAS b).2 with
   | false=>rw[q1,q2]at ep';exact⟨_,ep'⟩
   | true=>exact absurd ⟨q1,q2⟩ hh
theorem ZYw(hs:G97 (p,())=some ([110,78],true,()))(h1:(splC 32 r).length=2):
  if(numP (wAt (splC 32 r) 1)).2=true then G47 (p++32::r,())=some ((p,wAt (splC 32 r) 0,(numP (wAt (splC 32 r) 1)).1,[],()),true,())else∃y:PT,G47 (p++32::r,())=some (y,false,()):=by
 obtain⟨m,hm⟩:=ZBp 3 (by omega)
 have l1:(wAt (splC 32 r) 1).length<=1048576:=Nat.le_trans ZCu (rlen hl)
 have e:=ZHe h1
 rw[ZFJ hl h hs (by decide),al_if_pos (show(splC 32 r).length=([110,78]:Str).length from h1),hm]
 generalize wAt (splC 32 r) 0=a at e
 generalize wAt (splC 32 r) 1=b at e l1
 rw[e]
 have ep':=ZX2 ([],[],0,[],()) (p,r,0,[],()) true a b (λx4=>some (x4.2.2.2.1,true,())) m
 simp only[ZGD b l1,al_bind_some]at ep'
 split
 ·rename_i hh
  refine ep'.trans ?_
  rw[hh];rfl
 ·rename_i hh
  have q1:(numP b).2=false:=by cases q:(numP b).2<;>simp_all
  rw[q1]at ep';exact⟨_,ep'⟩
end
end Ev
end
noncomputable section
namespace Ev
open Go
theorem ZRX(x:ZAQ){p r:Str}(h:p∉ZCv):ZA1 x p r=(x,ZBF):=by
 simp only[ZCv,List.mem_cons,List.mem_append,List.not_mem_nil,or_false,not_or]at h
 obtain⟨⟨⟨b1,b2,b3,b4⟩,b5⟩,b10,b11,b12,b13⟩:=h
 unfold ZA1
 rw[al_if_neg b1,al_if_neg b2,al_if_neg b3,al_if_neg b13,al_if_neg b4,al_if_neg b5,al_if_neg b10,al_if_neg b11,al_if_neg b12]
theorem ZYx(x:ZAQ){l:Str}(h:l∉ZDK):oneR x l=(x,ZBF):=by
 simp only[ZDK,List.mem_cons,List.not_mem_nil,or_false,not_or]at h
 obtain⟨a1,a2,a3,a4,a5,a6⟩:=h
 unfold oneR
 rw[al_if_neg a1,al_if_neg a2,al_if_neg a3,al_if_neg a4,al_if_neg a5,al_if_neg a6]
section
variable (x:ZAQ) (r:Str)
theorem ZRY:ZA1 x devW r=(if((devP r).2 && addB x.1 (devP r).1)=true then((addD x.1 (devP r).1,x.2),yesT)else(x,noT2)):=by
 rw[ZA1,al_if_pos rfl]
theorem ZRZ:ZA1 x cueW r=(if((cueP r).2 && ZBk x.2.1 (cueP r).1)=true then((x.1,ZCf x.2.1 (cueP r).1,x.2.2),yesT)else(x,noT2)):=by
 rw[ZA1,al_if_neg,al_if_pos rfl]
theorem ZMM:ZA1 x remW r=(if(splC 32 r).length=1 then(if remB x.1 r=true then((remD x.1 r,x.2),yesT)else(x,noT2))else(x,ZBF)):=by
 rw[ZA1,al_if_neg,al_if_neg,al_if_pos rfl]
theorem ZRa:ZA1 x ZAe r=(if(splC 32 r).length=2/\(numP (wAt (splC 32 r) 1)).2=true then(x,ZAR (lvl x.2.1 (wAt (splC 32 r) 0) (numP (wAt (splC 32 r) 1)).1))else(x,ZBF)):=by
 rw[ZA1,al_if_neg,al_if_neg,al_if_neg,al_if_pos rfl]
theorem ZRb:ZA1 x ZAd r=(if(splC 32 r).length=2/\(numP (wAt (splC 32 r) 0)).2=true/\(ZAS (wAt (splC 32 r) 1)).2=true then
  (if jnB x.2.2.1 (ZAS (wAt (splC 32 r) 1)).1 (numP (wAt (splC 32 r) 0)).1=true then((x.1,x.2.1,jnD x.2.2.1 (ZAS (wAt (splC 32 r) 1)).1 (numP (wAt (splC 32 r) 0)).1,x.2.2.2),yesT)else(x,noT2))else(x,ZBF)):=by
 rw[ZA1,al_if_neg,al_if_neg,al_if_neg,al_if_neg,al_if_pos rfl]
theorem ZRc{w:Str}(h:w∈ZBz):w≠devW/\w≠cueW/\w≠remW/\w≠ZAe/\w≠ZAd/\w≠ZAb:=by
 simp only[ZBz,List.mem_cons,List.not_mem_nil,or_false]at h
 rcases h with rfl | rfl | rfl | rfl | rfl<;>decide
theorem ZRd{w:Str}(h:w∈ZBz):ZA1 x w r=(if(splC 32 r).length=1/\(numP r).2=true then ZBr x w (numP r).1 else(x,ZBF)):=by
 obtain⟨h1,h2,h3,h4,h5,_⟩:=ZRc h
 rw[ZA1,al_if_neg h1,al_if_neg h2,al_if_neg h3,al_if_neg h4,al_if_neg h5,al_if_pos h]
theorem ZRe:ZA1 x ZAb r=(if ZAf (splC 32 r)=true then(if rosB (ZA4 (splC 32 r))=true then(ZHb x (ZA4 (splC 32 r)),yesT)else(x,noT2))else(x,ZBF)):=by
 rw[ZA1,al_if_neg,al_if_neg,al_if_neg,al_if_neg,al_if_neg,al_if_neg,al_if_pos rfl]
theorem ZRf:ZA1 x ZAi r=(if(splC 32 r).length=2/\ZAf (splC 32 r)=true then(if isBx ⟨(ZAS (wAt (splC 32 r) 0)).1,(ZAS (wAt (splC 32 r) 1)).1⟩=true then(ZHc x (ZAS (wAt (splC 32 r) 0)).1 (ZAS (wAt (splC 32 r) 1)).1,yesT)else(x,noT2))else(x,ZBF)):=by
 rw[ZA1,al_if_neg,al_if_neg,al_if_neg,al_if_neg,al_if_neg,al_if_neg,al_if_neg,al_if_pos rfl]
theorem ZRg:ZA1 x ZAj r=(if(splC 32 r).length=1/\ZAf (splC 32 r)=true then(if(ZBH x.shw (ZAS r).1).2=true then(ZCw x (ZBH x.shw (ZAS r).1).1,yesT)else(x,noT2))else(x,ZBF)):=by
 rw[ZA1,al_if_neg,al_if_neg,al_if_neg,al_if_neg,al_if_neg,al_if_neg,al_if_neg,al_if_neg,al_if_pos rfl]
end
section
variable {x:ZAQ} (h:DeskV x) {c:UInt8} {l:Str} (hc:c.toNat≠35) (hl:(c::l).length<=1048576)
include h hc hl
theorem ZYy(hn: ∀b∈c::l,b≠32):G18 (x,c::l,())=some ((oneR x (c::l)).1,(oneR x (c::l)).2,()):=by
 obtain⟨r1,r2⟩:=ZXs hl hn
 by_cases hm:c::l∈ZDK
 ·have h47:=r1 hm
  simp only[ZDK,List.mem_cons,List.not_mem_nil,or_false]at hm
  rcases hm with e | e | e | e | e | e
  ·have h48:=ZYr h [] 0 []
   rw[<-e]at h48
   exact(ZDu h hc h47 (by rw[e];decide) h48).trans (by rw[e];rfl)
  ·have h48:=ZDt h [] 0 [] (w:=ZAm) (by simp)
   have h49:=ZYd h [] 0 []
   rw[<-e]at h48 h49
   exact(ZDv h hc h47 (by rw[e];decide) h48 h49).trans (by rw[e];rfl)
  ·have h48:=ZDt h [] 0 [] (w:=ZAn) (by simp)
   have h49:=ZYf h [] 0 []
   rw[<-e]at h48 h49
   exact(ZDv h hc h47 (by rw[e];decide) h48 h49).trans (by rw[e];rfl)
  ·have h48:=ZDt h [] 0 [] (w:=ZAo) (by simp)
   have h49:=ZYg h [] 0 []
   rw[<-e]at h48 h49
   exact(ZDv h hc h47 (by rw[e];decide) h48 h49).trans (by rw[e];rfl)
  ·have h48:=ZDt h [] 0 [] (w:=ZAp) (by simp)
   have h49:=ZYh h [] 0 []
   rw[<-e]at h48 h49
   exact(ZDv h hc h47 (by rw[e];decide) h48 h49).trans (by rw[e];rfl)
  ·have h48:=ZDt h [] 0 [] (w:=dryW) (by simp)
   have h49:=ZYi h [] 0 []
   rw[<-e]at h48 h49
   exact(ZDv h hc h47 (by rw[e];decide) h48 h49).trans (by rw[e];rfl)
 ·obtain⟨y,hy⟩:=r2 hm
  rw[ZRW h hc hy,ZYx x hm]
theorem ZYz{p r:Str}(e:c::l=p++32::r)(hp: ∀b∈p,b≠32):G18 (x,c::l,())=some ((ZA1 x p r).1,(ZA1 x p r).2,()):=by
 have hl':(p++32::r).length<=1048576:=by rw[<-e];exact hl
 have hrl:=rlen hl'
 have bad: ∀ {z:Str} ,(∃y:PT,G47 (p++32::r,())=some (y,false,()))->G18 (x,c::l,())=some (x,ZBF,()):=by
  intro _ ⟨y,hy⟩
  rw[<-e]at hy
  exact ZRW h hc hy
 by_cases hm:p∈ZCv
 ·simp only[ZCv,List.mem_cons,List.mem_append,List.not_mem_nil,or_false]at hm
  rcases hm with (((rfl | rfl | rfl | rfl) | hn) | (rfl | rfl | rfl | rfl))
  ·have h47:=ZRF hl' hp (Or.inl rfl)
   rw[<-e]at h47
   refine(ZDu h hc h47 (by decide) (ZYj h r 0 [] hrl)).trans ?_
   rw[ZRY]
   cases (devP r).2
   ·rfl
   ·cases addB x.1 (devP r).1<;>rfl
  ·have h47:=ZRF hl' hp (Or.inr rfl)
   rw[<-e]at h47
   refine(ZDu h hc h47 (by decide) (ZYl h r 0 [] hrl)).trans ?_
   rw[ZRZ]
   cases (cueP r).2
   ·rfl
   ·cases ZBk x.2.1 (cueP r).1<;>rfl
  ·rw[ZMM]
   by_cases h1:(splC 32 r).length=1
   ·have h47:=rd_n hl' hp rfl h1
    rw[<-e]at h47
    refine(ZDu h hc h47 (by decide) (ZYk h r 0 [])).trans ?_
    rw[al_if_pos h1]
    cases remB x.1 r<;>rfl
   ·rw[al_if_neg h1]
    exact bad (z:=[]) (ZGJ hl' hp (c:=[110]) rfl (by decide) h1)
  ·rw[ZRb]
   by_cases h1:(splC 32 r).length=2
   ·have hh:=ZYu hl' hp rfl h1
    by_cases h2:(numP (wAt (splC 32 r) 0)).2=true/\(ZAS (wAt (splC 32 r) 1)).2=true
    ·rw[al_if_pos h2,<-e]at hh
     rw[al_if_pos ⟨h1,h2⟩]
     refine(ZDu h hc hh (by decide) (ZYm h r _ _)).trans ?_
     cases jnB x.2.2.1 (ZAS (wAt (splC 32 r) 1)).1 (numP (wAt (splC 32 r) 0)).1<;>rfl
    ·rw[al_if_neg h2]at hh
     rw[al_if_neg (λq=>h2 q.2)]
     exact bad (z:=[]) hh
   ·rw[al_if_neg (λq=>h1 q.1)]
    exact bad (z:=[]) (ZGJ hl' hp (c:=[78,80]) rfl (by decide) h1)
  ·have hn':p∈ZBz:=hn
   simp only[ZBz,List.mem_cons,List.not_mem_nil,or_false]at hn
   have hs:=ZXr hn'
   rw[ZRd x r hn']
   by_cases h1:(splC 32 r).length=1
   ·have h47:=rd_N hl' hp hs h1
    cases hb:(numP r).2 with
    | false=>
     rw[hb]at h47
     rw[al_if_neg (by simp)]
     exact bad (z:=[]) ⟨_,h47⟩
    | true=>
     rw[hb,<-e]at h47
     rw[al_if_pos ⟨h1,rfl⟩]
     rcases hn with rfl | rfl | rfl | rfl | rfl
     ·refine(ZDu h hc h47 (by decide) (ZYn h r _ [])).trans ?_
      rw[ZBr,al_if_pos rfl]
      by_cases h6:(numP r).1<=64
      ·rw[ZAL h6,al_if_pos h6];rfl
      ·rw[ZAG h6,al_if_neg h6];rfl
     ·refine(ZDu h hc h47 (by decide) (ZYp h r _ [])).trans ?_
      rw[show ZBr x ZAl (numP r).1=(ZCw x (ZCM x.shw (numP r).1),yesT)from by rw[ZBr,al_if_neg,al_if_pos rfl]];rfl
     ·refine(ZDv h hc h47 (by decide) (ZDt h r _ [] (by simp)) (ZYb h r _ [])).trans ?_
      rw[ZBr,al_if_neg,al_if_neg,al_if_pos rfl]
     ·refine(ZDv h hc h47 (by decide) (ZDt h r _ [] (by simp)) (ZYc h r _ [])).trans ?_
      rw[ZBr,al_if_neg,al_if_neg,al_if_neg,al_if_pos rfl]
     ·refine(ZDv h hc h47 (by decide) (ZDt h r _ [] (by simp)) (ZYe h r _ [])).trans ?_
      rw[ZBr,al_if_neg,al_if_neg,al_if_neg,al_if_neg]
   ·rw[al_if_neg (λq=>h1 q.1)]
    exact bad (z:=[]) (ZGJ hl' hp hs (by decide) h1)
  ·rw[ZRe]
   have hh:=ZXw hl' hp rfl
   cases hb:ZAf (splC 32 r)with
   | false=>
    rw[hb]at hh
    rw[al_if_neg (by simp)]
    exact bad (z:=[]) ⟨_,hh⟩
   | true=>
    rw[hb,al_if_pos rfl,<-e]at hh
    rw[al_if_pos rfl]
    have hlen:(ZA4 (splC 32 r)).length<=1048576:=by
     unfold ZA4
     rw[List.length_map]
     have:=ZF4 32 r
     simp at hl';omega
    refine(ZYt h hc hlen hh).trans ?_
    cases rosB (ZA4 (splC 32 r))<;>rfl
  ·rw[ZRf]
   by_cases h1:(splC 32 r).length=2
   ·have hh:=ZYv hl' hp rfl h1
    have e2:ZAf (splC 32 r)=true↔(ZAS (wAt (splC 32 r) 0)).2=true/\(ZAS (wAt (splC 32 r) 1)).2=true:=by
     rw[ZHe h1]
     unfold ZAf
     simp[wAt]
    by_cases h2:(ZAS (wAt (splC 32 r) 0)).2=true/\(ZAS (wAt (splC 32 r) 1)).2=true
    ·rw[al_if_pos h2,<-e]at hh
     rw[al_if_pos ⟨h1,e2.2 h2⟩]
     refine(ZDu h hc hh (by decide) (ZYo h r 0 _ _)).trans ?_
     cases isBx ⟨(ZAS (wAt (splC 32 r) 0)).1,(ZAS (wAt (splC 32 r) 1)).1⟩<;>rfl
    ·rw[al_if_neg h2]at hh
     rw[al_if_neg (λq=>h2 (e2.1 q.2))]
     exact bad (z:=[]) hh
   ·rw[al_if_neg (λq=>h1 q.1)]
    exact bad (z:=[]) (ZGJ hl' hp (c:=[80,80]) rfl (by decide) h1)
  ·rw[ZRg]
   by_cases h1:(splC 32 r).length=1
   ·have h47:=rd_P hl' hp rfl h1
    have e2:ZAf (splC 32 r)=(ZAS r).2:=by rw[ZFL h1];unfold ZAf;simp
    rw[e2]
    cases hb:(ZAS r).2 with
    | false=>
     rw[hb]at h47
     rw[al_if_neg (by simp)]
     exact bad (z:=[]) ⟨_,h47⟩
    | true=>
     rw[hb,<-e]at h47
     rw[al_if_pos ⟨h1,rfl⟩]
     refine(ZDu h hc h47 (by decide) (ZYq h r 0 _)).trans ?_
     cases (ZBH x.shw (ZAS r).1).2<;>rfl
   ·rw[al_if_neg (λq=>h1 q.1)]
    exact bad (z:=[]) (ZGJ hl' hp (c:=[80]) rfl (by decide) h1)
  ·rw[ZRa]
   by_cases h1:(splC 32 r).length=2
   ·have hh:=ZYw hl' hp rfl h1
    by_cases h2:(numP (wAt (splC 32 r) 1)).2=true
    ·rw[al_if_pos h2,<-e]at hh
     rw[al_if_pos ⟨h1,h2⟩]
     exact ZDv h hc hh (by decide) (ZDt h _ _ [] (by simp)) (ZYa h _ _ [])
    ·rw[al_if_neg h2]at hh
     rw[al_if_neg (λq=>h2 q.2)]
     exact bad (z:=[]) hh
   ·rw[al_if_neg (λq=>h1 q.1)]
    exact bad (z:=[]) (ZGJ hl' hp (c:=[110,78]) rfl (by decide) h1)
 ·rw[ZRX x hm]
  exact bad (z:=[]) (ZXv hl' hp hm)
theorem ZY0:G18 (x,c::l,())=some ((ZBc x (c::l)).1,(ZBc x (c::l)).2,()):=by
 rcases ZE9 32 (c::l)with ⟨hn,_⟩ | ⟨p,r,e,hp,_⟩
 ·rw[ZMK x hn]
  exact ZYy h hc hl hn
 ·rw[show ZBc x (c::l)=ZA1 x p r from by rw[e];exact ZML x hp]
  exact ZYz h hc hl e hp
end
end Ev
end
noncomputable section
namespace Ev
open Go
theorem ZFM(b:Bool):G247 (b,())=some (if b=true then yesT else noT2,()):=by cases b<;>rfl
theorem ZRh{l:List Device}{d:Device}(h:addB l d=false):addD l d=l:=by unfold addD;rw[h];rfl
theorem ZY1{l:List Device}{s:Str}(h:remB l s=false):remD l s=l:=by unfold remD;rw[h];rfl
theorem ZRi{l:List Cue}{x:Cue}(h:ZBk l x=false):ZCf l x=l:=by unfold ZCf;rw[h];rfl
theorem ZY2{r:Str}(h:(devP r).2=false):(devP r).1=ZD:=by
 unfold devP at h⊢
 split
 ·rename_i hh;rw[al_if_pos hh]at h;cases h
 ·rfl
theorem ZY3{r:Str}(h:(cueP r).2=false):(cueP r).1=ZC:=by
 unfold cueP at h⊢
 split
 ·rename_i hh;rw[al_if_pos hh]at h;cases h
 ·rfl
theorem ZRj(l:List Device):addB l ZD=false:=by
 unfold addB
 rw[show devB ZD=false from rfl];cases rigB l<;>rfl
theorem ZRk(l:List Cue):ZBk l ZC=false:=by
 unfold ZBk
 rw[show ZAz ZC=false from rfl];cases scB l<;>rfl
theorem ZRl{r:Str}(h:(numP r).2=true):(ZAS r).2=false:=by
 rcases ZLh r with ⟨e,_⟩ | ⟨p,hp,e,_⟩
 ·rw[e]
 ·rcases ZFA r with q | ⟨m,hm,e2,_⟩
  ·rw[q]at h;cases h
  ·exfalso
   obtain⟨c,t,e3,_⟩:=ZF9 hp
   have hx:(105:UInt8)∈Go.Lib.itoa m:=by
    rw[<-e2,e,e3];simp
   have:=ZF7 hm 105 hx
   exact absurd this (by decide)
section
variable {x:ZAQ} (h:DeskV x)
include h
theorem ZY4(r:Str)(hr:r.length<=1048576):G146 (x,devW,r,())=some ((ZA1 x devW r).1,(ZA1 x devW r).2,()):=by
 have hk:=ZRU r
 unfold G146 F146
 simp (config:= {decide:=true})only[devW,remW,cueW,ZAd,ZAv,ZAb,ZAi,ZAl,ZAj,ZAw,ZAe,ZAs,ZAt,ZAm,ZAx,ZAn,ZAo,ZAp,dryW,if_true,if_false,al_cond_true,al_cond_false,decide_true,decide_false,ZAF,ZAH,al_bind_some]
 have e:G167 (x.1,(devP r).1,())=some (addD x.1 (devP r).1,addB x.1 (devP r).1,()):=ZW2 x.1 h.ok.shw.rig h.ok.shw.devs (devP r).1 hk.1 hk.2
 simp only[ZWs r hr,al_bind_some,e,ZFM]
 rw[show([100,101,118,105,99,101]:Str)=devW from rfl,ZRY]
 cases hb:(devP r).2 with
 | false=>
  rw[ZY2 hb,ZRj,ZRh (ZRj _)];rfl
 | true=>
  cases ha:addB x.1 (devP r).1 with
  | false=>rw[ZRh ha];rfl
  | true=>rfl
theorem ZY5(r:Str)(hr:r.length<=1048576):G146 (x,cueW,r,())=some ((ZA1 x cueW r).1,(ZA1 x cueW r).2,()):=by
 unfold G146 F146
 simp (config:= {decide:=true})only[devW,remW,cueW,ZAd,ZAv,ZAb,ZAi,ZAl,ZAj,ZAw,ZAe,ZAs,ZAt,ZAm,ZAx,ZAn,ZAo,ZAp,dryW,if_true,if_false,al_cond_true,al_cond_false,decide_true,decide_false,ZAF,ZAH,al_bind_some]
 have e:G246 (x.2.1,(cueP r).1,())=some (ZCf x.2.1 (cueP r).1,ZBk x.2.1 (cueP r).1,()):=ZXA x.2.1 h.ok.shw.score h.ok.shw.names (cueP r).1 (ZRV r)
 simp only[ZWv r hr,al_bind_some,e,ZFM]
 rw[show([99,117,101]:Str)=cueW from rfl,ZRZ]
 cases hb:(cueP r).2 with
 | false=>
  rw[ZY3 hb,ZRk,ZRi (ZRk _)];rfl
 | true=>
  cases ha:ZBk x.2.1 (cueP r).1 with
  | false=>rw[ZRi ha];rfl
  | true=>rfl
theorem ZY6(r:Str)(h1:(splC 32 r).length=1):G146 (x,remW,r,())=some ((ZA1 x remW r).1,(ZA1 x remW r).2,()):=by
 unfold G146 F146
 simp (config:= {decide:=true})only[devW,remW,cueW,ZAd,ZAv,ZAb,ZAi,ZAl,ZAj,ZAw,ZAe,ZAs,ZAt,ZAm,ZAx,ZAn,ZAo,ZAp,dryW,if_true,if_false,al_cond_true,al_cond_false,decide_true,decide_false,ZAF,ZAH,al_bind_some]
 have e:G244 (x.1,r,())=some (remD x.1 r,remB x.1 r,()):=ZW6 x.1 h.ok.shw.rig h.ok.shw.devs r
 simp only[al_bind_some,e,ZFM]
 rw[show([114,101,109,111,118,101]:Str)=remW from rfl,ZMM,al_if_pos h1]
 cases ha:remB x.1 r with
 | false=>rw[ZY1 ha];rfl
 | true=>rfl
theorem ZY7(p:Place)(n:Int):G150 (x,n,p,())=some (if jnB x.2.2.1 p n=true then((x.1,x.2.1,jnD x.2.2.1 p n,x.2.2.2),yesT,())else(x,noT2,())):=by
 unfold G150 F150
 have e:G251 (x.2.2.1,[⟨0,⟨p.X,p.Y⟩⟩],n,())=some (jnD x.2.2.1 p n,jnB x.2.2.1 p n,()):=ZXH x.2.2.1 h.ok.shw.wind p n
 simp only[e,al_bind_some,ZFM]
 cases jnB x.2.2.1 p n<;>rfl
omit h in
theorem ZGK{w:Str}(n:Int)(hw:w∉ZBz):G151 (x,w,n,())=some (x,ZBF,()):=by
 simp only[ZBz,List.mem_cons,List.not_mem_nil,or_false,not_or]at hw
 obtain⟨h1,h2,h3,h4,h5⟩:=hw
 unfold G151 F151
 unfold ZAv at h1;unfold ZAl at h2;unfold ZAs at h3;unfold ZAt at h4;unfold ZAx at h5
 simp only[ZAG h1,ZAG h2,ZAG h3,ZAG h4,ZAG h5,al_cond_false]
 rfl
theorem ZY8{w:Str}(n:Int)(hw:w∈ZBz):G151 (x,w,n,())=some ((ZBr x w n).1,(ZBr x w n).2,()):=by
 simp only[ZBz,List.mem_cons,List.not_mem_nil,or_false]at hw
 unfold G151 F151
 rcases hw with rfl | rfl | rfl | rfl | rfl
 ·rw[ZBr,al_if_pos rfl]
  simp (config:= {decide:=true})only[devW,remW,cueW,ZAd,ZAv,ZAb,ZAi,ZAl,ZAj,ZAw,ZAe,ZAs,ZAt,ZAm,ZAx,ZAn,ZAo,ZAp,dryW,if_true,if_false,al_cond_true,al_cond_false,decide_true,decide_false,ZAF,ZAH,al_bind_some]
  by_cases h6:n<=64
  ·rw[ZAL h6,al_if_pos h6];rfl
  ·rw[ZAG h6,al_if_neg h6];rfl
 ·rw[show ZBr x ZAl n=(ZCw x (ZCM x.shw n),yesT)from by rw[ZBr,al_if_neg,al_if_pos rfl]]
  simp (config:= {decide:=true})only[devW,remW,cueW,ZAd,ZAv,ZAb,ZAi,ZAl,ZAj,ZAw,ZAe,ZAs,ZAt,ZAm,ZAx,ZAn,ZAo,ZAp,dryW,if_true,if_false,al_cond_true,al_cond_false,decide_true,decide_false,ZAF,ZAH,al_bind_some]
  have e:G252 ((x.1,x.2.1,x.2.2.1,x.2.2.2.1,()),n,())=some (ZCM x.shw n,()):=(ZMI x.shw h.ok.shw n).2.1
  rw[e];rfl
 ·rw[ZBr,al_if_neg,al_if_neg,al_if_pos rfl]
  simp (config:= {decide:=true})only[devW,remW,cueW,ZAd,ZAv,ZAb,ZAi,ZAl,ZAj,ZAw,ZAe,ZAs,ZAt,ZAm,ZAx,ZAn,ZAo,ZAp,dryW,if_true,if_false,al_cond_true,al_cond_false,decide_true,decide_false,ZAF,ZAH,al_bind_some]
  have e:G253 ((x.1,x.2.1,x.2.2.1,x.2.2.2.1,()),n,())=some (ZA0 x.shw n,()):=(ZRS h.shw n).2
  rw[e]
  simp only[al_bind_some]
  refine ZXq x _ x.shw rfl (λd hd=>ZBX (ZDJ (h.shw.rig.dev d hd)).nm) _ (ZEL _ _) (by rw[ZEL];exact h.shw.rig.len) (λv hv=> ?_) _ _ _ _ _ _ _ _ _
  obtain⟨i,hi⟩:=List.mem_iff_getElem?.mp hv
  have hlt:=(al_get_iff.mp hi).1
  rw[ZEL]at hlt
  rcases ZPt h.shw n hi (al_get_get hlt)with q | q<;>omega
 ·rw[ZBr,al_if_neg,al_if_neg,al_if_neg,al_if_pos rfl]
  simp (config:= {decide:=true})only[devW,remW,cueW,ZAd,ZAv,ZAb,ZAi,ZAl,ZAj,ZAw,ZAe,ZAs,ZAt,ZAm,ZAx,ZAn,ZAo,ZAp,dryW,if_true,if_false,al_cond_true,al_cond_false,decide_true,decide_false,ZAF,ZAH,al_bind_some]
  have e:G255 ((x.1,x.2.1,x.2.2.1,x.2.2.2.1,()),n,())=some (nowL x.shw n,()):=ZVn h.shw n
  rw[e]
  simp only[al_bind_some,ZR _ (ZP1 h.shw n) (ZRA h.shw n) true]
 ·rw[ZBr,al_if_neg,al_if_neg,al_if_neg,al_if_neg]
  simp (config:= {decide:=true})only[devW,remW,cueW,ZAd,ZAv,ZAb,ZAi,ZAl,ZAj,ZAw,ZAe,ZAs,ZAt,ZAm,ZAx,ZAn,ZAo,ZAp,dryW,if_true,if_false,al_cond_true,al_cond_false,decide_true,decide_false,ZAF,ZAH,al_bind_some]
  obtain⟨_,t1,t2,t3⟩:=ZRR h.shw n
  obtain⟨_,l1,l2,l3⟩:=ZRQ h.shw n
  have e1:G256 ((x.1,x.2.1,x.2.2.1,x.2.2.2.1,()),n,())=some (ZCy x.shw n,()):=t1
  have e2:G257 ((x.1,x.2.1,x.2.2.1,x.2.2.2.1,()),n,())=some (ZCx x.shw n,()):=l1
  have:=ZJR t2 t3;have:=ZJR l2 l3
  rw[e1,e2]
  simp only[al_bind_some,numS (n:=ZCy x.shw n) (by omega) (by omega),numS (n:=ZCx x.shw n) (by omega) (by omega),al_len_append,al_len_cons,al_len_nil]
  rw[ZAC,ZAC]
omit h in
theorem ZEa{w:Str}(l:List Place)(h1:w≠ZAb)(h2:w=ZAi->l.length≠2)(h3:w=ZAj->l.length≠1):G152 (x,w,l,())=some (x,ZBF,()):=by
 unfold G152 F152
 have e1: ¬w=[114,111,115,101]:=h1
 rw[ZAG e1]
 simp only[al_cond_false]
 by_cases hb:w=ZAi
 ·have e2:decide (Int.ofNat l.length=2)=false:=ZAG (by have:=h2 hb;simp only[ZAU];omega)
  subst hb
  simp only[e2]
  simp (config:= {decide:=true})only[devW,remW,cueW,ZAd,ZAv,ZAb,ZAi,ZAl,ZAj,ZAw,ZAe,ZAs,ZAt,ZAm,ZAx,ZAn,ZAo,ZAp,dryW,if_true,if_false,al_cond_true,al_cond_false,decide_true,decide_false,ZAF,ZAH,al_bind_some]
  rfl
 ·have e3:decide (w=[98,97,115,105,110])=false:=ZAG hb
  rw[e3]
  simp only[al_cond_false]
  by_cases hs:w=ZAj
  ·have e2:decide (Int.ofNat l.length=1)=false:=ZAG (by have:=h3 hs;simp only[ZAU];omega)
   rw[e2,ZAL (show w=[115,104,105,102,116]from hs)];rfl
  ·rw[ZAG (show¬w=[115,104,105,102,116]from hs)];rfl
omit h in
theorem ZY9(l:List Place)(hl:l.length<=1048576):G152 (x,ZAb,l,())=some (if rosB l=true then(ZHb x l,yesT,())else(x,noT2,())):=by
 unfold G152 F152
 simp (config:= {decide:=true})only[devW,remW,cueW,ZAd,ZAv,ZAb,ZAi,ZAl,ZAj,ZAw,ZAe,ZAs,ZAt,ZAm,ZAx,ZAn,ZAo,ZAp,dryW,if_true,if_false,al_cond_true,al_cond_false,decide_true,decide_false,ZAF,ZAH,al_bind_some]
 simp only[ZMG l hl,al_bind_some,ZFM]
 cases rosB l<;>rfl
omit h in
theorem ZZ(p q:Place):G152 (x,ZAi,[p,q],())=some (if isBx ⟨p,q⟩=true then(ZHc x p q,yesT,())else(x,noT2,())):=by
 unfold G152 F152
 simp (config:= {decide:=true})only[devW,remW,cueW,ZAd,ZAv,ZAb,ZAi,ZAl,ZAj,ZAw,ZAe,ZAs,ZAt,ZAm,ZAx,ZAn,ZAo,ZAp,dryW,if_true,if_false,al_cond_true,al_cond_false,decide_true,decide_false,ZAF,ZAH,al_bind_some]
 have e:G142 ((⟨⟨p.X,p.Y⟩,⟨q.X,q.Y⟩⟩:Box),())=some (isBx ⟨p,q⟩,()):=ZHL _
 have el:decide (Int.ofNat ([p,q]:List Place).length=2)=true:=rfl
 simp only[el,al_cond_true,rd0,rd1,al_bind_some,e,ZFM]
 cases isBx ⟨p,q⟩<;>rfl
theorem ZZA(p:Place):G152 (x,ZAj,[p],())=some (if(ZBH x.shw p).2=true then(ZCw x (ZBH x.shw p).1,yesT,())else(x,noT2,())):=by
 unfold G152 F152
 simp (config:= {decide:=true})only[devW,remW,cueW,ZAd,ZAv,ZAb,ZAi,ZAl,ZAj,ZAw,ZAe,ZAs,ZAt,ZAm,ZAx,ZAn,ZAo,ZAp,dryW,if_true,if_false,al_cond_true,al_cond_false,decide_true,decide_false,ZAF,ZAH,al_bind_some]
 have e:G258 ((x.1,x.2.1,x.2.2.1,x.2.2.2.1,()),p,())=some ((ZBH x.shw p).1,(ZBH x.shw p).2,()):=(ZMJ x.shw h.ok.shw p).2.1
 have el:decide (Int.ofNat ([p]:List Place).length=1)=true:=rfl
 simp only[el,al_cond_true,rd0,al_bind_some,e,ZFM]
 cases (ZBH x.shw p).2<;>rfl
theorem ZZB(w:Str){n:Int}(hn:0<=n):G148 (x.2.1,w,n,())=some (lvl x.2.1 w n,()):=by
 have hb:scB x.2.1=true:=h.shw.score
 unfold G148 F148
 simp only[ZLH x.2.1 h.ok.shw.names h.ok.shw.score,al_bind_some,hb,ZAF,ZAH,al_cond_true]
 have e:G249 (x.2.1,w,n,())=some (lvl x.2.1 w n,()):=ZPh h.ok.shw.names h.ok.shw.score hb w hn
 rw[ZAA,e];rfl
theorem ZZC(line:Str):G143 (x,line,())=some ((oneR x line).1,(oneR x line).2,()):=by
 unfold G143 F143 oneR
 by_cases h1:line=ZAw
 ·rw[al_if_pos h1,ZAL (show line=[108,105,109,105,116]from h1)]
  have e:G236 ((x.1,x.2.1,x.2.2.1,x.2.2.2.1,()),x.2.2.2.2.1,(⟨⟨x.2.2.2.2.2.1,x.2.2.2.2.2.2.1⟩,⟨x.2.2.2.2.2.2.2.1,x.2.2.2.2.2.2.2.2.1⟩⟩:Box),())=some (lmS x.ros x.bas x.shw,true,()):=(ZRT h).2
  rw[e];rfl
 rw[al_if_neg h1,ZAA (show¬line=[108,105,109,105,116]from h1)]
 by_cases h2:line=ZAm
 ·rw[al_if_pos h2,ZA (show line=[108,97,110,100,105,110,103,115]from h2)]
  have e:G238 ((x.1,x.2.1,x.2.2.1,x.2.2.2.1,()),())=some (ZDG x.shw,()):=ZP2 h.shw
  rw[e]
  simp only[al_bind_some,ZR _ (by rw[ZLT];exact ZBx h.shw) (ZRB h.shw) false]
 rw[al_if_neg h2,ZAA (show¬line=[108,97,110,100,105,110,103,115]from h2)]
 by_cases h3:line=ZAn
 ·rw[al_if_pos h3,ZA (show line=[104,105,103,104]from h3)]
  have e:G239 ((x.1,x.2.1,x.2.2.1,x.2.2.2.1,()),())=some (ZFI x.shw,()):=ZXQ h.shw
  rw[e]
  simp only[al_bind_some,fmS]
 rw[al_if_neg h3,ZAA (show¬line=[104,105,103,104]from h3)]
 by_cases h4:line=ZAo
 ·rw[al_if_pos h4,ZA (show line=[115,97,102,101]from h4)]
  have e:=ZXK x.shw h.ok.shw x.ros h.ok.ros x.bas (rosB x.ros) (ZMG _ h.ok.ros)
  have e:G240 ((x.1,x.2.1,x.2.2.1,x.2.2.2.1,()),x.2.2.2.2.1,(⟨⟨x.2.2.2.2.2.1,x.2.2.2.2.2.2.1⟩,⟨x.2.2.2.2.2.2.2.1,x.2.2.2.2.2.2.2.2.1⟩⟩:Box),())=some (ZEW x.shw x.ros (rosB x.ros) x.bas,()):=e
  rw[e];rfl
 rw[al_if_neg h4,ZAA (show¬line=[115,97,102,101]from h4)]
 by_cases h5:line=ZAp
 ·rw[al_if_pos h5,ZA (show line=[108,101,97,115,116]from h5)]
  have e:G241 ((x.1,x.2.1,x.2.2.1,x.2.2.2.1,()),x.2.2.2.2.1,())=some ((ZBS x.shw x.ros).1,(ZBS x.shw x.ros).2,()):=(ZRO x.shw h.ok.shw x.ros h.ok.ros).2
  rw[e]
  have:=ZCS (ZBS x.shw x.ros).1.Low
  have:=ZCS (ZBS x.shw x.ros).1.High
  simp only[al_bind_some,fpS,al_len_append,al_len_cons,al_len_nil]
  cases (ZBS x.shw x.ros).2
  ·rfl
  ·simp only[ZAF,al_cond_false,if_true]
   rw[ZAC,ZAC]
 rw[al_if_neg h5,ZAA (show¬line=[108,101,97,115,116]from h5)]
 by_cases h6:line=dryW
 ·rw[al_if_pos h6,ZA (show line=[100,114,121]from h6)]
  have e:G242 ((x.1,x.2.1,x.2.2.1,x.2.2.2.1,()),(⟨⟨x.2.2.2.2.2.1,x.2.2.2.2.2.2.1⟩,⟨x.2.2.2.2.2.2.2.1,x.2.2.2.2.2.2.2.2.1⟩⟩:Box),())=some (dryV x.shw x.bas,()):=(ZRP x.shw h.ok.shw x.bas).2
  rw[e]
  cases dryV x.shw x.bas<;>rfl
 rw[al_if_neg h6,ZAA (show¬line=[100,114,121]from h6)]
 rfl
end
end Ev
end
noncomputable section
namespace Ev
open Go
theorem ZZD{ws:List Str}(h:ws≠[])(p:Str):(p::ws)[ws.length]?=some (wAt ws (ws.length-1)):=by
 have:=List.length_pos_iff.mpr h
 rw[show ws.length=(ws.length-1)+1 by omega,List.getElem?_cons_succ,show ws.length-1+1-1=ws.length-1 by omega]
 exact ZBY (by omega)
abbrev OD:=ZAQ×Str×Unit
def doV(x:ZAQ)(p r:Str)(ws:List Str)(L:List Place):Option OD:=
 if p=devW\/p=cueW\/(p=remW/\ws.length=1)then G146 (x,p,r,())
 else if p=ZAe/\ws.length=2/\(numP (wAt ws 1)).2=true then(G148 (x.2.1,wAt ws 0,(numP (wAt ws 1)).1,())).bind λy=>(G147 (y.1,())).bind λz=>some (x,z.1,())
 else if p=ZAd/\ws.length=2/\(numP (wAt ws 0)).2=true then(if(ZAS (wAt ws 1)).2=true then G150 (x,(numP (wAt ws 0)).1,(ZAS (wAt ws 1)).1,())else some (x,ZBF,()))
 else if ws.length=1/\(numP (wAt ws 0)).2=true then G151 (x,p,(numP (wAt ws 0)).1,())
 else if ZAf ws=true then G152 (x,p,L,())else some (x,ZBF,())
theorem ZZE{α:Type}(o:Option α):(o.bind λx=>both (some x) (some x))=o:=by
 cases o with
 | none=>rfl
 | some x=>exact ZGx
theorem ZZF{α:Type}(o:Option α):(o.bind λx=>some x)=o:=by cases o<;>rfl
section
variable {x:ZAQ} {p r:Str} (hp: ∀b∈p,b≠32) (hl:(p++32::r).length<=1048576)
include hp hl
theorem ZZG: ∃L,(ZAf (splC 32 r)=true->L=ZA4 (splC 32 r))/\G65 (x,p++32::r,())=doV x p r (splC 32 r) L:=by
 have hrl:=rlen hl
 have hpl:p.length<=1048576:=by simp at hl;omega
 have hne:=ZCd 32 r
 have hpos:=List.length_pos_iff.mpr hne
 obtain⟨g1,g2⟩:=ZRE hl
 have w0:(wAt (splC 32 r) 0).length<=1048576:=Nat.le_trans ZCu hrl
 have w1:(wAt (splC 32 r) 1).length<=1048576:=Nat.le_trans ZCu hrl
 have wl:(wAt (splC 32 r) ((splC 32 r).length-1)).length<=1048576:=Nat.le_trans ZCu hrl
 obtain⟨L,hL,hL2⟩:=ZXu (splC 32 r) g1 g2
 refine⟨L,hL2,?_⟩
 have hla:=ZZD hne p
 have h1a:(p::splC 32 r)[1]?=some (wAt (splC 32 r) 0):=by
  rw[List.getElem?_cons_succ];exact ZBY hpos
 have hsp:G41 (p++32::r,[32],())=some (p::splC 32 r,()):=by rw[ZGC _ 32 hl,ZHP hp]
 have h2a:2<=(splC 32 r).length->(p::splC 32 r)[2]?=some (wAt (splC 32 r) 1):=λq=>by
  rw[List.getElem?_cons_succ];exact ZBY (by omega)
 have e2:(splC 32 r).length=2->wAt (splC 32 r) ((splC 32 r).length-1)=wAt (splC 32 r) 1:=λq=>by rw[q]
 unfold doV
 generalize splC 32 r=ws at*
 have hwl:w64 ((Int.ofNat (p::ws).length) -1)=((ws.length:Nat):Int):=by
  simp only[al_len_cons,ZAU]
  rw[ZAB];omega
 have hpl2:w64 ((Int.ofNat p.length)+1)=((p.length+1:Nat):Int):=ZAB (by simp only[ZAU];omega) (by simp only[ZAU];omega)
 have hdr:List.drop (Int.toNat ((p.length+1:Nat):Int)) (p++32::r)=r:=by
  rw[ZAX,List.drop_append];simp
 have htk:List.drop (Int.toNat 1) (List.take (p::ws).length (p::ws))=ws:=by rw[List.take_length];rfl
 unfold G65 F65
 simp only[hsp,al_bind_some,rd0]
 rw[ZAA (by simp only[al_len_cons,ZAU];omega)]
 simp only[hwl,hpl2,ZAX]
 have t0:(p::ws)[Int.toNat 0]?=some p:=rfl
 have t1:(p::ws)[Int.toNat 1]?=some (wAt ws 0):=h1a
 have t2: ∀ {R:Type} {K:Str->Option R},rdL (p::ws) 1 K=K (wAt ws 0):=λ{R K} =>ZAE (i:=1) h1a
 simp only[t0,al_bind_some,ZAE hla,hla,t1,t2,hpl2,hdr]
 rw[ZBB ⟨by omega,by show((p.length+1:Nat):Int)<=((p++32::r).length:Nat);rw[al_len_append,al_len_cons];omega⟩,ZFD _ wl]
 simp only[al_bind_some]
 rw[ZFD _ w0]
 simp only[al_bind_some]
 rw[ZBB ⟨by decide,by simp only[al_len_cons];omega⟩]
 have k2:decide (Int.ofNat (p::ws).length=2)=decide (ws.length=1):=by rw[Bool.eq_iff_iff,ZAZ,ZAZ];simp only[al_len_cons,ZAU];omega
 have k3:decide (Int.ofNat (p::ws).length=3)=decide (ws.length=2):=by rw[Bool.eq_iff_iff,ZAZ,ZAZ];simp only[al_len_cons,ZAU];omega
 have kp:(ZAf ws && decide (0<ws.length))=ZAf ws:=by rw[ZAL hpos,Bool.and_true]
 simp only[show(Int.toNat 1)=1 from rfl,List.take_length,List.drop_succ_cons,List.drop_zero,hL,al_bind_some,ZZE,ZZF,k2,k3,kp]
 have kend:(bif ZAf ws then G152 (x,p,L,())else some (x,[119,104,97,116],()))=(if ZAf ws=true then G152 (x,p,L,())else some (x,ZBF,())):=by cases ZAf ws<;>rfl
 simp only[kend]
 generalize (if ZAf ws=true then G152 (x,p,L,())else some (x,ZBF,()))=M
 by_cases hd:p=devW
 ·rw[al_if_pos (Or.inl hd)]
  simp only[ZAL (show p=[100,101,118,105,99,101]from hd),al_cond_true]
 by_cases hc:p=cueW
 ·rw[al_if_pos (Or.inr (Or.inl hc))]
  simp only[ZAG (show¬p=[100,101,118,105,99,101]from hd),ZAL (show p=[99,117,101]from hc),al_cond_true,al_cond_false]
 simp only[ZAG (show¬p=[100,101,118,105,99,101]from hd),ZAG (show¬p=[99,117,101]from hc),al_cond_false]
 have tl: ∀ {R:Type} {K:Str->Option R},ws.length=2->rdL (p::ws) 2 K=K (wAt ws 1):=λ{R K} q=>ZAE (i:=2) (h2a (by omega))
 have pl: ∀K:Place×Bool×Unit->Option OD,((G149 (wAt ws 1,())).bind K)=K ((ZAS (wAt ws 1)).1,(ZAS (wAt ws 1)).2,()):=λK=>by rw[ZLt _ w1];rfl
 by_cases hr:p=remW
 ·have f1: ¬p=ZAe:=by rw[hr];decide
  have f2: ¬p=ZAd:=by rw[hr];decide
  simp only[ZAL (show p=[114,101,109,111,118,101]from hr),ZAG (show¬p=[108,101,118,101,108]from f1),ZAG (show¬p=[103,117,115,116]from f2),al_cond_true,al_cond_false]
  by_cases h1:ws.length=1
  ·rw[al_if_pos (Or.inr (Or.inr ⟨hr,h1⟩)),ZAL h1];rfl
  ·rw[al_if_neg (by rintro (q | q | q);exact hd q;exact hc q;exact h1 q.2),al_if_neg (λq=>f1 q.1),al_if_neg (λq=>f2 q.1),al_if_neg (λq=>h1 q.1),ZAG h1]
   rfl
 rw[al_if_neg (by rintro (q | q | q);exact hd q;exact hc q;exact hr q.1)]
 simp only[ZAG (show¬p=[114,101,109,111,118,101]from hr),al_cond_false]
 by_cases hle:p=ZAe
 ·have f2: ¬p=ZAd:=by rw[hle];decide
  simp only[ZAL (show p=[108,101,118,101,108]from hle),ZAG (show¬p=[103,117,115,116]from f2),al_cond_true,al_cond_false]
  rw[al_if_neg (c:=p=ZAd/\_) (λq=>f2 q.1)]
  by_cases h2:ws.length=2
  ·rw[e2 h2]
   simp only[ZAL h2,ZAG (show¬ws.length=1 by omega),al_cond_true,al_cond_false]
   cases hn:(numP (wAt ws 1)).2 with
   | true=>rw[al_if_pos ⟨hle,h2,rfl⟩];rfl
   | false=>rw[al_if_neg (by simp),al_if_neg];rfl
  ·simp only[ZAG h2,al_cond_false]
   rw[al_if_neg (λq=>h2 q.2.1)]
   by_cases h1:ws.length=1
   ·simp only[ZAL h1,al_cond_true]
    cases hn:(numP (wAt ws 0)).2 with
    | true=>rw[al_if_pos ⟨h1,rfl⟩];rfl
    | false=>rw[al_if_neg (by simp)];rfl
   ·simp only[ZAG h1,al_cond_false]
    rw[al_if_neg (λq=>h1 q.1)]
 rw[al_if_neg (λq=>hle q.1)]
 simp only[ZAG (show¬p=[108,101,118,101,108]from hle),al_cond_false]
 by_cases hg:p=ZAd
 ·simp only[ZAL (show p=[103,117,115,116]from hg),al_cond_true]
  by_cases h2:ws.length=2
  ·simp only[ZAL h2,ZAG (show¬ws.length=1 by omega),al_cond_true,al_cond_false,tl h2,pl]
   cases hn:(numP (wAt ws 0)).2 with
   | true=>
    rw[al_if_pos ⟨hg,h2,rfl⟩]
    cases (ZAS (wAt ws 1)).2<;>rfl
   | false=>rw[al_if_neg (by simp),al_if_neg];rfl
  ·simp only[ZAG h2,al_cond_false]
   rw[al_if_neg (λq=>h2 q.2.1)]
   by_cases h1:ws.length=1
   ·simp only[ZAL h1,al_cond_true]
    cases hn:(numP (wAt ws 0)).2 with
    | true=>rw[al_if_pos ⟨h1,rfl⟩];rfl
    | false=>rw[al_if_neg (by simp)];rfl
   ·simp only[ZAG h1,al_cond_false]
    rw[al_if_neg (λq=>h1 q.1)]
 rw[al_if_neg (λq=>hg q.1)]
 simp only[ZAG (show¬p=[103,117,115,116]from hg),al_cond_false]
 by_cases h1:ws.length=1
 ·simp only[ZAL h1,al_cond_true]
  cases hn:(numP (wAt ws 0)).2 with
  | true=>rw[al_if_pos ⟨h1,rfl⟩];rfl
  | false=>rw[al_if_neg (by simp)];rfl
 ·simp only[ZAG h1,al_cond_false]
  rw[al_if_neg (λq=>h1 q.1)]
end
end Ev
end
noncomputable section
namespace Ev
open Go
section
variable {x:ZAQ} (h:DeskV x) {p r:Str} (hr:r.length<=1048576)
include h hr
theorem ZZH{L:List Place}(hL:ZAf (splC 32 r)=true->L=ZA4 (splC 32 r))(hws:(splC 32 r).length<=1048576):doV x p r (splC 32 r) L=some ((ZA1 x p r).1,(ZA1 x p r).2,()):=by
 unfold doV
 have hn1:(splC 32 r).length=1->wAt (splC 32 r) 0=r:=λq=>by rw[ZFL q];rfl
 have hL1:(splC 32 r).length=1->ZAf (splC 32 r)=true->L=[(ZAS r).1]:=λq b=>by rw[hL b,ZFL q];rfl
 have hb1:(splC 32 r).length=1->ZAf (splC 32 r)=(ZAS r).2:=λq=>by rw[ZFL q];unfold ZAf;simp
 have hL2:(splC 32 r).length=2->ZAf (splC 32 r)=true->L=[(ZAS (wAt (splC 32 r) 0)).1,(ZAS (wAt (splC 32 r) 1)).1]:=λq b=>by rw[hL b,ZHe q];rfl
 have hLl:ZAf (splC 32 r)=true->L.length=(splC 32 r).length:=λb=>by rw[hL b];unfold ZA4;simp
 by_cases hm:p∈ZCv
 ·simp only[ZCv,List.mem_cons,List.mem_append,List.not_mem_nil,or_false]at hm
  rcases hm with (((rfl | rfl | rfl | rfl) | hn) | (rfl | rfl | rfl | rfl))
  ·rw[al_if_pos (Or.inl rfl)];exact ZY4 h r hr
  ·rw[al_if_pos (Or.inr (Or.inl rfl))];exact ZY5 h r hr
  ·by_cases h1:(splC 32 r).length=1
   ·rw[al_if_pos (Or.inr (Or.inr ⟨rfl,h1⟩))];exact ZY6 h r h1
   ·rw[al_if_neg (by rintro (q | q | q);exact absurd q (by decide);exact absurd q (by decide);exact h1 q.2),al_if_neg (λq=>absurd q.1 (by decide)),al_if_neg (λq=>absurd q.1 (by decide)),al_if_neg (λq=>h1 q.1),ZMM,al_if_neg h1,ZEa L (by decide) (λq=>absurd q (by decide)) (λq=>absurd q (by decide))]
    split<;>rfl
  ·rw[al_if_neg (by rintro (q | q | q);exact absurd q (by decide);exact absurd q (by decide);exact absurd q.1 (by decide)),al_if_neg (λq=>absurd q.1 (by decide)),ZRb]
   by_cases h2:(splC 32 r).length=2
   ·by_cases n0:(numP (wAt (splC 32 r) 0)).2=true
    ·rw[al_if_pos ⟨rfl,h2,n0⟩]
     by_cases p1:(ZAS (wAt (splC 32 r) 1)).2=true
     ·rw[al_if_pos p1,al_if_pos ⟨h2,n0,p1⟩,ZY7 h]
      split<;>rfl
     ·rw[al_if_neg p1,al_if_neg (λq=>p1 q.2.2)]
    ·rw[ZEa L (by decide) (λq=>absurd q (by decide)) (λq=>absurd q (by decide)),ite_self,al_if_neg (λq=>n0 q.2.2),al_if_neg (λq=>by omega),al_if_neg (λq=>n0 q.2.1)]
   ·rw[al_if_neg (λq=>h2 q.2.1),al_if_neg (c:=(splC 32 r).length=2/\_) (λq=>h2 q.1),ZEa L (by decide) (λq=>absurd q (by decide)) (λq=>absurd q (by decide)),ZGK _ (by decide)]
    split
    ·rfl
    ·split<;>rfl
  ·have hn':p∈ZBz:=hn
   obtain⟨q1,q2,q3,q4,q5,q6⟩:=ZRc hn'
   have q7:p≠ZAi/\p≠ZAj:=by
    simp only[ZBz,List.mem_cons,List.not_mem_nil,or_false]at hn
    rcases hn with rfl | rfl | rfl | rfl | rfl<;>decide
   rw[al_if_neg (by rintro (q | q | q);exact q1 q;exact q2 q;exact q3 q.1),al_if_neg (λq=>q4 q.1),al_if_neg (λq=>q5 q.1),ZRd x r hn',ZEa L q6 (λq=>absurd q q7.1) (λq=>absurd q q7.2),ite_self]
   by_cases h1:(splC 32 r).length=1
   ·rw[hn1 h1]
    by_cases n0:(numP r).2=true
    ·rw[al_if_pos ⟨h1,n0⟩,al_if_pos ⟨h1,n0⟩];exact ZY8 h _ hn'
    ·rw[al_if_neg (λq=>n0 q.2),al_if_neg (λq=>n0 q.2)]
   ·rw[al_if_neg (λq=>h1 q.1),al_if_neg (λq=>h1 q.1)]
  ·rw[al_if_neg (by rintro (q | q | q);exact absurd q (by decide);exact absurd q (by decide);exact absurd q.1 (by decide)),al_if_neg (λq=>absurd q.1 (by decide)),al_if_neg (λq=>absurd q.1 (by decide)),ZRe,ZGK _ (by decide)]
   by_cases h1:(splC 32 r).length=1/\(numP (wAt (splC 32 r) 0)).2=true
   ·rw[al_if_pos h1]
    have hnr:(numP r).2=true:=by rw[<-hn1 h1.1];exact h1.2
    rw[hb1 h1.1,ZRl hnr];rfl
   ·rw[al_if_neg h1]
    by_cases b:ZAf (splC 32 r)=true
    ·rw[al_if_pos b,al_if_pos b,hL b,ZY9 _ (by unfold ZA4;rw[List.length_map];exact hws)]
     split<;>rfl
    ·rw[al_if_neg b,al_if_neg b]
  ·rw[al_if_neg (by rintro (q | q | q);exact absurd q (by decide);exact absurd q (by decide);exact absurd q.1 (by decide)),al_if_neg (λq=>absurd q.1 (by decide)),al_if_neg (λq=>absurd q.1 (by decide)),ZRf,ZGK _ (by decide)]
   by_cases h2:(splC 32 r).length=2
   ·rw[al_if_neg (λq=>by omega)]
    by_cases b:ZAf (splC 32 r)=true
    ·rw[al_if_pos b,al_if_pos ⟨h2,b⟩,hL2 h2 b,ZZ]
     split<;>rfl
    ·rw[al_if_neg b,al_if_neg (λq=>b q.2)]
   ·rw[al_if_neg (c:=(splC 32 r).length=2/\_) (λq=>h2 q.1)]
    split
    ·rfl
    ·by_cases b:ZAf (splC 32 r)=true
     ·rw[al_if_pos b,ZEa L (by decide) (λ_=>by rw[hLl b];exact h2) (λq=>absurd q (by decide))]
     ·rw[al_if_neg b]
  ·rw[al_if_neg (by rintro (q | q | q);exact absurd q (by decide);exact absurd q (by decide);exact absurd q.1 (by decide)),al_if_neg (λq=>absurd q.1 (by decide)),al_if_neg (λq=>absurd q.1 (by decide)),ZRg,ZGK _ (by decide)]
   by_cases h1:(splC 32 r).length=1
   ·by_cases n0:(numP r).2=true
    ·rw[al_if_pos ⟨h1,by rw[hn1 h1];exact n0⟩,al_if_neg (λq=>by have:=q.2;rw[hb1 h1,ZRl n0]at this;cases this)]
    ·rw[al_if_neg (λq=>n0 (by have:=q.2;rw[hn1 h1]at this;exact this))]
     by_cases b:ZAf (splC 32 r)=true
     ·rw[al_if_pos b,al_if_pos ⟨h1,b⟩,hL1 h1 b,ZZA h]
      split<;>rfl
     ·rw[al_if_neg b,al_if_neg (λq=>b q.2)]
   ·rw[al_if_neg (c:=(splC 32 r).length=1/\(numP _).2=true) (λq=>h1 q.1),al_if_neg (c:=(splC 32 r).length=1/\_) (λq=>h1 q.1)]
    by_cases b:ZAf (splC 32 r)=true
    ·rw[al_if_pos b,ZEa L (by decide) (λq=>absurd q (by decide)) (λ_=>by rw[hLl b];exact h1)]
    ·rw[al_if_neg b]
  ·rw[al_if_neg (by rintro (q | q | q);exact absurd q (by decide);exact absurd q (by decide);exact absurd q.1 (by decide)),ZRa]
   by_cases h2:(splC 32 r).length=2/\(numP (wAt (splC 32 r) 1)).2=true
   ·rw[al_if_pos ⟨rfl,h2⟩,al_if_pos h2]
    have hn:0<=(numP (wAt (splC 32 r) 1)).1:=by
     rcases ZFA (wAt (splC 32 r) 1)with q | ⟨m,_,_,q⟩<;>rw[q]<;>simp
    rw[ZZB h _ hn]
    simp only[al_bind_some,fmS]
   ·rw[al_if_neg (λq=>h2 q.2),al_if_neg (c:=ZAe=ZAd/\_) (λq=>absurd q.1 (by decide)),al_if_neg h2,ZGK _ (by decide),ZEa L (by decide) (λq=>absurd q (by decide)) (λq=>absurd q (by decide))]
    split
    ·rfl
    ·split<;>rfl
 ·have hm':=hm
  simp only[ZCv,List.mem_cons,List.mem_append,List.not_mem_nil,or_false,not_or]at hm'
  obtain⟨⟨⟨b1,b2,b3,b4⟩,b5⟩,b10,b11,b12,b13⟩:=hm'
  rw[ZRX x hm,al_if_neg (by rintro (q | q | q);exact b1 q;exact b2 q;exact b3 q.1),al_if_neg (λq=>b13 q.1),al_if_neg (λq=>b4 q.1),ZGK _ b5,ZEa L b10 (λq=>absurd q b11) (λq=>absurd q b12)]
  split
  ·rfl
  ·split<;>rfl
end
theorem ZZI{x:ZAQ}(h:DeskV x){line:Str}(hl:line.length<=1048576):G65 (x,line,())=some ((ZBc x line).1,(ZBc x line).2,()):=by
 rcases ZE9 32 line with ⟨hn,e⟩ | ⟨p,r,e,hp,e2⟩
 ·rw[ZMK x hn]
  unfold G65 F65
  simp only[ZGC line 32 hl,e,al_bind_some]
  rw[ZA (by rfl),ZZC h line]
  rfl
 ·subst e
  rw[ZML x hp]
  obtain⟨L,hL,he⟩:=ZZG hp hl (x:=x)
  rw[he]
  refine ZZH h (rlen hl) hL ?_
  have:=ZF4 32 r
  simp at hl;omega
theorem ZZJ(x:ZAQ)(line:Str)(hn:(ZBc x line).2=noT2):(ZBc x line).1=x:=by
 have hy:yesT≠noT2:=by decide
 have key: ∀(c:Prop) [Decidable c] (a b:ZAQ×Str),(a.2=noT2->a.1=x)->(b.2=noT2->b.1=x)->(if c then a else b).2=noT2->(if c then a else b).1=x:=by
  intro c _ a b h1 h2 h3
  by_cases hc:c
  ·rw[al_if_pos hc]at h3⊢;exact h1 h3
  ·rw[al_if_neg hc]at h3⊢;exact h2 h3
 have ky: ∀y:ZAQ,((y,yesT):ZAQ×Str).2=noT2->y=x:=λy q=>absurd q hy
 have kx: ∀t:Str,((x,t):ZAQ×Str).2=noT2->x=x:=λ_ _=>rfl
 revert hn
 unfold ZBc
 apply key
 ·unfold oneR
  refine key _ _ _ (ky _) ?_
  refine key _ _ _ (kx _) ?_
  refine key _ _ _ (kx _) ?_
  refine key _ _ _ (kx _) ?_
  refine key _ _ _ (kx _) ?_
  refine key _ _ _ (kx _) (kx _)
 ·unfold ZA1
  refine key _ _ _ (key _ _ _ (ky _) (kx _)) ?_
  refine key _ _ _ (key _ _ _ (ky _) (kx _)) ?_
  refine key _ _ _ (key _ _ _ (key _ _ _ (ky _) (kx _)) (kx _)) ?_
  refine key _ _ _ (key _ _ _ (kx _) (kx _)) ?_
  refine key _ _ _ (key _ _ _ (key _ _ _ (ky _) (kx _)) (kx _)) ?_
  refine key _ _ _ (key _ _ _ ?_ (kx _)) ?_
  ·unfold ZBr
   refine key _ _ _ (key _ _ _ (ky _) (kx _)) ?_
   refine key _ _ _ (ky _) ?_
   refine key _ _ _ (kx _) ?_
   refine key _ _ _ (kx _) (kx _)
  refine key _ _ _ (key _ _ _ (key _ _ _ (ky _) (kx _)) (kx _)) ?_
  refine key _ _ _ (key _ _ _ (key _ _ _ (ky _) (kx _)) (kx _)) ?_
  refine key _ _ _ (key _ _ _ (key _ _ _ (ky _) (kx _)) (kx _)) (kx _)
theorem ZZK{x:ZAQ}(h:DeskV x){c:UInt8}{l:Str}(hc:c.toNat≠35)(hl:(c::l).length<=1048576)(hz:DeskZ (ZBc x (c::l)).1):G28 (x,c::l,())=some ((ZBc x (c::l)).1,(ZBc x (c::l)).2,()):=by
 unfold G28 F28
 simp only[ZHd (ZBP h.ok),al_bind_some,ZJP x h.ok,ZGI h,ZAF,ZAH,al_cond_true,rd0,ZZI h hl,ZHd hz]
 rw[ZAG (show¬(c::l=[])by simp),ZAA (by simp only[ZAU];omega)]
 simp only[ZAH,al_cond_true]
 by_cases hn:(ZBc x (c::l)).2=noT2
 ·rw[ZA (show(ZBc x (c::l)).2=[110,111]from hn)]
  have e:=ZZJ x (c::l) hn
  rw[e]
  by_cases q:c::l=[100,114,121]
  ·rw[ZAL q];rfl
  ·rw[ZAG q];rfl
 ·rw[ZAA (show¬(ZBc x (c::l)).2=[110,111]from hn)]
end Ev
end
noncomputable section
namespace Ev
open Go
def ZRm{s:ZAN}(h:ShowV s):G50 (s,())=some (true,()):=by rw[ZDE s h.ok,ZE3 h]
def ZZL{l:List Device}(h:RigP l)(n:Int):G205 (l,n,())=some (l.map (mvD n),()):=by
 have hlen:=h.len
 have hR:G118 (l,())=some (true,()):=by rw[ZDV l (by omega) (ZGG h),(ZDW l).2 h]
 have tI: ∀p,G220 (p,n,())=some (rotN (q4 n) p,()):=λp=>ZHA p n
 have hI: ∀x,G292 (x,n,())=some (hd4 x n,()):=λx=>thI x n
 unfold G205 F205
 simp only[hR,al_bind_some,ZAF,al_cond_false]
 have run:=ZAW (f:=s205_0 G118 G220 G292) (K:=λt6=>some (t6.2.1,())) (λi=>(n,(l.take i).map (mvD n),l,Int.ofNat l.length,(i:Int),())) l.length (by omega)
  (by
   intro i hi rec K
   have hx:l[i]?=some l[i]:=by simp
   have e1:w64 ((i:Int)+1)=((i+1:Nat):Int):=ZAB
   have hcap:((l.take i).map (mvD n)).length+1<=1099511627776:=by simp;omega
   rw[<-ZDk (mvD n) l i hi]
   simp only[s205_0]
   rw[ZA,ZAE hx]
   simp only[tI,hI,al_bind_some]
   by_cases k2:l[i].Kind=2
   ·rw[ZA k2,ZAC (by simpa using hcap),e1]
    unfold mvD;rw[al_if_pos k2]
   ·rw[ZAA k2,ZAC (by simpa using hcap),e1]
    unfold mvD;rw[al_if_neg k2])
  (by
   intro rec K
   simp only[s205_0]
   rw[ZAA])
 rw[List.take_length]at run
 exact run
def ZZM{l:List Gust}(h:WindP l)(n:Int):G206 (l,n,())=some (l.map (mvG n),()):=by
 have hlen:=h.len
 have hW:G120 (l,())=some (true,()):=by rw[ZE2 l (by omega),(ZFF (by omega)).2 h]
 have tI: ∀p,G220 (p,n,())=some (rotN (q4 n) p,()):=λp=>ZHA p n
 unfold G206 F206
 simp only[hW,al_bind_some,ZAF,al_cond_false]
 have run:=ZAW (f:=s206_0 G120 G220) (K:=λt5=>some (t5.2.1,())) (λi=>(n,(l.take i).map (mvG n),l,Int.ofNat l.length,(i:Int),())) l.length (by omega)
  (by
   intro i hi rec K
   have hx:l[i]?=some l[i]:=by simp
   have e1:w64 ((i:Int)+1)=((i+1:Nat):Int):=ZAB
   have hcap:((l.take i).map (mvG n)).length+1<=1099511627776:=by simp;omega
   rw[<-ZDk (mvG n) l i hi]
   simp only[s206_0]
   rw[ZA,ZAE hx]
   simp only[tI,al_bind_some]
   rw[ZAC (by simpa using hcap),e1]
   rfl)
  (by
   intro rec K
   simp only[s206_0]
   rw[ZAA])
 rw[List.take_length]at run
 exact run
def ZZN{s:ZAN}(h:ShowV s)(n:Int):G107 (s,n,())=some (mvS n s,()):=by
 have c2:G185 (s.2.1,())=some (s.2.1,()):=ZIh s.2.1 h.ok.score
 unfold G107 F107
 simp only[ZBC,ZRm h,ZZL h.rig n,c2,ZZM (ZEV h) n,al_bind_some,ZAF,al_cond_false]
 rfl
end Ev
end
