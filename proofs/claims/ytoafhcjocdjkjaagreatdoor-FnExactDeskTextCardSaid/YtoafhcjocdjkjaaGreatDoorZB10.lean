/- Laid together by program (what the claim does not reach is left out): BaseB, DropA. -/
import Derived.Test.YtoafhcjocdjkjaaGreatDoorZB09
set_option linter.all false
set_option maxRecDepth 100000
open Go.Proofs.Tryz
noncomputable section
namespace Ev
open Go
def devB(d:Device):Bool:=isNm d.Name && (if d.Kind=1 then decide (d.Line=[]) && (decide (d.At.X=0) && (decide (d.At.Y=0) && (decide (d.Heading=0) && (decide (d.Tilt=0) && wi d.Most 0 512))))
 else if d.Kind=2 then isNm d.Line && (!decide (d.Line=d.Name) && (ZAu (devJ d) && wi d.Most 0 32))
 else if d.Kind=3 then decide (d.Heading=0) && (decide (d.Tilt=0) && (decide (d.Most=0) && (isNm d.Line && (!decide (d.Line=d.Name) && isPl d.At))))else false)
theorem ZPO(nm:Str)(k:Int)(ln:Str)(p:Place)(h t m:Int):devB ⟨nm,k,ln,p,h,t,m⟩=(isNm nm && (if k=1 then decide (ln=[]) && (decide (p.X=0) && (decide (p.Y=0) && (decide (h=0) && (decide (t=0) && wi m 0 512))))
 else if k=2 then isNm ln && (!decide (ln=nm) && (ZAu (devJ ⟨nm,k,ln,p,h,t,m⟩) && wi m 0 32))
 else if k=3 then decide (h=0) && (decide (t=0) && (decide (m=0) && (isNm ln && (!decide (ln=nm) && isPl p))))else false)):=rfl
theorem ZDD(d:Device)(h1:d.Name.length<=1048576)(h2:d.Line.length<=1048576):ZDU (d,())=some (devB d,())/\gDev (d,())=some (devB d,()):=by
 have jI:gJet ((⟨⟨d.At.X,d.At.Y⟩,d.Heading,d.Tilt,1⟩:Jet),())=some (ZAu (devJ d),()):=jetI (devJ d)
 unfold ZDU F169 gDev F192 devB
 simp only[ZG7 d.Name h1,ZG7 d.Line h2,ZG8 d.Name h1,ZG8 d.Line h2,supS,supI,djS,jI,ZCo,ZA8,ZDh,ZBv,al_bind_some,decide_true,Bool.true_and,Bool.and_true]
 by_cases k1:d.Kind=1
 ·simp only[k1,decide_true,al_cond_true,if_true]
  cases isNm d.Name<;>cases isNm d.Line<;>cases decide (d.Line=[])<;>cases decide (d.At.X=0)<;>cases decide (d.At.Y=0)<;>cases decide (d.Heading=0)<;>cases decide (d.Tilt=0)<;>cases wi d.Most 0 512<;>exact⟨rfl,rfl⟩
 ·by_cases k2:d.Kind=2
  ·simp only[k2,decide_true,al_cond_true,show¬(2:Int)=1 by decide,decide_false,al_cond_false,if_true,if_false]
   cases isNm d.Name<;>cases isNm d.Line<;>cases decide (d.Line=d.Name)<;>cases ZAu (devJ d)<;>cases wi d.Most 0 32<;>exact⟨rfl,rfl⟩
  ·by_cases k3:d.Kind=3
   ·simp only[k3,decide_true,al_cond_true,show¬(3:Int)=1 by decide,show¬(3:Int)=2 by decide,decide_false,al_cond_false,if_true,if_false]
    cases isNm d.Name<;>cases isNm d.Line<;>cases decide (d.Line=d.Name)<;>cases isPl d.At<;>cases decide (d.Heading=0)<;>cases decide (d.Tilt=0)<;>cases decide (d.Most=0)<;>exact⟨rfl,rfl⟩
   ·simp only[k1,k2,k3,decide_false,al_cond_false,if_false]
    cases isNm d.Name<;>cases isNm d.Line<;>exact⟨rfl,rfl⟩
theorem mod4(n:Int):Int.tmod n 4=n % 4-(if 0<=n\/(4:Int)∣n then 0 else 4):=by
 rw[Int.tmod_eq_emod];by_cases h:0<=n\/(4:Int)∣n
 ·rw[al_if_pos h,al_if_pos h];rfl
 ·rw[al_if_neg h,al_if_neg h];rfl
theorem ZPP(n:Int):F371 (n,())=some (n % 4,()):=by
 unfold F371
 simp only
 have h:=mod4 n
 by_cases hc:0<=n\/(4:Int)∣n
 ·rw[al_if_pos hc]at h
  rw[ZAA,h];simp
 ·rw[al_if_neg hc]at h
  have:Int.tmod n 4<0:=by omega
  rw[ZA this,ZAB,h]
  congr 2;omega
theorem ZPQ(a:Int)(h0:0<=a):Int.tmod a 4=a % 4:=by
 rw[mod4,al_if_pos (.inl h0)];omega
theorem ZPR(n:Int):F304 (n,())=some (n % 4,()):=by
 unfold F304
 simp only
 have h:=mod4 n
 have hb:0<=Int.tmod n 4+4/\Int.tmod n 4+4<=8:=by split at h<;>omega
 rw[ZAB,ZPQ _ hb.1]
 congr 2
 split at h<;>omega
def q4(n:Int):Nat:=(n % 4).toNat
theorem ZEK(n:Int):q4 n<4:=by unfold q4;omega
theorem ZPS(n:Int):((q4 n:Nat):Int)=n % 4:=by unfold q4;omega
theorem ZIg(p:Place)(n:Int):ZDi (p,n,())=some (rotN (q4 n) p,()):=by
 unfold ZDi F355
 simp only[ZPP,al_bind_some]
 obtain⟨m,hm⟩:=ZBp 9 (by omega)
 obtain⟨c,hc⟩:=ZOv F371 p ⟨0,0⟩ m (q4 n) (ZEK n) (λt3=>some (t3.1,()))
 rw[ZPS]at hc
 rw[hm,hc]
theorem ZHA(p:Place)(n:Int):ZDj (p,n,())=some (rotN (q4 n) p,()):=by
 unfold ZDj F220
 simp only[ZPR,al_bind_some]
 obtain⟨m,hm⟩:=ZBp 9 (by omega)
 obtain⟨c,hc⟩:=ZOw F304 p ⟨0,0⟩ m (q4 n) (ZEK n) (λt3=>some (t3.1,()))
 rw[ZPS]at hc
 rw[hm,hc]
def hd4(h n:Int):Int:=if wi h 0 3=true then(h+n % 4) % 4 else 0
abbrev gThS:=F372 F354 F371
abbrev gTh:=F292 ZG1 F304
theorem thS(h n:Int):gThS (h,n,())=some (hd4 h n,()):=by
 unfold gThS F372 hd4
 simp only[ZKq,al_bind_some]
 cases hw:wi h 0 3
 ·rfl
 ·have:=ZAr.1 hw
  simp only[ZAF,al_cond_false,ZPP,al_bind_some,if_true]
  rw[ZAB]
theorem thI(h n:Int):gTh (h,n,())=some (hd4 h n,()):=by
 unfold gTh F292 hd4
 simp only[ZG2,al_bind_some]
 cases hw:wi h 0 3
 ·rfl
 ·have:=ZAr.1 hw
  simp only[ZAF,al_cond_false,ZPR,al_bind_some,if_true]
  rw[ZAB,ZPQ _ (by omega)]
theorem ZK5(m:Int)(hb:m<=1099511627776)(p:Place)(hx: -m<=p.X/\p.X<=m)(hy: -m<=p.Y/\p.Y<=m)(k:Nat)(hk:k<4):(-m<=(rotN k p).X/\(rotN k p).X<=m)/\(-m<=(rotN k p).Y/\(rotN k p).Y<=m):=by
 obtain⟨x,y⟩:=p
 simp only at hx hy
 have e1:w64 (0-x)= -x:=by rw[ZAB];omega
 have e2:w64 (0-y)= -y:=by rw[ZAB];omega
 have e3:w64 (0- -x)=x:=by rw[ZAB];omega
 have e4:w64 (0- -y)=y:=by rw[ZAB];omega
 rcases k4 hk with rfl | rfl | rfl | rfl<;>simp only[rotN,e1,e2,e3,e4]<;>omega
theorem ZPT(k:Nat)(hk:k<4):rotN k ⟨0,0⟩=⟨0,0⟩:=by
 rcases k4 hk with rfl | rfl | rfl | rfl<;>kernel_rfl
def mvD(n:Int)(d:Device):Device:=⟨d.Name,d.Kind,d.Line,⟨(rotN (q4 n) d.At).X,(rotN (q4 n) d.At).Y⟩,if d.Kind=2 then hd4 d.Heading n else d.Heading,d.Tilt,d.Most⟩
theorem ZK6{d:Device}(h:devB d=true):(-4096<=d.At.X/\d.At.X<=4096)/\(-4096<=d.At.Y/\d.At.Y<=4096)/\(d.Kind=1->d.At.X=0/\d.At.Y=0):=by
 unfold devB at h
 rw[ZAM]at h
 have h:=h.2
 by_cases k1:d.Kind=1
 ·rw[al_if_pos k1]at h
  simp only[ZAM,ZAZ]at h
  omega
 ·rw[al_if_neg k1]at h
  by_cases k2:d.Kind=2
  ·rw[al_if_pos k2]at h
   simp only[ZAM]at h
   have J:=ZB6 h.2.2.1
   have jx:=J.x;have jy:=J.y
   simp only[devJ]at jx jy
   omega
  ·rw[al_if_neg k2]at h
   by_cases k3:d.Kind=3
   ·rw[al_if_pos k3]at h
    simp only[ZAM,isPl,ZAr]at h
    omega
   ·rw[al_if_neg k3]at h;cases h
theorem ZPU(n:Int){d:Device}(h:devB d=true):devB (mvD n d)=true:=by
 have hb:=ZK6 h
 unfold devB at h
 unfold mvD
 rw[ZPO]
 rw[ZAM]at h⊢
 refine⟨h.1,?_⟩
 have h:=h.2
 by_cases k1:d.Kind=1
 ·rw[al_if_pos k1]at h⊢
  have hz:d.At=⟨0,0⟩:=by
   have:=hb.2.2 k1
   cases hA:d.At
   rw[hA]at this
   simp only at this
   rw[this.1,this.2]
  rw[hz,ZPT _ (ZEK n)]
  rw[al_if_neg]
  rw[hz]at h
  exact h
 ·rw[al_if_neg k1]at h⊢
  by_cases k2:d.Kind=2
  ·rw[al_if_pos k2]at h⊢
   rw[al_if_pos k2]
   simp only[ZAM]at h⊢
   refine⟨h.1,h.2.1,?_,h.2.2.2⟩
   have J:=ZB6 h.2.2.1
   have jx:=J.x;have jy:=J.y;have jh:=J.h;have jt:=J.t
   simp only[devJ]at jx jy jh jt
   have hr:=ZK5 1024 (by omega) d.At jx jy (q4 n) (ZEK n)
   have hh:hd4 d.Heading n=(d.Heading+n % 4) % 4:=by unfold hd4;rw[al_if_pos (ZAa jh.1 jh.2)]
   unfold ZAu devJ
   simp only
   rw[ZAa hr.1.1 hr.1.2,ZAa hr.2.1 hr.2.2,hh,ZAa (by omega) (by omega),ZAa jt.1 jt.2,ZAa (by omega) (by omega)]
   rfl
  ·rw[al_if_neg k2]at h⊢
   rw[al_if_neg k2]
   by_cases k3:d.Kind=3
   ·rw[al_if_pos k3]at h⊢
    simp only[ZAM]at h⊢
    refine⟨h.1,h.2.1,h.2.2.1,h.2.2.2.1,h.2.2.2.2.1,?_⟩
    have hr:=ZK5 4096 (by omega) d.At hb.1 hb.2.1 (q4 n) (ZEK n)
    unfold isPl
    rw[ZAa hr.1.1 hr.1.2,ZAa hr.2.1 hr.2.2];rfl
   ·rw[al_if_neg k3]at h;cases h
theorem ZBh{α:Type}(r:List α)(i:Nat)(h:i<r.length):r.take (i+1)=r.take i++[r[i]]:=by
 rw[List.take_add_one];simp[h]
theorem ZDk{α β:Type}(f:α->β)(r:List α)(i:Nat)(h:i<r.length):(r.take i).map f++[f r[i]]=(r.take (i+1)).map f:=by
 rw[ZBh r i h,List.map_append];rfl
abbrev gMvS:=F360 ZDi F317 gThS ZDU
theorem ZU7(l:List Device)(hl:l.length<=1048576)(hn:ZB7 l)(hd: ∀d∈l,devB d=true)(n:Int):gMvS (l,n,(⟨0,0⟩:Place),())=some (l.map (mvD n),true,()):=by
 unfold gMvS F360
 obtain⟨t,⟨_,rfl⟩,e⟩:=ZBM (f:=s360_0 ZDi F317 gThS ZDU) (K:=λt11=>some (t11.2.2.1,true,())) (t:=(n,(⟨0,0⟩:Place),([]:List Device),l,Int.ofNat l.length,0,())) l.length
  (λi t=>True/\t=(n,(⟨0,0⟩:Place),(l.take i).map (mvD n),l,Int.ofNat l.length,(i:Int),())) (by omega) ⟨trivial,rfl⟩
  (by
   rintro i _ hi ⟨_,rfl⟩
   have hx:l[i]?=some l[i]:=by simp
   have e1:w64 ((i:Int)+1)=((i+1:Nat):Int):=ZAB
   have hmem:l[i]∈l:=by simp
   obtain⟨q1,q2⟩:=hn l[i] hmem
   have hv:=hd l[i] hmem
   have hb:=ZK6 hv
   have hr:=ZK5 4096 (by omega) l[i].At hb.1 hb.2.1 (q4 n) (ZEK n)
   have ex:w64 ((rotN (q4 n) l[i].At).X+0)=(rotN (q4 n) l[i].At).X:=by rw[ZAB];omega
   have ey:w64 ((rotN (q4 n) l[i].At).Y+0)=(rotN (q4 n) l[i].At).Y:=by rw[ZAB];omega
   have hm:=(ZDD (mvD n l[i]) q1 q2).1
   rw[ZPU n hv]at hm
   have hcap:((l.take i).map (mvD n)).length+1<=1099511627776:=by simp;omega
   refine⟨_,⟨trivial,rfl⟩,λrec K=> ?_⟩
   rw[<-ZDk (mvD n) l i hi]
   simp only[s360_0]
   rw[ZA,ZAE hx]
   by_cases k1:l[i].Kind=1
   ·have hz:l[i].At=⟨0,0⟩:=by
     have:=hb.2.2 k1
     cases hA:l[i].At
     rw[hA]at this
     simp only at this
     rw[this.1,this.2]
    have hmv:mvD n l[i]=⟨l[i].Name,l[i].Kind,l[i].Line,⟨l[i].At.X,l[i].At.Y⟩,l[i].Heading,l[i].Tilt,l[i].Most⟩:=by
     unfold mvD
     rw[hz,ZPT _ (ZEK n),al_if_neg]
    rw[hmv]at hm⊢
    rw[ZAL k1]
    simp only[ZAF,al_cond_false]
    rw[ZAA,hm]
    simp only[al_bind_some,ZAF,al_cond_false]
    rw[ZAC (by simpa using hcap),e1]
   ·rw[ZAG k1]
    simp only[ZAH,al_cond_true,ZIg,F317,al_bind_some,ex,ey]
    by_cases k2:l[i].Kind=2
    ·have hmv:mvD n l[i]=⟨l[i].Name,l[i].Kind,l[i].Line,⟨(rotN (q4 n) l[i].At).X,(rotN (q4 n) l[i].At).Y⟩,hd4 l[i].Heading n,l[i].Tilt,l[i].Most⟩:=by
      unfold mvD;rw[al_if_pos k2]
     rw[hmv]at hm⊢
     rw[ZA k2]
     simp only[thS,al_bind_some,hm,ZAF,al_cond_false]
     rw[ZAC (by simpa using hcap),e1]
    ·have hmv:mvD n l[i]=⟨l[i].Name,l[i].Kind,l[i].Line,⟨(rotN (q4 n) l[i].At).X,(rotN (q4 n) l[i].At).Y⟩,l[i].Heading,l[i].Tilt,l[i].Most⟩:=by
      unfold mvD;rw[al_if_neg k2]
     rw[hmv]at hm⊢
     rw[ZAA k2]
     simp only[al_bind_some,hm,ZAF,al_cond_false]
     rw[ZAC (by simpa using hcap),e1])
  (by
   rintro _ ⟨_,rfl⟩ rec K
   simp only[s360_0]
   rw[ZAA])
 rw[List.take_length]at e
 exact e
abbrev gTRS:=F327 ZIf gMvS
abbrev gTR:=F205 gRig ZDj gTh
theorem ZU8(l:List Device)(hl:l.length<=1048576)(hn:ZB7 l)(hr1:ZIf (l,())=some (true,()))(hr2:gRig (l,())=some (true,()))(hd: ∀d∈l,devB d=true)(n:Int):
  gTRS (l,n,())=some (l.map (mvD n),())/\gTR (l,n,())=some (l.map (mvD n),()):=by
 refine⟨?_,?_⟩
 ·unfold gTRS F327
  simp only[hr1,al_bind_some,ZAF,al_cond_false]
  rw[ZU7 l hl hn hd n];rfl
 ·unfold gTR F205
  simp only[hr2,al_bind_some,ZAF,al_cond_false]
  obtain⟨t,⟨_,rfl⟩,e⟩:=ZBM (f:=s205_0 gRig ZDj gTh) (K:=λt6=>some (t6.2.1,())) (t:=(n,([]:List Device),l,Int.ofNat l.length,0,())) l.length
   (λi t=>True/\t=(n,(l.take i).map (mvD n),l,Int.ofNat l.length,(i:Int),())) (by omega) ⟨trivial,rfl⟩
   (by
    rintro i _ hi ⟨_,rfl⟩
    have hx:l[i]?=some l[i]:=by simp
    have e1:w64 ((i:Int)+1)=((i+1:Nat):Int):=ZAB
    have hcap:((l.take i).map (mvD n)).length+1<=1099511627776:=by simp;omega
    refine⟨_,⟨trivial,rfl⟩,λrec K=> ?_⟩
    rw[<-ZDk (mvD n) l i hi]
    simp only[s205_0]
    rw[ZA,ZAE hx]
    simp only[ZHA,thI,al_bind_some]
    by_cases k2:l[i].Kind=2
    ·rw[ZA k2,ZAC (by simpa using hcap),e1]
     unfold mvD;rw[al_if_pos k2]
    ·rw[ZAA k2,ZAC (by simpa using hcap),e1]
     unfold mvD;rw[al_if_neg k2])
   (by
    rintro _ ⟨_,rfl⟩ rec K
    simp only[s205_0]
    rw[ZAA])
  rw[List.take_length]at e
  exact e
def mvG(n:Int)(g:Gust):Gust:=⟨g.From,⟨(rotN (q4 n) g.Drift).X,(rotN (q4 n) g.Drift).Y⟩⟩
abbrev gTWS:=F328 ZEz ZDi
abbrev gTW:=F206 ZEJ ZDj
theorem ZU9(l:List Gust)(hl:l.length<=1048576)(hw1:ZEz (l,())=some (true,()))(hw2:ZEJ (l,())=some (true,()))(n:Int):
  gTWS (l,n,())=some (l.map (mvG n),())/\gTW (l,n,())=some (l.map (mvG n),()):=by
 refine⟨?_,?_⟩
 ·unfold gTWS F328
  obtain⟨t,⟨_,rfl⟩,e⟩:=ZBM (f:=s328_0 ZEz ZDi) (K:=λt5=>some (t5.2.2.1,())) (t:=(l,n,([]:List Gust),l,Int.ofNat l.length,0,())) l.length
   (λi t=>True/\t=(l,n,(l.take i).map (mvG n),l,Int.ofNat l.length,(i:Int),())) (by omega) ⟨trivial,rfl⟩
   (by
    rintro i _ hi ⟨_,rfl⟩
    have hx:l[i]?=some l[i]:=by simp
    have e1:w64 ((i:Int)+1)=((i+1:Nat):Int):=ZAB
    have hcap:((l.take i).map (mvG n)).length+1<=1099511627776:=by simp;omega
    refine⟨_,⟨trivial,rfl⟩,λrec K=> ?_⟩
    rw[<-ZDk (mvG n) l i hi]
    simp only[s328_0]
    rw[ZA,ZAE hx]
    simp only[hw1,ZIg,al_bind_some,al_cond_true]
    rw[ZAC (by simpa using hcap),e1]
    rfl)
   (by
    rintro _ ⟨_,rfl⟩ rec K
    simp only[s328_0]
    rw[ZAA])
  rw[List.take_length]at e
  exact e
 ·unfold gTW F206
  simp only[hw2,al_bind_some,ZAF,al_cond_false]
  obtain⟨t,⟨_,rfl⟩,e⟩:=ZBM (f:=s206_0 ZEJ ZDj) (K:=λt5=>some (t5.2.1,())) (t:=(n,([]:List Gust),l,Int.ofNat l.length,0,())) l.length
   (λi t=>True/\t=(n,(l.take i).map (mvG n),l,Int.ofNat l.length,(i:Int),())) (by omega) ⟨trivial,rfl⟩
   (by
    rintro i _ hi ⟨_,rfl⟩
    have hx:l[i]?=some l[i]:=by simp
    have e1:w64 ((i:Int)+1)=((i+1:Nat):Int):=ZAB
    have hcap:((l.take i).map (mvG n)).length+1<=1099511627776:=by simp;omega
    refine⟨_,⟨trivial,rfl⟩,λrec K=> ?_⟩
    rw[<-ZDk (mvG n) l i hi]
    simp only[s206_0]
    rw[ZA,ZAE hx]
    simp only[ZHA,al_bind_some]
    rw[ZAC (by simpa using hcap),e1]
    rfl)
   (by
    rintro _ ⟨_,rfl⟩ rec K
    simp only[s206_0]
    rw[ZAA])
  rw[List.take_length]at e
  exact e
theorem ZFu{R:Type}{a:Option R} :both a a=a:=by unfold both;rw[al_if_pos rfl]
theorem ZIh(l:List Cue)(hl:l.length<=1048576):F185 (l,())=some (l,()):=by
 unfold F185 ZBe
 cases l with
 | nil=>rw[ZAC];exact ZFu
 | cons x l=>rw[ZAC (by simp at hl⊢;omega)];rfl
theorem ZK7(l:List Cue)(hl:l.length<=1048576):F229 (l,())=some (l,()):=by
 unfold F229
 rw[ZAC];rfl
def mvS(n:Int)(s:ZAN):ZAN:=(s.1.map (mvD n),s.2.1,s.2.2.1.map (mvG n),s.2.2.2.1,())
abbrev gTSS:=F252 ZK2 gTRS F229 gTWS
abbrev gTS:=F107 ZK3 gTR F185 gTW
theorem ZV(s:ZAN)(h:ShowOK s)(n:Int): ∃r:ZAN,gTSS (s,n,())=some (r,())/\gTS (s,n,())=some (r,())/\r.1.length<=1048576/\r.2.1.length<=1048576/\r.2.2.1.length<=1048576:=by
 obtain⟨rig,score,wind,ticks,u⟩:=s
 obtain⟨b1,r1,r2,r3⟩:=ZPJ rig h.rig h.devs
 obtain⟨b2,c2,_⟩:=ZK0 score h.names h.score
 have c1:ZIc (score,())=some (b2,()):=by rw[ZPC score h.names];exact c2
 obtain⟨b3,w2⟩:=ZPL wind h.wind
 have w1:ZEz (wind,())=some (b3,()):=by rw[ZPK];exact w2
 have hs:ZK2 ((rig,score,wind,ticks,()),())=some (b1 && (b2 && (b3 && wi ticks 0 64)),()):=by
  unfold ZK2 F140
  simp only[r1,c1,w1,ZCo,al_bind_some]
  cases b1<;>cases b2<;>cases b3<;>rfl
 have hi:ZK3 ((rig,score,wind,ticks,()),())=some (b1 && (b2 && (b3 && wi ticks 0 64)),()):=by
  unfold ZK3 F50
  simp only[r2,c2,w2,ZA8,al_bind_some]
  cases b1<;>cases b2<;>cases b3<;>rfl
 unfold gTSS F252 gTS F107
 simp only[hs,hi,al_bind_some]
 cases hb:b1 && (b2 && (b3 && wi ticks 0 64))
 ·exact⟨([],[],[],0,()),rfl,rfl,by simp,by simp,by simp⟩
 ·simp only[ZAM]at hb
  obtain⟨rfl,rfl,rfl,ht⟩:=hb
  obtain⟨_,r4⟩:=r3 rfl
  have hd: ∀d∈rig,devB d=true:=λd hd=>by
   have h1:=r4 d hd
   obtain⟨q1,q2⟩:=h.devs d hd
   rw[(ZDD d q1 q2).2]at h1
   simpa using h1
  obtain⟨t1,t2⟩:=ZU8 rig h.rig h.devs r1 r2 hd n
  obtain⟨v1,v2⟩:=ZU9 wind h.wind w1 w2 n
  refine⟨mvS n (rig,score,wind,ticks,()),?_,?_,by simpa[mvS]using h.rig,h.score,by simpa[mvS]using h.wind⟩
  ·simp only[t1,v1,ZK7 score h.score,al_bind_some,ZAF,al_cond_false];rfl
  ·simp only[t2,v2,ZIh score h.score,al_bind_some,ZAF,al_cond_false];rfl
end Ev
namespace Ev
open Go
theorem ZFv: ∀a:Str,Op.bytesLess a a=false
 | []=>rfl
 | x::a=>by simp[Op.bytesLess,ZFv a,UInt8.lt_irrefl]
theorem ZHB: ∀a b c:Str,Op.bytesLess a b=true->Op.bytesLess b c=true->Op.bytesLess a c=true
 | [],[],_,h,_=>by simp[Op.bytesLess]at h
 | [],_::_,[],_,h=>by simp[Op.bytesLess]at h
 | [],_::_,_::_,_,_=>rfl
 | _::_,[],_,h,_=>by simp[Op.bytesLess]at h
 | _::_,_::_,[],_,h=>by simp[Op.bytesLess]at h
 | x::a,y::b,z::c,h1,h2=>by
  simp only[Op.bytesLess,Bool.or_eq_true,ZAM,ZAZ,beq_iff_eq]at h1 h2⊢
  rcases h1 with h1 | ⟨rfl,h1⟩
  ·rcases h2 with h2 | ⟨rfl,h2⟩
   ·exact .inl (UInt8.lt_trans h1 h2)
   ·exact .inl h1
  ·rcases h2 with h2 | ⟨rfl,h2⟩
   ·exact .inl h2
   ·exact .inr ⟨rfl,ZHB a b c h1 h2⟩
theorem ZIi{a b:Str}(h:Op.bytesLess a b=true):a≠b:=λe=>by subst e;rw[ZFv]at h;cases h
def ZCc(s:Str):Nat->List Device->Int
 | _,[]=> -1
 | i,d::ds=>if d.Name=s then(i:Int)else ZCc s (i+1) ds
def fnd(l:List Device)(s:Str):Int:=ZCc s 0 l
theorem ZPV(s:Str): ∀(l:List Device) (i:Nat),(ZCc s i l= -1/\ ∀d∈l,d.Name≠s)\/ ∃(k:Nat) (d:Device),ZCc s i l=((i+k:Nat):Int)/\l[k]?=some d/\d.Name=s
 | [],i=> .inl ⟨rfl,by simp⟩
 | x::l,i=>by
  unfold ZCc
  by_cases h:x.Name=s
  ·rw[al_if_pos h];exact .inr ⟨0,x,by simp,rfl,h⟩
  ·rw[al_if_neg h]
   rcases ZPV s l (i+1)with ⟨e,k⟩ | ⟨k,d,e,k1,k2⟩
   ·refine .inl ⟨e,λd hd=> ?_⟩
    rcases List.mem_cons.mp hd with rfl | hd
    ·exact h
    ·exact k d hd
   ·exact .inr ⟨k+1,d,by rw[e];congr 1;omega,by simpa using k1,k2⟩
theorem ZE0(l:List Device)(s:Str):(fnd l s= -1/\ ∀d∈l,d.Name≠s)\/ ∃(k:Nat) (d:Device),fnd l s=(k:Int)/\l[k]?=some d/\d.Name=s:=by
 rcases ZPV s l 0 with h | ⟨k,d,e,h⟩
 ·exact .inl h
 ·exact .inr ⟨k,d,by simpa[fnd]using e,h⟩
theorem ZK8(l:List Device)(hl:l.length<=1048576)(s:Str):G265 (l,s,())=some (fnd l s,()):=by
 have key: ∀(d i n:Nat),i+d=l.length->d<n->ZAD s265_0 n (s,l,Int.ofNat l.length,(i:Int),()) (λt3=>some ((-1),()))=some (ZCc s i (l.drop i),()):=by
  intro d
  induction d with
  | zero=>
   intro i n hd hn
   obtain⟨n,rfl⟩: ∃k,n=k+1:=⟨n-1,by omega⟩
   rw[ZAT];simp only[s265_0];rw[ZAA,List.drop_of_length_le (by omega)];rfl
  | succ d ih=>
   intro i n hd hn
   obtain⟨n,rfl⟩: ∃k,n=k+1:=⟨n-1,by omega⟩
   have hi:i<l.length:=by omega
   have hx:l[i]?=some l[i]:=by simp
   have e1:w64 ((i:Int)+1)=((i+1:Nat):Int):=ZAB
   rw[ZG6 l i hi]
   unfold ZCc
   rw[ZAT];simp only[s265_0]
   rw[ZA,ZAE hx]
   by_cases hc:l[i].Name=s
   ·rw[ZA hc,al_if_pos hc]
   ·rw[ZAA hc,al_if_neg hc,e1];exact ih (i+1) n (by omega) (by omega)
 have:=key l.length 0 fuel (by omega) (by rw[ZBu];omega)
 rw[List.drop_zero]at this
 exact this
theorem ZK9(l:List Device)(hl:l.length<=1048576)(s:Str):G193 (l,s,())=some (fnd l s,()):=by
 obtain⟨v,h1,h2,_⟩:=ZPH l hl s
 have h3:=ZK8 l hl s
 have:v=fnd l s:=by
  have:some (v,())=some (fnd l s,()):=h1.symm.trans h3
  injection this with this
  injection this
 subst this
 exact h2
def ZFw(l:List Device)(i:Nat):Int:=((l[i]?).map λd=>d.Kind).getD 0
def ZCp(l:List Device)(i:Nat):Str:=((l[i]?).map λd=>d.Name).getD []
def ZBb(l:List Device)(d:Device):Bool:=decide (d.Kind=1) || (decide (0<=fnd l d.Line) && decide (ZFw l (fnd l d.Line).toNat=d.Kind-1))
theorem ZL(l:List Device)(hl:l.length<=1048576)(d:Device)(hk:d.Kind=1\/d.Kind=2\/d.Kind=3):G194 (l,d,())=some (ZBb l d,()):=by
 unfold G194 F194 ZBb
 dsimp only
 by_cases k1:d.Kind=1
 ·rw[ZA k1,ZAL k1];rfl
 ·rw[ZAA k1,ZAG k1,Bool.false_or,ZK9 l hl]
  simp only[al_bind_some,ge_iff_le]
  rcases ZE0 l d.Line with ⟨e,_⟩ | ⟨k,x,e,h1,_⟩
  ·rw[e];rfl
  ·rw[e,ZA,ZAE h1,ZAL (show(0:Int)<=(k:Int)by omega),Bool.true_and]
   unfold ZFw
   rw[ZAX,h1,ZAB];rfl
theorem ZVA(l:List Device)(hl:l.length<=1048576)(d:Device)(hk:d.Kind=1\/d.Kind=2\/d.Kind=3):G266 (l,d,())=some (ZBb l d,()):=by
 obtain⟨b,h1,h2⟩:=ZPI l hl d hk
 have h3:=ZL l hl d hk
 have e:some (b,())=some (ZBb l d,()):=h2.symm.trans h3
 exact h1.trans e
def ZFx(l:List Device)(i:Nat):Bool:=match l[i]? with
 | some d=>devB d && ((decide (i=0) || Op.bytesLess (ZCp l (i-1)) d.Name) && ZBb l d)
 | none=>true
def rigB(l:List Device):Bool:=decide (l.length<=8) && (List.range l.length).all (ZFx l)
theorem ZIj{d:Device}(h:devB d=true):d.Kind=1\/d.Kind=2\/d.Kind=3:=by
 unfold devB at h
 by_cases k1:d.Kind=1
 ·exact .inl k1
 ·by_cases k2:d.Kind=2
  ·exact .inr (.inl k2)
  ·by_cases k3:d.Kind=3
   ·exact .inr (.inr k3)
   ·rw[al_if_neg k1,al_if_neg k2,al_if_neg k3]at h;simp at h
theorem ZDV(l:List Device)(hl:l.length<=1048576)(hn:ZB7 l):G118 (l,())=some (rigB l,()):=by
 unfold G118 F118 rigB
 dsimp only
 by_cases h8:Int.ofNat l.length>8
 ·rw[ZA h8,ZAG (by simp at h8;omega)];rfl
 ·rw[ZAA h8,ZAL (by simp at h8;omega),Bool.true_and]
  have:=ZDT (f:=s118_0 G192 G194) (K:=λt7=>some (true,())) (λi=>(l,l,Int.ofNat l.length,(i:Int),())) (ZFx l) (some (false,())) l.length (by omega)
   (by
    intro i hi rec K
    have hx:l[i]?=some l[i]:=by simp
    have e1:w64 ((i:Int)+1)=((i+1:Nat):Int):=ZAB
    obtain⟨q1,q2⟩:=hn l[i] (by simp)
    have hd:G192 (l[i],())=some (devB l[i],()):=(ZDD l[i] q1 q2).2
    unfold ZFx
    rw[hx]
    simp only[s118_0]
    rw[ZA,ZAE hx,hd]
    simp only[al_bind_some,Bool.not_not]
    cases hb:devB l[i]
    ·rfl
    ·simp only[al_cond_true,Bool.true_and]
     rw[ZL l hl _ (ZIj hb),e1]
     simp only[al_bind_some]
     by_cases hz:i=0
     ·subst hz
      rw[ZAA]
      simp only[decide_true,Bool.true_or,Bool.true_and]
      cases ZBb l l[0]<;>rfl
     ·obtain⟨j,rfl⟩: ∃j,i=j+1:=⟨i-1,by omega⟩
      have hy:l[j]?=some l[j]:=by simp
      have e2:w64 (((j+1:Nat):Int) -1)=(j:Int):=by rw[ZAB];omega
      have ho:(Op.bytesLess l[j+1].Name l[j].Name || decide (l[j+1].Name=l[j].Name))= !Op.bytesLess l[j].Name l[j+1].Name:=(ZH _ _).symm
      rw[ZA,e2,ZAE hy,ho,ZAG hz]
      unfold ZCp
      rw[Nat.add_sub_cancel,hy]
      simp only[Bool.not_not,Bool.false_or,Option.map_some,Option.getD_some]
      cases Op.bytesLess l[j].Name l[j+1].Name
      ·rfl
      ·simp only[al_cond_true,Bool.true_and]
       cases ZBb l l[j+1]<;>rfl)
   (by
    intro rec K
    simp only[s118_0]
    rw[ZAA])
  refine this.trans ?_
  cases (List.range l.length).all (ZFx l)<;>rfl
theorem ZE1(l:List Device)(hl:l.length<=1048576)(hn:ZB7 l):G230 (l,())=some (rigB l,()):=by
 obtain⟨b,h1,h2,_⟩:=ZPJ l hl hn
 have h3:=ZDV l hl hn
 have e:some (b,())=some (rigB l,()):=h2.symm.trans h3
 exact h1.trans e
structure RigP(l:List Device):Prop where
 len:l.length<=8
 dev: ∀d∈l,devB d=true
 lt: ∀i d e,l[i]?=some d->l[i+1]?=some e->Op.bytesLess d.Name e.Name=true
 hung: ∀d∈l,ZBb l d=true
theorem ZDW(l:List Device):rigB l=true↔RigP l:=by
 unfold rigB
 rw[ZAM,ZAZ,List.all_eq_true]
 constructor
 ·rintro ⟨h8,h⟩
  have at': ∀(i:Nat) (d:Device),l[i]?=some d->devB d=true/\(i=0\/Op.bytesLess (ZCp l (i-1)) d.Name=true)/\ZBb l d=true:=λi d hd=>by
   have hi:i<l.length:=(al_get_iff.mp hd).1
   have:=h i (by simpa using hi)
   unfold ZFx at this
   rw[hd]at this
   simpa using this
  refine⟨h8,λd hd=> ?_,λi d e hd he=> ?_,λd hd=> ?_⟩
  ·obtain⟨i,hi⟩:=List.mem_iff_getElem?.mp hd
   exact(at' i d hi).1
  ·rcases (at' (i+1) e he).2.1 with h | h
   ·omega
   ·rw[Nat.add_sub_cancel]at h
    unfold ZCp at h
    rw[hd]at h
    exact h
  ·obtain⟨i,hi⟩:=List.mem_iff_getElem?.mp hd
   exact(at' i d hi).2.2
 ·rintro ⟨h8,h1,h2,h3⟩
  refine⟨h8,λi hi=> ?_⟩
  have hi:i<l.length:=by simpa using hi
  have hx:l[i]?=some l[i]:=by simp
  unfold ZFx
  rw[hx]
  simp only[ZAM,Bool.or_eq_true,ZAZ]
  refine⟨h1 _ (by simp),?_,h3 _ (by simp)⟩
  by_cases hz:i=0
  ·exact .inl hz
  ·right
   obtain⟨j,rfl⟩: ∃j,i=j+1:=⟨i-1,by omega⟩
   have hy:l[j]?=some l[j]:=by simp
   unfold ZCp
   rw[Nat.add_sub_cancel,hy]
   exact h2 j _ _ hy hx
theorem ZLA{l:List Device}(h:RigP l): ∀(k i:Nat) (d e:Device),l[i]?=some d->l[i+k+1]?=some e->Op.bytesLess d.Name e.Name=true:=by
 intro k
 induction k with
 | zero=>intro i d e hd he;exact h.lt i d e hd he
 | succ k ih=>
  intro i d e hd he
  have hi:i+k+1+1<l.length:=(al_get_iff.mp he).1
  have hx:l[i+k+1]?=some l[i+k+1]:=by simp
  exact ZHB _ _ _ (ih i d _ hd hx) (h.lt (i+k+1) _ e hx he)
theorem ZVB{l:List Device}(h:RigP l){i j:Nat}{d e:Device}(hd:l[i]?=some d)(he:l[j]?=some e)(hn:d.Name=e.Name):i=j:=by
 rcases Nat.lt_trichotomy i j with hl | hl | hl
 ·obtain⟨k,rfl⟩: ∃k,j=i+k+1:=⟨j-i-1,by omega⟩
  exact absurd hn (ZIi (ZLA h k i d e hd he))
 ·exact hl
 ·obtain⟨k,rfl⟩: ∃k,i=j+k+1:=⟨i-j-1,by omega⟩
  exact absurd hn.symm (ZIi (ZLA h k j e d he hd))
theorem ZVC{l:List Device}(h:RigP l){d:Device}(hd:d∈l)(hk:d.Kind≠1): ∃(k:Nat) (x:Device),fnd l d.Line=(k:Int)/\l[k]?=some x/\x.Name=d.Line/\x.Kind=d.Kind-1:=by
 have:=h.hung d hd
 unfold ZBb at this
 rw[ZAG hk,Bool.false_or,ZAM,ZAZ,ZAZ]at this
 rcases ZE0 l d.Line with ⟨e,_⟩ | ⟨k,x,e,h1,h2⟩
 ·omega
 ·refine⟨k,x,e,h1,h2,?_⟩
  have h3:=this.2
  unfold ZFw at h3
  rw[e,ZAX,h1]at h3
  exact h3
end Ev
namespace Ev
open Go
def sumL:List Int->Int
 | []=>0
 | x::l=>x+sumL l
theorem ZPW: ∀a b:List Int,sumL (a++b)=sumL a+sumL b
 | [],b=>by simp[sumL]
 | x::a,b=>by simp[sumL,ZPW a b];omega
theorem ZFy{α:Type}(r:List α)(i:Nat)(h:i<r.length):r.take (i+1)=r.take i++[r[i]]:=by
 rw[List.take_add_one];simp[h]
theorem ZVD(l:List Int)(i:Nat)(h:i<l.length):sumL (l.take (i+1))=sumL (l.take i)+l[i]:=by
 rw[ZFy l i h,ZPW];simp[sumL]
theorem ZLB(m:Int)(hm:0<=m): ∀l:List Int,(∀x∈l,0<=x/\x<=m)->0<=sumL l/\sumL l<=m*l.length
 | [],_=>by simp[sumL]
 | x::l,h=>by
  have h1:=h x (by simp)
  have h2:=ZLB m hm l λy hy=>h y (by simp[hy])
  simp only[sumL,al_len_cons,Int.natCast_add,Int.mul_add]
  omega
theorem ZPX: ∀(l:List Int) (i:Nat) (x y:Int),l[i]?=some x->sumL (l.set i y)=sumL l-x+y
 | [],i,x,y,h=>by simp at h
 | a::l,0,x,y,h=>by simp at h;subst h;simp[sumL];omega
 | a::l,i+1,x,y,h=>by
  simp at h
  simp only[List.set_cons_succ,sumL,ZPX l i x y (by simpa using h)]
  omega
theorem ZLC(m:Int)(hm:0<=m)(hm2:m<=4294967296)(l:List Int)(hl:l.length<=1048576)(h: ∀x∈l,0<=x/\x<=m):G376 (l,())=some (sumL l,()):=by
 unfold G376 F376
 refine(ZAW (f:=s376_0) (K:=λt3=>some (t3.1,())) (λi=>(sumL (l.take i),l,Int.ofNat l.length,(i:Int),())) l.length (by omega) ?_ ?_).trans (by simp)
 ·intro i hi rec K
  have hx:l[i]?=some l[i]:=by simp
  have e1:w64 ((i:Int)+1)=((i+1:Nat):Int):=ZAB
  have hb:=ZLB m hm (l.take i) λx hx=>h x (List.mem_of_mem_take hx)
  have hb2:m*((l.take i).length:Int)<=4294967296*1048576:=by
   have:((l.take i).length:Int)<=1048576:=by simp;omega
   exact Int.mul_le_mul hm2 this (by omega) (by omega)
  have hx1:=h l[i] (by simp)
  simp only[s376_0]
  rw[ZA,ZAE hx,e1,ZVD l i hi,ZAB]
 ·intro rec K
  simp only[s376_0]
  rw[ZAA]
theorem ZLD(m:Int)(hm:0<=m)(hm2:m<=4294967296)(l:List Int)(hl:l.length<=1048576)(h: ∀x∈l,0<=x/\x<=m):G299 (l,())=some (sumL l,()):=by
 have e:G299 (l,())=G376 (l,()):=rfl
 rw[e];exact ZLC m hm hm2 l hl h
def demB(l:List Int):Bool:=(List.range l.length).all (λi=>wi ((l[i]?).getD 0) 0 64) && decide (l.length<=8)
theorem ZFz(l:List Int):demB l=true↔l.length<=8/\ ∀x∈l,0<=x/\x<=64:=by
 unfold demB
 rw[ZAM,ZAZ,List.all_eq_true]
 constructor
 ·rintro ⟨h,h8⟩
  refine⟨h8,λx hx=> ?_⟩
  obtain⟨i,hi⟩:=List.mem_iff_getElem?.mp hx
  have:=h i (by simpa using (al_get_iff.mp hi).1)
  rw[hi]at this
  exact ZAr.1 this
 ·rintro ⟨h8,h⟩
  refine⟨λi hi=> ?_,h8⟩
  have hi:i<l.length:=by simpa using hi
  have hx:l[i]?=some l[i]:=by simp
  rw[hx]
  exact ZAr.2 (h _ (by simp))
theorem ZPY(l:List Int)(hl:l.length<=1048576):G373 (l,())=some (demB l,()):=by
 unfold G373 F373 demB
 refine(ZDT (f:=s373_0 G233) (λi=>(l,l,Int.ofNat l.length,(i:Int),())) (λi=>wi ((l[i]?).getD 0) 0 64) (some (false,())) l.length (by omega) ?_ ?_).trans ?_
 ·intro i hi rec K
  have hx:l[i]?=some l[i]:=by simp
  have e1:w64 ((i:Int)+1)=((i+1:Nat):Int):=ZAB
  have hw:G233 (l[i],0,64,())=some (wi l[i] 0 64,()):=ZCo _ _ _
  simp only[s373_0]
  rw[ZA,ZAE hx,hw,e1,hx]
  simp only[al_bind_some,Option.getD_some]
  cases wi l[i] 0 64<;>rfl
 ·intro rec K
  simp only[s373_0]
  rw[ZAA]
 ·have:decide ((Int.ofNat l.length)<=8)=decide (l.length<=8):=by
   by_cases h:l.length<=8
   ·rw[ZAL h,ZAL (by simp;omega)]
   ·rw[ZAG h,ZAG (by simp;omega)]
  cases (List.range l.length).all (λi=>wi ((l[i]?).getD 0) 0 64)
  ·rfl
  ·simp only[al_cond_true,Bool.true_and,this]
theorem ZLE(l:List Int)(hl:l.length<=1048576):G296 (l,())=some (demB l,()):=by
 unfold G296 F296 demB
 refine(ZDT (f:=s296_0 G121) (λi=>(l,l,Int.ofNat l.length,(i:Int),())) (λi=>wi ((l[i]?).getD 0) 0 64) (some (false,())) l.length (by omega) ?_ ?_).trans ?_
 ·intro i hi rec K
  have hx:l[i]?=some l[i]:=by simp
  have e1:w64 ((i:Int)+1)=((i+1:Nat):Int):=ZAB
  have hw:G121 (l[i],0,64,())=some (wi l[i] 0 64,()):=ZA8 _ _ _
  simp only[s296_0]
  rw[ZA,ZAE hx,hw,e1,hx]
  simp only[al_bind_some,Option.getD_some]
  cases wi l[i] 0 64<;>rfl
 ·intro rec K
  simp only[s296_0]
  rw[ZAA]
 ·have:decide ((Int.ofNat l.length)<=8)=decide (l.length<=8):=by
   by_cases h:l.length<=8
   ·rw[ZAL h,ZAL (by simp;omega)]
   ·rw[ZAG h,ZAG (by simp;omega)]
  cases (List.range l.length).all (λi=>wi ((l[i]?).getD 0) 0 64)
  ·rfl
  ·simp only[al_cond_true,Bool.true_and,this]
def cutL(l:List Int)(v:Int):List Int:=l.map λx=>mn x v
theorem ZVE(l:List Int)(v:Int)(i:Nat):(cutL l v)[i]?=(l[i]?).map λx=>mn x v:=by simp[cutL]
theorem ZPZ(l:List Int)(v:Int)(i:Nat)(h:i<l.length):cutL (l.take i) v++[mn l[i] v]=cutL (l.take (i+1)) v:=by
 rw[ZFy l i h];unfold cutL;rw[List.map_append];rfl
theorem ZLF(a b:Int):mn a b<=a/\mn a b<=b/\(mn a b=a\/mn a b=b):=by
 rw[ZEt];split<;>omega
theorem ZHC{l:List Int}(h: ∀x∈l,0<=x/\x<=64){v:Int}(hv:0<=v): ∀x∈cutL l v,0<=x/\x<=64:=by
 intro x hx
 obtain⟨y,hy,rfl⟩:=List.mem_map.mp hx
 have:=h y hy
 have:=ZLF y v
 omega
theorem ZPa(l:List Int)(hl:l.length<=1048576)(v:Int):G375 (l,v,())=some (cutL l v,()):=by
 unfold G375 F375
 refine(ZAW (f:=s375_0 G358) (K:=λt4=>some (t4.2.1,())) (λi=>(v,cutL (l.take i) v,l,Int.ofNat l.length,(i:Int),())) l.length (by omega) ?_ ?_).trans (by simp)
 ·intro i hi rec K
  have hx:l[i]?=some l[i]:=by simp
  have e1:w64 ((i:Int)+1)=((i+1:Nat):Int):=ZAB
  have hm:G358 (l[i],v,())=some (mn l[i] v,()):=ZIY _ _
  simp only[s375_0]
  rw[ZA,ZAE hx,hm,e1]
  simp only[al_bind_some]
  rw[ZAC (by simp[cutL];omega),ZPZ l v i hi]
 ·intro rec K
  simp only[s375_0]
  rw[ZAA]
theorem ZLG(l:List Int)(hd:demB l=true)(v:Int)(hv:0<=v):G298 (l,v,())=some (cutL l v,()):=by
 have hl:=((ZFz l).1 hd).1
 unfold G298 F298
 dsimp only
 rw[ZLE l (by omega),hd]
 simp only[al_bind_some,ZAF,ZAH,al_cond_true]
 rw[ZAA]
 refine(ZAW (f:=s298_0 G296) (K:=λt4=>some (t4.2.1,())) (λi=>(v,cutL (l.take i) v,l,Int.ofNat l.length,(i:Int),())) l.length (by omega) ?_ ?_).trans (by simp)
 ·intro i hi rec K
  have hx:l[i]?=some l[i]:=by simp
  have e1:w64 ((i:Int)+1)=((i+1:Nat):Int):=ZAB
  simp only[s298_0]
  rw[ZA,ZAE hx,e1]
  rw[ZAC (by simp[cutL];omega),ZPZ l v i hi]
 ·intro rec K
  simp only[s298_0]
  rw[ZAA]
def ZA6(s:Int)(l:List Int)(n:Nat):Bool:=decide (sumL (cutL l (n:Int))<=s)
def best(P:Nat->Bool):Nat->Nat
 | 0=>0
 | n+1=>if P (n+1)=true then n+1 else best P n
theorem ZPb(P:Nat->Bool): ∀n,best P n<=n
 | 0=>by simp[best]
 | n+1=>by
  have:=ZPb P n
  unfold best;split<;>omega
theorem ZPc(P:Nat->Bool)(h0:P 0=true): ∀n,P (best P n)=true
 | 0=>h0
 | n+1=>by
  unfold best
  by_cases h:P (n+1)=true
  ·rw[al_if_pos h];exact h
  ·rw[al_if_neg h];exact ZPc P h0 n
theorem ZPd(P:Nat->Bool): ∀n,best P n=n\/P (best P n+1)=false
 | 0=> .inl rfl
 | n+1=>by
  unfold best
  by_cases h:P (n+1)=true
  ·rw[al_if_pos h];exact .inl rfl
  ·rw[al_if_neg h]
   rcases ZPd P n with e | e
   ·rw[e];exact .inr (by simpa using h)
   ·exact .inr e
theorem ZPe{s:Int}{l:List Int}(hs:0<=s)(h: ∀x∈l,0<=x/\x<=64):ZA6 s l 0=true:=by
 unfold ZA6
 have: ∀l:List Int,(∀x∈l,0<=x/\x<=64)->sumL (cutL l ((0:Nat):Int))=0:=by
  intro l
  induction l with
  | nil=>intro _;rfl
  | cons x l ih=>
   intro h
   have h1:=h x (by simp)
   have h2:=ih λy hy=>h y (by simp[hy])
   simp only[cutL,List.map_cons,sumL]at h2⊢
   rw[h2,ZEt];split<;>omega
 rw[this l h];simpa using hs
theorem ZPf(x:Int):G269 (x,())=some (wi x 0 512,()):=by
 unfold G269 F269
 rw[show G233 (x,0,512,())=some (wi x 0 512,())from ZCo _ _ _];rfl
theorem ZPg(x:Int):G281 (x,())=some (wi x 0 512,()):=by
 unfold G281 F281
 rw[show G121 (x,0,512,())=some (wi x 0 512,())from ZA8 _ _ _];rfl
theorem ZVF(s:Int)(l:List Int)(hs:wi s 0 512=true)(hd:demB l=true):G374 (s,l,())=some (((best (ZA6 s l) 64:Nat):Int),()):=by
 obtain⟨h8,h⟩:=(ZFz l).1 hd
 unfold G374 F374
 refine(ZAW (f:=s374_0 G373 G269 G375 G376) (K:=λt6=>some (t6.2.2.1,())) (λi=>(s,l,((best (ZA6 s l) i:Nat):Int),((i+1:Nat):Int),())) 64 (by omega) ?_ ?_).trans rfl
 ·intro i hi rec K
  have e1:w64 (((i+1:Nat):Int)+1)=((i+1+1:Nat):Int):=ZAB
  simp only[s374_0]
  rw[ZA,ZPY l (by omega),hd,ZPf,hs,ZPa l (by omega),e1]
  simp only[al_bind_some,al_cond_true]
  rw[ZLC 64 (by omega) (by omega) _ (by simp[cutL];omega) (ZHC h (by omega))]
  simp only[al_bind_some]
  by_cases hf:sumL (cutL l ((i+1:Nat):Int))<=s
  ·rw[ZA hf]
   have:best (ZA6 s l) (i+1)=i+1:=by
    unfold best;rw[al_if_pos (by unfold ZA6;exact ZAL hf)]
   rw[this]
  ·rw[ZAA hf]
   have:best (ZA6 s l) (i+1)=best (ZA6 s l) i:=by
    conv=>lhs;unfold best
    rw[al_if_neg (by unfold ZA6;rw[ZAG hf];simp)]
   rw[this]
 ·intro rec K
  simp only[s374_0]
  rw[ZAA]
theorem ZVG(s:Int)(l:List Int)(hs:wi s 0 512=true)(hd:demB l=true):G297 (s,l,())=some (((best (ZA6 s l) 64:Nat):Int),()):=by
 obtain⟨h8,h⟩:=(ZFz l).1 hd
 have hs':=ZAr.1 hs
 have key: ∀(n m:Nat),n<=64->n<m->ZAD (s297_0 G296 G281 G298 G299) m (s,l,(n:Int),()) (λt6=>some (t6.2.2.1,()))=some (((best (ZA6 s l) n:Nat):Int),()):=by
  intro n
  induction n with
  | zero=>
   intro m _ hm
   obtain⟨m,rfl⟩: ∃k,m=k+1:=⟨m-1,by omega⟩
   have hf:=ZPe hs'.1 h
   unfold ZA6 at hf
   rw[ZAT]
   simp only[s297_0]
   rw[ZLG l hd _ (by omega)]
   simp only[al_bind_some]
   rw[ZLD 64 (by omega) (by omega) _ (by simp[cutL];omega) (ZHC h (by omega))]
   simp only[al_bind_some]
   rw[ZAA (by have:=of_decide_eq_true hf;omega)]
   rfl
  | succ n ih=>
   intro m hn hm
   obtain⟨m,rfl⟩: ∃k,m=k+1:=⟨m-1,by omega⟩
   have e1:w64 (((n+1:Nat):Int) -1)=(n:Int):=by rw[ZAB];omega
   rw[ZAT]
   simp only[s297_0]
   rw[ZLG l hd _ (by omega)]
   simp only[al_bind_some]
   rw[ZLD 64 (by omega) (by omega) _ (by simp[cutL];omega) (ZHC h (by omega))]
   simp only[al_bind_some]
   by_cases hf:sumL (cutL l ((n+1:Nat):Int))<=s
   ·rw[ZAA]
    have:best (ZA6 s l) (n+1)=n+1:=by
     unfold best;rw[al_if_pos (by unfold ZA6;exact ZAL hf)]
    rw[this]
   ·rw[ZA,e1]
    have:best (ZA6 s l) (n+1)=best (ZA6 s l) n:=by
     conv=>lhs;unfold best
     rw[al_if_neg (by unfold ZA6;rw[ZAG hf];simp)]
    rw[this]
    exact ih m (by omega) (by omega)
 unfold G297 F297
 dsimp only
 rw[ZLE l (by omega),hd,ZPg,hs]
 simp only[al_bind_some,ZAF,ZAH,al_cond_true,al_cond_false]
 exact key 64 fuel (by omega) (by rw[ZBu];omega)
structure SharesP(s:Int)(l R:List Int):Prop where
 len:R.length=l.length
 ex: ∃(v:Nat) (left:Int),v<=64/\ZA6 s l v=true/\(v=64\/ZA6 s l (v+1)=false)/\0<=left/\sumL R+left=s/\
  (∀(j:Nat) x y,R[j]?=some x->l[j]?=some y->(y<=v/\x=y)\/(v<y/\(x=v\/x=v+1)/\(left=0\/x=v+1)))
theorem ZVH(s:Int)(l:List Int)(hs:wi s 0 512=true)(hd:demB l=true)(K:Int×List Int×Int×List Int×Int×Int×Unit->Option (List Int×Unit)):
  ∃R left,SharesP s l R/\ZAD (s210_0 G296 G281 G297 G298 G299) fuel ((best (ZA6 s l) 64:Nat),cutL l (best (ZA6 s l) 64:Nat),w64 (s-sumL (cutL l (best (ZA6 s l) 64:Nat))),l,Int.ofNat l.length,0,()) K=K ((best (ZA6 s l) 64:Nat),R,left,l,Int.ofNat l.length,Int.ofNat l.length,()):=by
 obtain⟨h8,h⟩:=(ZFz l).1 hd
 have hs':=ZAr.1 hs
 have hv:=ZPb (ZA6 s l) 64
 have hP:=ZPc (ZA6 s l) (ZPe hs'.1 h) 64
 have hN:=ZPd (ZA6 s l) 64
 generalize best (ZA6 s l) 64=v at hv hP hN⊢
 have hc:=ZLB 64 (by omega) (cutL l v) (ZHC h (by omega))
 have hcl:(cutL l (v:Int)).length=l.length:=by simp[cutL]
 have hf:=of_decide_eq_true hP
 rw[ZAB]
 obtain⟨t,⟨R,left,rfl,i1,i2,i3,i4,i5⟩,e⟩:=ZBM (f:=s210_0 G296 G281 G297 G298 G299) (K:=K) (t:=((v:Int),cutL l v,s-sumL (cutL l v),l,Int.ofNat l.length,0,())) l.length
  (λi t=> ∃(R:List Int) (left:Int),t=((v:Int),R,left,l,Int.ofNat l.length,(i:Int),())/\R.length=l.length/\(0<=left/\left<=512)/\sumL R+left=s/\
   (∀(j:Nat) x y,j<i->R[j]?=some x->l[j]?=some y->(y<=v/\x=y)\/(v<y/\(x=v\/x=v+1)/\(left=0\/x=v+1)))/\(∀(j:Nat) x y,i<=j->R[j]?=some x->l[j]?=some y->x=mn y v))
  (by omega) ⟨cutL l v,_,rfl,hcl,⟨by omega,by omega⟩,by omega,λj x y hj=>by omega,λj x y _ hx hy=>by rw[ZVE,hy]at hx;simpa using hx.symm⟩
  (by
   rintro i _ hi ⟨R,left,rfl,i1,i2,i3,i4,i5⟩
   have hx:l[i]?=some l[i]:=by simp
   have hr:R[i]?=some R[i]:=by simp
   have e1:w64 ((i:Int)+1)=((i+1:Nat):Int):=ZAB
   have hcur:=i5 i _ _ (Nat.le_refl _) hr hx
   have hmn:=ZLF l[i] v
   have hb:=h l[i] (by simp)
   by_cases hg:l[i]>(v:Int)
   ·have hcv:R[i]=v:=by rw[hcur,ZEt,al_if_pos]
    by_cases hz:left>0
    ·refine⟨_,⟨R.set i (v+1),left-1,rfl,by simp[i1],⟨by omega,by omega⟩,?_,?_,?_⟩,λrec K=> ?_⟩
     ·rw[ZPX R i R[i] _ hr];omega
     ·intro j x y hj hx' hy'
      rw[List.getElem?_set]at hx'
      by_cases hji:i=j
      ·subst hji
       rw[al_if_pos rfl,al_if_pos]at hx'
       rw[hx]at hy'
       cases hx';cases hy'
       exact .inr ⟨hg,.inr rfl,.inr rfl⟩
      ·rw[al_if_neg hji]at hx'
       rcases i4 j x y (by omega) hx' hy' with q | ⟨q1,q2,q3⟩
       ·exact .inl q
       ·exact .inr ⟨q1,q2,by omega⟩
     ·intro j x y hj hx' hy'
      rw[List.getElem?_set,al_if_neg]at hx'
      exact i5 j x y (by omega) hx' hy'
     ·simp only[s210_0]
      rw[ZA,ZAE hx,ZA hg,ZA hz]
      have hr':=λ(K:Int->Option (List Int×Unit))=>ZAE (K:=K) hr
      simp only[hr',ZAX,hr,al_bind_some]
      rw[e1,ZAB (n:=left-1) (by omega) (by omega),hcv,ZAB]
    ·refine⟨_,⟨R,left,rfl,i1,i2,i3,?_,λj x y hj=>i5 j x y (by omega)⟩,λrec K=> ?_⟩
     ·intro j x y hj hx' hy'
      by_cases hji:j=i
      ·subst hji
       rw[hr]at hx';rw[hx]at hy'
       cases hx';cases hy'
       exact .inr ⟨hg,.inl hcv,.inl (by omega)⟩
      ·exact i4 j x y (by omega) hx' hy'
     ·simp only[s210_0]
      rw[ZA,ZAE hx,ZA hg,ZAA hz,e1]
   ·refine⟨_,⟨R,left,rfl,i1,i2,i3,?_,λj x y hj=>i5 j x y (by omega)⟩,λrec K=> ?_⟩
    ·intro j x y hj hx' hy'
     by_cases hji:j=i
     ·subst hji
      rw[hr]at hx';rw[hx]at hy'
      cases hx';cases hy'
      exact .inl ⟨by omega,by rw[hcur,ZEt,al_if_neg]⟩
     ·exact i4 j x y (by omega) hx' hy'
    ·simp only[s210_0]
     rw[ZA,ZAE hx,ZAA hg,e1])
  (by
   rintro _ ⟨R,left,rfl,_⟩ rec K
   simp only[s210_0]
   rw[ZAA])
 exact⟨R,left,⟨i1,v,left,hv,hP,hN,i2.1,i3,λj x y hx hy=>i4 j x y (by rw[<-i1];exact(al_get_iff.mp hx).1) hx hy⟩,e⟩
theorem ZVI(s:Int)(l:List Int)(hl:l.length<=1048576): ∃R,G361 (s,l,())=some (R,())/\G210 (s,l,())=some (R,())/\((R=[]/\(demB l && wi s 0 512)=false)\/((demB l && wi s 0 512)=true/\SharesP s l R)):=by
 unfold G361 F361 G210 F210
 dsimp only
 rw[ZPY l hl,ZLE l hl]
 simp only[al_bind_some]
 cases hd:demB l
 ·exact⟨[],rfl,rfl,.inl ⟨rfl,rfl⟩⟩
 ·simp only[ZAF,ZAH,al_cond_true,ZPf,ZPg,al_bind_some]
  cases hs:wi s 0 512
  ·exact⟨[],rfl,rfl,.inl ⟨rfl,rfl⟩⟩
  ·obtain⟨h8,h⟩:=(ZFz l).1 hd
   have hb:=ZHC h (v:=(best (ZA6 s l) 64:Nat)) (by omega)
   have hcl:(cutL l ((best (ZA6 s l) 64:Nat):Int)).length<=1048576:=by simp[cutL];omega
   simp only[ZAF,ZAH,al_cond_false,ZVF s l hs hd,ZVG s l hs hd,al_bind_some,ZPa l hl,ZLG l hd _ (show(0:Int)<=((best (ZA6 s l) 64:Nat):Int)by omega),ZLC 64 (by omega) (by omega) _ hcl hb,ZLD 64 (by omega) (by omega) _ hcl hb]
   obtain⟨R,left,hR,e⟩:=ZVH s l hs hd (λt10=>some (t10.2.1,()))
   have e':s361_0 G373 G269 G374 G375 G376=s210_0 G296 G281 G297 G298 G299:=rfl
   rw[e']
   exact⟨R,e,e,.inr ⟨rfl,hR⟩⟩
theorem ZVJ{s:Int}{l R:List Int}(h:SharesP s l R)(hd:demB l=true){j:Nat}{x y:Int}(hx:R[j]?=some x)(hy:l[j]?=some y):0<=x/\x<=y:=by
 obtain⟨v,left,h1,h2,h3,h4,h5,h6⟩:=h.ex
 have:=((ZFz l).1 hd).2 y (List.mem_iff_getElem?.mpr ⟨j,hy⟩)
 rcases h6 j x y hx hy with q | q<;>omega
end Ev
namespace Ev
open Go
def scB(l:List Cue):Bool:=((G119 (l,())).map λx=>x.1).getD false
def wdB(l:List Gust):Bool:=((G120 (l,())).map λx=>x.1).getD false
theorem ZIk(l:List Cue)(hn:ZBw l)(hl:l.length<=1048576):G119 (l,())=some (scB l,()):=by
 obtain⟨b,h,_⟩:=ZK0 l hn hl
 have h:G119 (l,())=some (b,()):=h
 unfold scB;rw[h];rfl
theorem ZLH(l:List Cue)(hn:ZBw l)(hl:l.length<=1048576):G231 (l,())=some (scB l,()):=(ZPC l hn).trans (ZIk l hn hl)
theorem ZE2(l:List Gust)(hl:l.length<=1048576):G120 (l,())=some (wdB l,()):=by
 obtain⟨b,h⟩:=ZPL l hl
 have h:G120 (l,())=some (b,()):=h
 unfold wdB;rw[h];rfl
theorem ZIl(l:List Gust)(hl:l.length<=1048576):G232 (l,())=some (wdB l,()):=by
 have e:G232=G120:=ZPK
 rw[e];exact ZE2 l hl
def ZA2(s:ZAN):Bool:=rigB s.1 && (scB s.2.1 && (wdB s.2.2.1 && wi s.2.2.2.1 0 64))
theorem ZDE(s:ZAN)(h:ShowOK s):G50 (s,())=some (ZA2 s,()):=by
 unfold G50 F50 ZA2
 dsimp only
 rw[ZDV s.1 h.rig h.devs]
 simp only[al_bind_some]
 cases rigB s.1
 ·rfl
 ·simp only[al_cond_true,Bool.true_and]
  rw[ZIk s.2.1 h.names h.score]
  simp only[al_bind_some]
  cases scB s.2.1
  ·rfl
  ·simp only[al_cond_true,Bool.true_and]
   rw[ZE2 s.2.2.1 h.wind]
   simp only[al_bind_some]
   cases wdB s.2.2.1
   ·rfl
   ·simp only[al_cond_true,Bool.true_and]
    rw[show G121 (s.2.2.2.1,0,64,())=some (wi s.2.2.2.1 0 64,())from ZA8 _ _ _];rfl
theorem ZCQ(s:ZAN)(h:ShowOK s):G140 (s,())=some (ZA2 s,()):=by
 unfold G140 F140 ZA2
 dsimp only
 rw[ZE1 s.1 h.rig h.devs]
 simp only[al_bind_some]
 cases rigB s.1
 ·rfl
 ·simp only[al_cond_true,Bool.true_and]
  rw[ZLH s.2.1 h.names h.score]
  simp only[al_bind_some]
  cases scB s.2.1
  ·rfl
  ·simp only[al_cond_true,Bool.true_and]
   rw[ZIl s.2.2.1 h.wind]
   simp only[al_bind_some]
   cases wdB s.2.2.1
   ·rfl
   ·simp only[al_cond_true,Bool.true_and]
    rw[show G233 (s.2.2.2.1,0,64,())=some (wi s.2.2.2.1 0 64,())from ZCo _ _ _];rfl
structure ShowV(s:ZAN):Prop where
 ok:ShowOK s
 rig:RigP s.1
 score:scB s.2.1=true
 wind:wdB s.2.2.1=true
 tick:0<=s.2.2.2.1/\s.2.2.2.1<=64
theorem ZDl{s:ZAN}(h:ShowOK s)(hb:ZA2 s=true):ShowV s:=by
 unfold ZA2 at hb
 simp only[ZAM]at hb
 exact⟨h,(ZDW _).1 hb.1,hb.2.1,hb.2.2.1,ZAr.1 hb.2.2.2⟩
theorem ZE3{s:ZAN}(h:ShowV s):ZA2 s=true:=by
 unfold ZA2
 rw[(ZDW _).2 h.rig,h.score,h.wind,ZAa h.tick.1 h.tick.2];rfl
theorem ZVK{l:List Cue}(hn:ZBw l)(hl:l.length<=1048576)(hv:scB l=true)(name:Str){t:Int}(ht:0<=t):G249 (l,name,t,())=G110 (l,name,t,()):=by
 unfold G249 F249 G110 F110
 dsimp only
 rw[ZIk l hn hl,hv]
 simp only[al_bind_some,ZAF,ZAH,al_cond_true]
 rw[ZAA]
 have e:s249_0 G323=s110_0 G119 G209:=by
  have:G323=G209:=ZPE
  rw[this];rfl
 have e2:G323=G209:=ZPE
 rw[e,e2]
def lvl(l:List Cue)(name:Str)(t:Int):Int:=((G110 (l,name,t,())).map λx=>x.1).getD 0
theorem ZLI{l:List Cue}(hn:ZBw l)(hl:l.length<=1048576)(name:Str)(t:Int):G110 (l,name,t,())=some (lvl l name t,()):=by
 obtain⟨v,h⟩:=ZUq l hn hl name t
 have h:G110 (l,name,t,())=some (v,()):=h
 unfold lvl;rw[h];rfl
theorem ZPh{l:List Cue}(hn:ZBw l)(hl:l.length<=1048576)(hv:scB l=true)(name:Str){t:Int}(ht:0<=t):G249 (l,name,t,())=some (lvl l name t,()):=(ZVK hn hl hv name ht).trans (ZLI hn hl name t)
def ZHD(f:Device->Bool)(r:List Device)(i:Nat):Bool:=match r[i]? with
 | some d=>f d
 | none=>false
def ZBA(f:Device->Bool)(r:List Device)(n:Nat):List Nat:=(List.range n).filter (ZHD f r)
theorem ZPi(f:Device->Bool)(r:List Device)(i:Nat)(h:i<r.length):ZBA f r (i+1)=ZBA f r i++(if f r[i]=true then [i]else []):=by
 unfold ZBA
 rw[List.range_succ,List.filter_append]
 congr 1
 have hx:r[i]?=some r[i]:=by simp
 simp only[List.filter_cons,List.filter_nil,ZHD,hx]
theorem ZPj{f:Device->Bool}{r:List Device}{n i:Nat}(h:i∈ZBA f r n): ∃d,r[i]?=some d/\f d=true:=by
 unfold ZBA at h
 have h:=(List.mem_filter.mp h).2
 unfold ZHD at h
 cases hd:r[i]? with
 | none=>rw[hd]at h;cases h
 | some d=>rw[hd]at h;exact⟨d,rfl,h⟩
theorem ZHE(f:Device->Bool)(r:List Device)(n:Nat):(ZBA f r n).length<=n:=by
 unfold ZBA
 exact Nat.le_trans (List.length_filter_le _ _) (by simp)
theorem ZPk{f g:Device->Bool}{r:List Device}(h: ∀d∈r,f d=g d)(n:Nat):ZBA f r n=ZBA g r n:=by
 unfold ZBA
 refine List.filter_congr λi _=> ?_
 unfold ZHD
 cases hd:r[i]? with
 | none=>rfl
 | some d=>exact h d (List.mem_iff_getElem?.mpr ⟨i,hd⟩)
theorem ZPl{f:Device->Bool}{r:List Device}(h: ∀d∈r,f d=false)(n:Nat):ZBA f r n=[]:=by
 rw[ZPk h n]
 unfold ZBA
 rw[List.filter_eq_nil_iff]
 intro i _
 unfold ZHD
 cases r[i]?<;>simp
def dem(sc:List Cue)(t:Int)(d:Device):Int:=mn (lvl sc d.Name t) d.Most
def ZE4(sc:List Cue)(t:Int)(r:List Device)(i:Nat):Int:=((r[i]?).map (dem sc t)).getD 0
theorem ZLJ{sc:List Cue}{t:Int}{r:List Device}{i:Nat}{d:Device}(h:r[i]?=some d):ZE4 sc t r i=dem sc t d:=by
 unfold ZE4;rw[h];rfl
def onI(p:Device)(d:Device):Bool:=decide (d.Line=p.Name)
def onS(p:Device)(b:Bool)(d:Device):Bool:=decide (d.Kind=2) && (decide (d.Line=p.Name) && b)
section
variable {s:ZAN} (h:ShowV s) (t:Int)
include h
theorem ZVL(p:Device)(out:List Int)(rng:List Device)(n i0:Int)(ht:wi t 0 (w64 (s.2.2.2.1-1))=true->0<=t)(K:Int×(List Device×List Cue×List Gust×Int×Unit)×List Int×Device×List Int×List Int×List Device×Int×Int×List Device×Int×Int×Unit->Option (List Int×Unit)):
  ZAD (s329_2 G233 G249 G358 G361) fuel (t,s,out,p,([]:List Int),([]:List Int),rng,n,i0,s.1,Int.ofNat s.1.length,0,()) K=
   K (t,s,out,p,(ZBA (onS p (wi t 0 (w64 (s.2.2.2.1-1)))) s.1 s.1.length).map (ZE4 s.2.1 t s.1),(ZBA (onS p (wi t 0 (w64 (s.2.2.2.1-1)))) s.1 s.1.length).map Int.ofNat,rng,n,i0,s.1,Int.ofNat s.1.length,Int.ofNat s.1.length,()):=by
 have hlen:=h.rig.len
 refine ZAW (f:=s329_2 G233 G249 G358 G361) (K:=K) (λi=>(t,s,out,p,(ZBA (onS p (wi t 0 (w64 (s.2.2.2.1-1)))) s.1 i).map (ZE4 s.2.1 t s.1),(ZBA (onS p (wi t 0 (w64 (s.2.2.2.1-1)))) s.1 i).map Int.ofNat,rng,n,i0,s.1,Int.ofNat s.1.length,(i:Int),())) s.1.length (by omega) ?_ ?_
 ·intro i hi rec K
  have hx:s.1[i]?=some s.1[i]:=by simp
  have e1:w64 ((i:Int)+1)=((i+1:Nat):Int):=ZAB
  have hl1:=ZHE (onS p (wi t 0 (w64 (s.2.2.2.1-1)))) s.1 i
  rw[ZPi _ _ i hi]
  simp only[s329_2]
  rw[ZA,ZAE hx,e1,show G233 (t,0,w64 (s.2.2.2.1-1),())=some (wi t 0 (w64 (s.2.2.2.1-1)),())from ZCo _ _ _]
  simp only[al_bind_some]
  by_cases k2:s.1[i].Kind=2
  ·rw[ZA k2]
   by_cases kl:s.1[i].Line=p.Name
   ·rw[ZA kl]
    cases hw:wi t 0 (w64 (s.2.2.2.1-1))
    ·rw[al_if_neg (by simp[onS])]
     simp
    ·rw[al_if_pos (by simp[onS,k2,kl]),ZPh h.ok.names h.ok.score h.score _ (ht hw)]
     simp only[al_bind_some,al_cond_true]
     rw[show G358 (lvl s.2.1 s.1[i].Name t,s.1[i].Most,())=some (mn (lvl s.2.1 s.1[i].Name t) s.1[i].Most,())from ZIY _ _]
     simp only[al_bind_some]
     rw[hw]at hl1
     rw[ZAC,ZAC,List.map_append,List.map_append]
     simp only[List.map_cons,List.map_nil,ZLJ hx]
     rfl
   ·rw[ZAA kl,al_if_neg (by simp[onS,kl])]
    simp
  ·rw[ZAA k2,al_if_neg (by simp[onS,k2])]
   simp
 ·intro rec K
  simp only[s329_2]
  rw[ZAA]
theorem ZVM(p:Device)(out:List Int)(rng:List Device)(n i0:Int)(K:Int×(List Device×List Cue×List Gust×Int×Unit)×List Int×Device×List Int×List Int×List Device×Int×Int×List Device×Int×Int×Unit->Option (List Int×Unit)):
  ZAD (s111_2 G50 G121 G110 G210) fuel (t,s,out,p,([]:List Int),([]:List Int),rng,n,i0,s.1,Int.ofNat s.1.length,0,()) K=
   K (t,s,out,p,(ZBA (onI p) s.1 s.1.length).map Int.ofNat,(ZBA (onI p) s.1 s.1.length).map (ZE4 s.2.1 t s.1),rng,n,i0,s.1,Int.ofNat s.1.length,Int.ofNat s.1.length,()):=by
 have hlen:=h.rig.len
 refine ZAW (f:=s111_2 G50 G121 G110 G210) (K:=K) (λi=>(t,s,out,p,(ZBA (onI p) s.1 i).map Int.ofNat,(ZBA (onI p) s.1 i).map (ZE4 s.2.1 t s.1),rng,n,i0,s.1,Int.ofNat s.1.length,(i:Int),())) s.1.length (by omega) ?_ ?_
 ·intro i hi rec K
  have hx:s.1[i]?=some s.1[i]:=by simp
  have e1:w64 ((i:Int)+1)=((i+1:Nat):Int):=ZAB
  have hl1:=ZHE (onI p) s.1 i
  rw[ZPi _ _ i hi]
  simp only[s111_2]
  rw[ZA,ZAE hx,e1]
  by_cases kl:s.1[i].Line=p.Name
  ·rw[ZA kl,al_if_pos (by simp[onI,kl]),ZAC,ZLI h.ok.names h.ok.score]
   simp only[al_bind_some]
   rw[ZAC,List.map_append,List.map_append]
   simp only[List.map_cons,List.map_nil,ZLJ hx]
   rfl
  ·rw[ZAA kl,al_if_neg (by simp[onI,kl])]
   simp
 ·intro rec K
  simp only[s111_2]
  rw[ZAA]
end
def asg(out:List Int)(ws:List Nat)(xs:List Int):List Int:=(ws.zip xs).foldl (λo p=>o.set p.1 p.2) out
theorem ZVN(out:List Int)(ws:List Nat)(xs:List Int)(w:Nat)(x:Int)(h:ws.length=xs.length):asg out (ws++[w]) (xs++[x])=(asg out ws xs).set w x:=by
 unfold asg
 rw[List.zip_append h,List.foldl_append];rfl
theorem ZPm: ∀(ps:List (Nat×Int)) (out:List Int),(ps.foldl (λo p=>o.set p.1 p.2) out).length=out.length
 | [],out=>rfl
 | p::ps,out=>by rw[List.foldl_cons,ZPm ps];simp
theorem ZPn(out:List Int)(ws:List Nat)(xs:List Int):(asg out ws xs).length=out.length:=ZPm _ _
theorem ZVO(out:List Int)(xs:List Int):asg out [] xs=out:=by simp[asg]
theorem ZPo: ∀(ps:List (Nat×Int)) (out:List Int) (i:Nat) (x:Int),(ps.foldl (λo p=>o.set p.1 p.2) out)[i]?=some x->out[i]?=some x\/(i,x)∈ps
 | [],out,i,x,h=> .inl h
 | p::ps,out,i,x,h=>by
  rw[List.foldl_cons]at h
  rcases ZPo ps _ i x h with h | h
  ·rw[List.getElem?_set]at h
   by_cases hp:p.1=i
   ·rw[al_if_pos hp]at h
    by_cases hl:p.1<out.length
    ·rw[al_if_pos]at h
     cases h
     exact .inr (by rw[<-hp];simp)
    ·rw[al_if_neg]at h;cases h
   ·rw[al_if_neg hp]at h;exact .inl h
  ·exact .inr (by simp[h])
theorem ZVP{out:List Int}{ws:List Nat}{xs:List Int}{i:Nat}{x:Int}(h:(asg out ws xs)[i]?=some x):out[i]?=some x\/ ∃k:Nat,ws[k]?=some i/\xs[k]?=some x:=by
 rcases ZPo _ _ i x h with h | h
 ·exact .inl h
 ·obtain⟨k,hk⟩:=List.mem_iff_getElem?.mp h
  rw[List.getElem?_zip_eq_some]at hk
  exact .inr ⟨k,hk⟩
theorem ZPp(s:ZAN)(t:Int)(out:List Int)(ws:List Nat)(rng:List Device)(n i0:Int)(R:List Int)(hR:R.length<=ws.length)(hw: ∀w∈ws,w<out.length)(hl:ws.length<=1048576)(K:Int×(List Device×List Cue×List Gust×Int×Unit)×List Int×List Int×List Device×Int×Int×List Int×Int×Int×Unit->Option (List Int×Unit)):
  ZAD (s111_4 G50 G121 G110 G210) fuel (t,s,out,ws.map Int.ofNat,rng,n,i0,R,Int.ofNat R.length,0,()) K=
   K (t,s,asg out ws R,ws.map Int.ofNat,rng,n,i0,R,Int.ofNat R.length,Int.ofNat R.length,()):=by
 have e:=ZAW (f:=s111_4 G50 G121 G110 G210) (K:=K) (λk=>(t,s,asg out (ws.take k) (R.take k),ws.map Int.ofNat,rng,n,i0,R,Int.ofNat R.length,(k:Int),())) R.length (by omega)
  (by
   intro k hk rec K
   have hx:R[k]?=some R[k]:=by simp
   have hkw:k<ws.length:=by omega
   have hy:(ws.map Int.ofNat)[k]?=some ((ws[k]:Nat):Int):=by rw[List.getElem?_map,al_get_get hkw];rfl
   have e1:w64 ((k:Int)+1)=((k+1:Nat):Int):=ZAB
   have hlt:ws[k]<(asg out (ws.take k) (R.take k)).length:=by rw[ZPn];exact hw _ (by simp)
   have hz:(asg out (ws.take k) (R.take k))[ws[k]]?=some (asg out (ws.take k) (R.take k))[ws[k]]:=by simp
   have hx':=λ(K:Int->Option (List Int×Unit))=>ZAE (K:=K) hx
   have hy':=λ(K:Int->Option (List Int×Unit))=>ZAE (K:=K) hy
   have hz':=λ(K:Int->Option (List Int×Unit))=>ZAE (K:=K) hz
   rw[ZFy ws k hkw,ZFy R k hk,ZVN _ _ _ _ _ (by simp;omega)]
   simp only[s111_4]
   rw[ZA]
   simp only[hx',hx,hy',hy,hz',hz,ZAX,al_bind_some,e1])
  (by
   intro rec K
   simp only[s111_4]
   rw[ZAA])
 have e0:asg out (ws.take 0) (R.take 0)=out:=by simp[asg]
 have e2:asg out (ws.take R.length) (R.take R.length)=asg out ws R:=by
  unfold asg
  rw[List.take_length]
  congr 1
  conv=>rhs;rw[List.zip_eq_zip_take_min]
  rw[Nat.min_eq_right hR,List.take_length]
 simp only[e2]at e
 rw[e0]at e
 exact e
def shr(m:Int)(l:List Int):List Int:=((G210 (m,l,())).map λx=>x.1).getD []
theorem ZIm(m:Int)(l:List Int)(hl:l.length<=1048576):G361 (m,l,())=some (shr m l,())/\G210 (m,l,())=some (shr m l,())/\((shr m l=[]/\(demB l && wi m 0 512)=false)\/((demB l && wi m 0 512)=true/\SharesP m l (shr m l))):=by
 obtain⟨R,h1,h2,h3⟩:=ZVI m l hl
 have:shr m l=R:=by unfold shr;rw[h2];rfl
 rw[this]
 exact⟨h1,h2,h3⟩
theorem ZPq(m:Int)(l:List Int)(hl:l.length<=1048576):(shr m l).length<=l.length:=by
 obtain⟨_,_,⟨e,_⟩ | ⟨_,h⟩⟩:=ZIm m l hl
 ·rw[e];simp
 ·rw[h.len];exact Nat.le_refl _
def ZCK(s:ZAN)(t:Int)(p:Device):List Int:=(ZBA (onI p) s.1 s.1.length).map (ZE4 s.2.1 t s.1)
def ZE5(s:ZAN)(t:Int)(out:List Int)(p:Device):List Int:=if p.Kind=1 then asg out (ZBA (onI p) s.1 s.1.length) (shr p.Most (ZCK s t p))else out
def ZDF(s:ZAN)(t:Int)(i:Nat):List Int:=(s.1.take i).foldl (ZE5 s t) (List.replicate s.1.length 0)
def ZA0(s:ZAN)(t:Int):List Int:=if wi t 0 (s.2.2.2.1-1)=true then ZDF s t s.1.length else List.replicate s.1.length 0
theorem ZVQ(s:ZAN)(t:Int)(out:List Int)(p:Device):(ZE5 s t out p).length=out.length:=by
 unfold ZE5;split
 ·exact ZPn _ _ _
 ·rfl
theorem ZIn(s:ZAN)(t:Int)(i:Nat)(h:i<s.1.length):ZDF s t (i+1)=ZE5 s t (ZDF s t i) s.1[i]:=by
 unfold ZDF
 rw[ZFy s.1 i h,List.foldl_append];rfl
theorem ZIo(s:ZAN)(t:Int): ∀i,i<=s.1.length->(ZDF s t i).length=s.1.length
 | 0,_=>by simp[ZDF]
 | i+1,h=>by rw[ZIn s t i h,ZVQ,ZIo s t i (by omega)]
theorem ZEL(s:ZAN)(t:Int):(ZA0 s t).length=s.1.length:=by
 unfold ZA0;split
 ·exact ZIo s t _ (Nat.le_refl _)
 ·simp
theorem ZPr{f:Device->Bool}{r:List Device}{n:Nat} : ∀w∈ZBA f r n,w<r.length:=λw hw=>by
 obtain⟨d,hd,_⟩:=ZPj hw
 exact(al_get_iff.mp hd).1
theorem ZVR{d:Device}(h:devB d=true):1<=d.Name.length:=by
 unfold devB isNm at h
 simp only[ZAM]at h
 have:=(ZAr.1 h.1.2).1
 simp at this;omega
theorem ZVS{d:Device}(h:devB d=true)(hk:d.Kind=1):d.Line=[]:=by
 unfold devB at h
 rw[al_if_pos hk]at h
 simp only[ZAM,ZAZ]at h
 exact h.2.1
theorem ZLK{r:List Device}(h:RigP r){p d:Device}(hp:p∈r)(hd:d∈r)(hl:d.Line=p.Name):p.Kind=d.Kind-1/\d.Kind≠1:=by
 have hk:d.Kind≠1:=λhk=>by
  have h1:=ZVS (h.dev d hd) hk
  have h2:=ZVR (h.dev p hp)
  rw[<-hl,h1]at h2
  simp at h2
 obtain⟨k,x,_,h1,h2,h3⟩:=ZVC h hd hk
 obtain⟨j,hj⟩:=List.mem_iff_getElem?.mp hp
 have:k=j:=ZVB h h1 hj (h2.trans hl)
 subst this
 rw[hj]at h1
 cases h1
 exact⟨h3,hk⟩
section
variable {s:ZAN} (h:ShowV s) (t:Int)
include h
theorem ZHF(p:Device):(ZCK s t p).length<=8:=by
 have:=ZHE (onI p) s.1 s.1.length
 have:=h.rig.len
 simp[ZCK];omega
theorem ZLL:G111 (s,t,())=some (ZA0 s t,()):=by
 have hlen:=h.rig.len
 have es:(s.1,s.2.1,s.2.2.1,s.2.2.2.1,())=s:=rfl
 have ew:w64 (s.2.2.2.1-1)=s.2.2.2.1-1:=ZAB (by have:=h.tick;omega) (by have:=h.tick;omega)
 unfold G111 F111 ZA0
 dsimp only
 try simp only[es]
 rw[ZDE s h.ok,ZE3 h]
 simp only[al_bind_some,ZAF,al_cond_false]
 rw[ZBB (by simp),ZAC,ew,show G121 (t,0,s.2.2.2.1-1,())=some (wi t 0 (s.2.2.2.1-1),())from ZA8 _ _ _]
 simp only[al_bind_some]
 have ez:List.replicate (Int.toNat (Int.ofNat s.1.length)) (Ty.zero .int)=List.replicate s.1.length (0:Int):=rfl
 rw[ez]
 cases hw:wi t 0 (s.2.2.2.1-1)
 ·rfl
 ·simp only[ZAF,al_cond_false,if_true]
  refine(ZAW (f:=s111_0 G50 G121 G110 G210) (K:=λt15=>some (t15.2.2.1,())) (λi=>(t,s,ZDF s t i,s.1,Int.ofNat s.1.length,(i:Int),())) s.1.length (by omega) ?_ ?_)
  ·intro i hi rec K
   have hx:s.1[i]?=some s.1[i]:=by simp
   have e1:w64 ((i:Int)+1)=((i+1:Nat):Int):=ZAB
   rw[ZIn s t i hi]
   unfold ZE5
   simp only[s111_0,es]
   rw[ZA,ZAE hx]
   by_cases k1:s.1[i].Kind=1
   ·rw[ZAL k1,al_if_pos k1]
    simp only[ZAF,al_cond_false]
    rw[ZVM h]
    try simp only[es]
    have hq:=ZIm s.1[i].Most (ZCK s t s.1[i]) (by have:=ZHF h t s.1[i];omega)
    have hq2:=hq.2.1
    unfold ZCK at hq2
    rw[hq2]
    simp only[al_bind_some]
    rw[ZPp _ _ _ _ _ _ _ _ (by have:=ZPq s.1[i].Most (ZCK s t s.1[i]) (by have:=ZHF h t s.1[i];omega);simpa[ZCK]using this) (by rw[ZIo s t i (by omega)];exact ZPr) (by have:=ZHE (onI s.1[i]) s.1 s.1.length;omega)]
    simp only[es,e1]
    rfl
   ·rw[ZAG k1,al_if_neg k1]
    simp only[ZAH,al_cond_true,e1]
  ·intro rec K
   simp only[s111_0]
   rw[ZAA]
theorem ZPs:G329 (s,t,())=some (ZA0 s t,()):=by
 have hlen:=h.rig.len
 have es:(s.1,s.2.1,s.2.2.1,s.2.2.2.1,())=s:=rfl
 have ew:w64 (s.2.2.2.1-1)=s.2.2.2.1-1:=ZAB (by have:=h.tick;omega) (by have:=h.tick;omega)
 unfold G329 F329
 dsimp only
 try simp only[es]
 rw[ZBB (by simp),ZAC]
 have ez:List.replicate (Int.toNat (Int.ofNat s.1.length)) (Ty.zero .int)=List.replicate s.1.length (0:Int):=rfl
 have e0:List.replicate s.1.length (0:Int)=if wi t 0 (s.2.2.2.1-1)=true then ZDF s t 0 else List.replicate s.1.length 0:=by split<;>rfl
 rw[ez,e0]
 refine(ZAW (f:=s329_0 G233 G249 G358 G361) (K:=λt15=>some (t15.2.2.1,())) (λi=>(t,s,if wi t 0 (s.2.2.2.1-1)=true then ZDF s t i else List.replicate s.1.length 0,s.1,Int.ofNat s.1.length,(i:Int),())) s.1.length (by omega) ?_ ?_).trans ?_
 ·intro i hi rec K
  have hx:s.1[i]?=some s.1[i]:=by simp
  have hm:s.1[i]∈s.1:=by simp
  have e1:w64 ((i:Int)+1)=((i+1:Nat):Int):=ZAB
  rw[ZIn s t i hi]
  unfold ZE5
  simp only[s329_0,es]
  rw[ZA,ZAE hx,ZVL h t _ _ _ _ _ (λhw=>(ZAr.1 hw).1),ew]
  try simp only[es]
  cases hw:wi t 0 (s.2.2.2.1-1)
  ·have en:ZBA (onS s.1[i] false) s.1 s.1.length=[]:=ZPl (λd _=>by simp[onS]) _
   rw[en]
   simp only[List.map_nil,al_len_nil]
   rw[ZAA,e1]
   rfl
  ·simp only[if_true]
   by_cases k1:s.1[i].Kind=1
   ·have ec:ZBA (onS s.1[i] true) s.1 s.1.length=ZBA (onI s.1[i]) s.1 s.1.length:=ZPk (λd hd=>by
     unfold onS onI
     by_cases hl:d.Line=s.1[i].Name
     ·have:=(ZLK h.rig hm hd hl).1
      rw[ZAL hl,ZAL (show d.Kind=2 by omega)];rfl
     ·rw[ZAG hl];simp) _
    rw[ec,al_if_pos k1]
    by_cases hz:ZBA (onI s.1[i]) s.1 s.1.length=[]
    ·rw[hz]
     simp only[List.map_nil,al_len_nil]
     rw[ZAA,e1,ZVO]
    ·rw[ZA (by simp[List.length_pos_iff,hz])]
     have hq:=ZIm s.1[i].Most (ZCK s t s.1[i]) (by have:=ZHF h t s.1[i];omega)
     have hq1:=hq.1
     unfold ZCK at hq1
     rw[hq1]
     simp only[al_bind_some]
     have e4:s329_4 G233 G249 G358 G361=s111_4 G50 G121 G110 G210:=rfl
     rw[e4]
     rw[ZPp _ _ _ _ _ _ _ _ (by have:=ZPq s.1[i].Most (ZCK s t s.1[i]) (by have:=ZHF h t s.1[i];omega);simpa[ZCK]using this) (by rw[ZIo s t i (by omega)];exact ZPr) (by have:=ZHE (onI s.1[i]) s.1 s.1.length;omega)]
     simp only[es,e1]
     rfl
   ·have en:ZBA (onS s.1[i] true) s.1 s.1.length=[]:=ZPl (λd hd=>by
     unfold onS
     by_cases hl:d.Line=s.1[i].Name
     ·have:=(ZLK h.rig hm hd hl).1
      rw[ZAG (show¬d.Kind=2 by omega)];rfl
     ·rw[ZAG hl];simp) _
    rw[en,al_if_neg k1]
    simp only[List.map_nil,al_len_nil]
    rw[ZAA,e1]
 ·intro rec K
  simp only[s329_0]
  rw[ZAA]
 ·rfl
theorem ZLM: ∀(n:Nat),n<=s.1.length-> ∀(i:Nat) (x:Int) (d:Device),(ZDF s t n)[i]?=some x->s.1[i]?=some d->x=0\/(d.Kind=2/\0<=x/\x<=d.Most)
 | 0,_,i,x,d,hx,hd=>by
  unfold ZDF at hx
  simp only[List.take_zero,List.foldl_nil]at hx
  rw[List.getElem?_replicate]at hx
  split at hx
  ·cases hx;exact .inl rfl
  ·cases hx
 | n+1,hn,i,x,d,hx,hd=>by
  rw[ZIn s t n hn]at hx
  unfold ZE5 at hx
  by_cases k1:s.1[n].Kind=1
  ·rw[al_if_pos k1]at hx
   rcases ZVP hx with hx | ⟨k,h1,h2⟩
   ·exact ZLM n (by omega) i x d hx hd
   ·right
    obtain⟨e,he,hon⟩:=ZPj (List.mem_iff_getElem?.mpr ⟨k,h1⟩)
    rw[hd]at he;cases he
    have hl:d.Line=s.1[n].Name:=by simpa[onI]using hon
    have hk:=(ZLK h.rig (by simp:s.1[n]∈s.1) (List.mem_iff_getElem?.mpr ⟨i,hd⟩) hl).1
    have hw:(ZCK s t s.1[n])[k]?=some (dem s.2.1 t d):=by
     unfold ZCK
     rw[List.getElem?_map,h1]
     simp[ZLJ hd]
    obtain⟨_,_,⟨e,_⟩ | ⟨hb,hS⟩⟩:=ZIm s.1[n].Most (ZCK s t s.1[n]) (by have:=ZHF h t s.1[n];omega)
    ·rw[e]at h2;simp at h2
    ·have:=ZVJ hS (by revert hb;cases demB (ZCK s t s.1[n])<;>simp) h2 hw
     have hm:=ZLF (lvl s.2.1 d.Name t) d.Most
     unfold dem at this
     exact⟨by omega,by omega,by omega⟩
  ·rw[al_if_neg k1]at hx
   exact ZLM n (by omega) i x d hx hd
theorem ZPt{i:Nat}{x:Int}{d:Device}(hx:(ZA0 s t)[i]?=some x)(hd:s.1[i]?=some d):x=0\/(d.Kind=2/\0<=x/\x<=d.Most):=by
 unfold ZA0 at hx
 split at hx
 ·exact ZLM h t _ (Nat.le_refl _) i x d hx hd
 ·rw[List.getElem?_replicate]at hx
  split at hx
  ·cases hx;exact .inl rfl
  ·cases hx
end
theorem ZVT(s:ZAN)(h:ShowOK s)(t:Int): ∃L,G253 (s,t,())=some (L,())/\G111 (s,t,())=some (L,())/\L.length<=8:=by
 have es:(s.1,s.2.1,s.2.2.1,s.2.2.2.1,())=s:=rfl
 cases hb:ZA2 s
 ·refine⟨[],?_,?_,by simp⟩
  ·unfold G253 F253
   try simp only[es]
   rw[ZCQ s h,hb];rfl
  ·unfold G111 F111
   try simp only[es]
   rw[ZDE s h,hb];rfl
 ·have hv:=ZDl h hb
  refine⟨ZA0 s t,?_,ZLL hv t,by rw[ZEL];exact hv.rig.len⟩
  unfold G253 F253
  try simp only[es]
  rw[ZCQ s h,hb]
  simp only[al_bind_some,ZAF,al_cond_false]
  rw[ZPs hv t];rfl
end Ev
namespace Ev
open Go
def thr1(s:ZAN)(t:Int)(i:Nat):List Throw:=match s.1[i]?,(ZA0 s t)[i]? with
 | some d,some x=>if x>0 then [⟨d.Name,t,⟨⟨d.At.X,d.At.Y⟩,d.Heading,d.Tilt,x⟩⟩]else []
 | _,_=>[]
def thrN(s:ZAN)(t:Int)(n:Nat):List Throw:=(List.range n).flatMap (thr1 s t)
def ZDm(s:ZAN)(n:Nat):List Throw:=(List.range n).flatMap λ(t:Nat)=>thrN s (t:Int) s.1.length
theorem ZLN(s:ZAN)(t:Int)(n:Nat):thrN s t (n+1)=thrN s t n++thr1 s t n:=by
 unfold thrN;rw[List.range_succ,List.flatMap_append];simp
theorem ZLO(s:ZAN)(n:Nat):ZDm s (n+1)=ZDm s n++thrN s (n:Int) s.1.length:=by
 unfold ZDm;rw[List.range_succ,List.flatMap_append];simp
theorem ZVU(s:ZAN)(t:Int)(i:Nat):(thr1 s t i).length<=1:=by
 unfold thr1
 split
 ·split<;>simp
 ·simp
theorem ZIp(s:ZAN)(t:Int): ∀n,(thrN s t n).length<=n
 | 0=>by simp[thrN]
 | n+1=>by
  have:=ZIp s t n
  have:=ZVU s t n
  rw[ZLN];simp;omega
theorem ZIq(s:ZAN)(h:s.1.length<=8): ∀n,(ZDm s n).length<=8*n
 | 0=>by simp[ZDm]
 | n+1=>by
  have:=ZIq s h n
  have:=ZIp s (n:Int) s.1.length
  rw[ZLO];simp;omega
section
variable {s:ZAN} (h:ShowV s)
include h
theorem ZVV(t:Int)(acc:List Throw)(ha:acc.length<=1048576)(K:(List Device×List Cue×List Gust×Int×Unit)×List Throw×Int×List Int×Int×Int×Unit->Option (List Throw×Unit)):
  ZAD (s309_2 G329 G348) fuel (s,acc,t,ZA0 s t,Int.ofNat (ZA0 s t).length,0,()) K=K (s,acc++thrN s t s.1.length,t,ZA0 s t,Int.ofNat (ZA0 s t).length,Int.ofNat (ZA0 s t).length,()):=by
 have es:(s.1,s.2.1,s.2.2.1,s.2.2.2.1,())=s:=rfl
 have hlen:=h.rig.len
 have hL:=ZEL s t
 have e0:acc=acc++thrN s t 0:=by simp[thrN]
 rw[hL]
 conv=>lhs;rw[e0]
 refine ZAW (f:=s309_2 G329 G348) (K:=K) (λi=>(s,acc++thrN s t i,t,ZA0 s t,Int.ofNat s.1.length,(i:Int),())) s.1.length (by omega) ?_ ?_
 ·intro i hi rec K
  have hx:s.1[i]?=some s.1[i]:=by simp
  have hy:(ZA0 s t)[i]?=some (ZA0 s t)[i]:=by simp
  have e1:w64 ((i:Int)+1)=((i+1:Nat):Int):=ZAB
  have hn:=ZIp s t i
  have hx':=λ(K:Device->Option (List Throw×Unit))=>ZAE (K:=K) hx
  have hy':=λ(K:Int->Option (List Throw×Unit))=>ZAE (K:=K) hy
  have ej: ∀x:Int,G348 (s.1[i],x,())=some ((⟨⟨s.1[i].At.X,s.1[i].At.Y⟩,s.1[i].Heading,s.1[i].Tilt,x⟩:Jet),()):=λx=>rfl
  rw[ZLN]
  unfold thr1
  rw[hx,hy]
  simp only[s309_2]
  rw[ZA]
  simp only[hx',hx,hy',hy,ZAX,al_bind_some,e1,ej,es]
  by_cases hc:(ZA0 s t)[i]>0
  ·rw[ZA hc,al_if_pos hc,ZAC,List.append_assoc]
  ·rw[ZAA hc,al_if_neg hc,List.append_nil]
 ·intro rec K
  simp only[s309_2]
  rw[ZAA]
theorem ZVW(t n i0:Int)(acc:List Throw)(ha:acc.length<=1048576)(K:(List Device×List Cue×List Gust×Int×Unit)×List Throw×Int×Int×Int×List Int×Int×Int×Unit->Option (List Throw×Unit)):
  ZAD (s59_2 G50 G111) fuel (s,acc,t,n,i0,ZA0 s t,Int.ofNat (ZA0 s t).length,0,()) K=K (s,acc++thrN s t s.1.length,t,n,i0,ZA0 s t,Int.ofNat (ZA0 s t).length,Int.ofNat (ZA0 s t).length,()):=by
 have es:(s.1,s.2.1,s.2.2.1,s.2.2.2.1,())=s:=rfl
 have hlen:=h.rig.len
 have hL:=ZEL s t
 have e0:acc=acc++thrN s t 0:=by simp[thrN]
 rw[hL]
 conv=>lhs;rw[e0]
 refine ZAW (f:=s59_2 G50 G111) (K:=K) (λi=>(s,acc++thrN s t i,t,n,i0,ZA0 s t,Int.ofNat s.1.length,(i:Int),())) s.1.length (by omega) ?_ ?_
 ·intro i hi rec K
  have hx:s.1[i]?=some s.1[i]:=by simp
  have hy:(ZA0 s t)[i]?=some (ZA0 s t)[i]:=by simp
  have e1:w64 ((i:Int)+1)=((i+1:Nat):Int):=ZAB
  have hn:=ZIp s t i
  have hx':=λ(K:Device->Option (List Throw×Unit))=>ZAE (K:=K) hx
  have hy':=λ(K:Int->Option (List Throw×Unit))=>ZAE (K:=K) hy
  rw[ZLN]
  unfold thr1
  rw[hx,hy]
  simp only[s59_2]
  rw[ZA]
  simp only[hx',hx,hy',hy,ZAX,al_bind_some,e1,es]
  by_cases hc:(ZA0 s t)[i]>0
  ·rw[ZA hc,al_if_pos hc,ZAC,List.append_assoc]
  ·rw[ZAA hc,al_if_neg hc,List.append_nil]
 ·intro rec K
  simp only[s59_2]
  rw[ZAA]
theorem ZPu: ∃n:Nat,s.2.2.2.1=(n:Int)/\n<=64:=by
 have:=h.tick
 exact⟨s.2.2.2.1.toNat,by omega,by omega⟩
def ZAO(s:ZAN):List Throw:=ZDm s s.2.2.2.1.toNat
theorem ZBx:(ZAO s).length<=512:=by
 have:=ZIq s h.rig.len s.2.2.2.1.toNat
 have:=h.tick
 unfold ZAO;omega
theorem ZE6:G309 (s,())=some (ZAO s,()):=by
 obtain⟨n,hn,h64⟩:=ZPu h
 have es:(s.1,s.2.1,s.2.2.1,s.2.2.2.1,())=s:=rfl
 have hlen:=h.rig.len
 unfold G309 F309 ZAO
 try simp only[es]
 rw[hn,ZAX]
 refine ZAW (f:=s309_0 G329 G348) (K:=λt9=>some (t9.2.1,())) (λi=>(s,ZDm s i,(i:Int),())) n (by omega) ?_ ?_
 ·intro i hi rec K
  have e1:w64 ((i:Int)+1)=((i+1:Nat):Int):=ZAB
  have hl:=ZIq s hlen i
  rw[ZLO]
  simp only[s309_0,es]
  rw[ZA (by rw[hn];omega),ZPs h]
  simp only[al_bind_some]
  rw[ZVV h _ _ (by omega),e1]
 ·intro rec K
  simp only[s309_0]
  rw[ZAA (by rw[hn];omega)]
theorem ZDX:G59 (s,())=some (ZAO s,()):=by
 obtain⟨n,hn,h64⟩:=ZPu h
 have es:(s.1,s.2.1,s.2.2.1,s.2.2.2.1,())=s:=rfl
 have hlen:=h.rig.len
 unfold G59 F59 ZAO
 try simp only[es]
 rw[ZDE s h.ok,ZE3 h]
 simp only[al_bind_some,ZAF,al_cond_false]
 rw[hn,ZAX]
 refine ZAW (f:=s59_0 G50 G111) (K:=λt9=>some (t9.2.1,())) (λi=>(s,ZDm s i,(n:Int),(i:Int),())) n (by omega) ?_ ?_
 ·intro i hi rec K
  have e1:w64 ((i:Int)+1)=((i+1:Nat):Int):=ZAB
  have hl:=ZIq s hlen i
  rw[ZLO]
  simp only[s59_0,es]
  rw[ZA,ZLL h]
  simp only[al_bind_some]
  rw[ZVW h _ _ _ _ (by omega),e1]
 ·intro rec K
  simp only[s59_0]
  rw[ZAA]
structure ThrowP(s:ZAN)(x:Throw):Prop where
 born:0<=x.born/\x.born<s.2.2.2.1
 jet:ZAu x.jet=true
 dev: ∃(i:Nat) (d:Device),s.1[i]?=some d/\d.Kind=2/\x.name=d.Name/\x.jet=⟨⟨d.At.X,d.At.Y⟩,d.Heading,d.Tilt,x.jet.Lift⟩/\(ZA0 s x.born)[i]?=some x.jet.Lift/\x.jet.Lift<=d.Most
omit h in
theorem ZVX{d:Device}(hd:devB d=true)(hk:d.Kind=2){x:Int}(h1:1<=x)(h2:x<=d.Most):ZAu ⟨⟨d.At.X,d.At.Y⟩,d.Heading,d.Tilt,x⟩=true:=by
 unfold devB at hd
 rw[al_if_neg,al_if_pos hk]at hd
 simp only[ZAM]at hd
 have J:=ZB6 hd.2.2.2.1
 have hm:=ZAr.1 hd.2.2.2.2
 have jx:=J.x;have jy:=J.y;have jh:=J.h;have jt:=J.t
 simp only[devJ]at jx jy jh jt
 unfold ZAu
 rw[ZAa jx.1 jx.2,ZAa jy.1 jy.2,ZAa jh.1 jh.2,ZAa jt.1 jt.2,ZAa (a:=x) (by omega) (by omega)]
 rfl
theorem ZF0{x:Throw}(hx:x∈ZAO s):ThrowP s x:=by
 have ht:=h.tick
 unfold ZAO ZDm at hx
 obtain⟨t,h1,hx⟩:=List.mem_flatMap.mp hx
 have h1:t<s.2.2.2.1.toNat:=by simpa using h1
 unfold thrN at hx
 obtain⟨i,h2,hx⟩:=List.mem_flatMap.mp hx
 unfold thr1 at hx
 cases hd:s.1[i]? with
 | none=>rw[hd]at hx;simp at hx
 | some d=>
  cases hl:(ZA0 s (t:Int))[i]? with
  | none=>rw[hd,hl]at hx;simp at hx
  | some y=>
   rw[hd,hl]at hx
   simp only at hx
   by_cases hy:y>0
   ·rw[al_if_pos hy]at hx
    simp at hx
    subst hx
    have hdev:=h.rig.dev d (List.mem_iff_getElem?.mpr ⟨i,hd⟩)
    rcases ZPt h (t:Int) hl hd with e | ⟨hk,_,hm⟩
    ·omega
    ·exact⟨⟨by simp only;omega,by simp only;omega⟩,ZVX hdev hk (by omega) hm,i,d,hd,hk,rfl,rfl,hl,hm⟩
   ·rw[al_if_neg hy]at hx;simp at hx
end
end Ev
namespace Ev
open Go
theorem ZBC(s:ZAN):(s.1,s.2.1,s.2.2.1,s.2.2.2.1,())=s:=rfl
theorem ZHG{s:ZAN}(h:ShowOK s)(hb:ZA2 s=false):G59 (s,())=some (([]:List Throw),()):=by
 unfold G59 F59
 try simp only[ZBC]
 rw[ZDE s h,hb];rfl
theorem ZB8{α β:Type}(f:β->α->β)(b:β)(l:List α)(i:Nat)(h:i<l.length):(l.take (i+1)).foldl f b=f ((l.take i).foldl f b) l[i]:=by
 rw[ZFy l i h,List.foldl_append];rfl
def ZF1(t a:Int)(x:Throw):Int:=if x.born<=t then w64 (a+1)else a
theorem ZIr(t:Int)(l:List Throw)(hl:l.length<=1048576):ZAD (s115_0 G59) fuel (t,0,l,Int.ofNat l.length,0,()) (λt4=>some (t4.2.1,()))=some (l.foldl (ZF1 t) 0,()):=by
 refine(ZAW (f:=s115_0 G59) (K:=λt4=>some (t4.2.1,())) (λi=>(t,(l.take i).foldl (ZF1 t) 0,l,Int.ofNat l.length,(i:Int),())) l.length (by omega) ?_ ?_).trans (by simp)
 ·intro i hi rec K
  have hx:l[i]?=some l[i]:=by simp
  have hx':=λ(K:Throw->Option (Int×Unit))=>ZAE (K:=K) hx
  have e1:w64 ((i:Int)+1)=((i+1:Nat):Int):=ZAB
  rw[ZB8 _ _ l i hi]
  simp only[s115_0]
  rw[ZA]
  simp only[hx',hx,ZAX,al_bind_some,e1]
  unfold ZF1
  by_cases hc:l[i].born<=t
  ·rw[ZA hc,al_if_pos hc]
  ·rw[ZAA hc,al_if_neg hc]
 ·intro rec K
  simp only[s115_0]
  rw[ZAA]
theorem ZVY(s:ZAN)(h:ShowOK s)(t:Int): ∃v,G256 (s,t,())=some (v,())/\G115 (s,t,())=some (v,()):=by
 unfold G256 F256 G115 F115
 try simp only[ZBC]
 rw[ZCQ s h]
 cases hb:ZA2 s
 ·rw[ZHG h hb]
  exact⟨0,rfl,ZIr t [] (by simp)⟩
 ·have hv:=ZDl h hb
  have hl:(ZAO s).length<=1048576:=Nat.le_trans (ZBx hv) (by decide)
  rw[ZDX hv]
  simp only[al_bind_some,ZAF,al_cond_false]
  rw[ZE6 hv]
  exact⟨_,ZIr t _ hl,ZIr t _ hl⟩
theorem ZE7(j:Jet):G311 (j,())=some (fl j,()):=flS j
theorem ZIs(j:Jet):G126 (j,())=some (fl j,()):=flI j
def ZDn(t a:Int)(x:Throw):Int:=if w64 (x.born+fl x.jet)<=t then w64 (a+1)else a
theorem ZLP(x:Throw):G211 (x,())=some (w64 (x.born+fl x.jet),()):=by
 unfold G211 F211
 dsimp only
 rw[ZIs];rfl
theorem ZLQ(t:Int)(l:List Throw)(hl:l.length<=1048576):ZAD (s116_0 G59 G211) fuel (t,0,l,Int.ofNat l.length,0,()) (λt4=>some (t4.2.1,()))=some (l.foldl (ZDn t) 0,()):=by
 refine(ZAW (f:=s116_0 G59 G211) (K:=λt4=>some (t4.2.1,())) (λi=>(t,(l.take i).foldl (ZDn t) 0,l,Int.ofNat l.length,(i:Int),())) l.length (by omega) ?_ ?_).trans (by simp)
 ·intro i hi rec K
  have hx:l[i]?=some l[i]:=by simp
  have hx':=λ(K:Throw->Option (Int×Unit))=>ZAE (K:=K) hx
  have e1:w64 ((i:Int)+1)=((i+1:Nat):Int):=ZAB
  rw[ZB8 _ _ l i hi]
  simp only[s116_0]
  rw[ZA]
  simp only[hx',hx,ZAX,al_bind_some,e1,ZLP]
  unfold ZDn
  by_cases hc:w64 (l[i].born+fl l[i].jet)<=t
  ·rw[ZA hc,al_if_pos hc]
  ·rw[ZAA hc,al_if_neg hc]
 ·intro rec K
  simp only[s116_0]
  rw[ZAA]
theorem ZVZ(t:Int)(l:List Throw)(hl:l.length<=1048576):ZAD (s257_0 G140 G309 G311) fuel (t,0,l,Int.ofNat l.length,0,()) (λt4=>some (t4.2.1,()))=some (l.foldl (ZDn t) 0,()):=by
 refine(ZAW (f:=s257_0 G140 G309 G311) (K:=λt4=>some (t4.2.1,())) (λi=>(t,(l.take i).foldl (ZDn t) 0,l,Int.ofNat l.length,(i:Int),())) l.length (by omega) ?_ ?_).trans (by simp)
 ·intro i hi rec K
  have hx:l[i]?=some l[i]:=by simp
  have hx':=λ(K:Throw->Option (Int×Unit))=>ZAE (K:=K) hx
  have e1:w64 ((i:Int)+1)=((i+1:Nat):Int):=ZAB
  rw[ZB8 _ _ l i hi]
  simp only[s257_0]
  rw[ZA]
  simp only[hx',hx,ZAX,al_bind_some,e1,ZE7]
  unfold ZDn
  by_cases hc:w64 (l[i].born+fl l[i].jet)<=t
  ·rw[ZA hc,al_if_pos hc]
  ·rw[ZAA hc,al_if_neg hc]
 ·intro rec K
  simp only[s257_0]
  rw[ZAA]
theorem ZVa(s:ZAN)(h:ShowOK s)(t:Int): ∃v,G257 (s,t,())=some (v,())/\G116 (s,t,())=some (v,()):=by
 unfold G257 F257 G116 F116
 try simp only[ZBC]
 rw[ZCQ s h]
 cases hb:ZA2 s
 ·rw[ZHG h hb]
  exact⟨0,rfl,ZLQ t [] (by simp)⟩
 ·have hv:=ZDl h hb
  have hl:(ZAO s).length<=1048576:=Nat.le_trans (ZBx hv) (by decide)
  rw[ZDX hv]
  simp only[al_bind_some,ZAF,al_cond_false]
  rw[ZE6 hv]
  exact⟨_,ZVZ t _ hl,ZLQ t _ hl⟩
def ht(j:Jet)(t:Int):Int:=if ZAu j=true/\0<=t/\t<=j.Lift+1 then t*(j.Lift+1-t)else 0
theorem ZPv{L t:Int}(h1:1<=L)(h2:L<=32)(h3:0<=t)(h4:t<=L+1):0<=t*(L+1-t)/\t*(L+1-t)<=2000:=by
 have a:=Int.mul_nonneg h3 (show 0<=L+1-t by omega)
 have b:t*(L+1-t)<=33*33:=Int.mul_le_mul (by omega) (by omega) (by omega) (by omega)
 omega
theorem ZPw(j:Jet)(t:Int):G135 (j,t,())=some (ht j t,()):=by
 unfold G135 F135 G225 F225 ht
 dsimp only
 rw[show G218 (j,())=some (ZAu j,())from jetI j,ZIs]
 simp only[al_bind_some]
 cases hj:ZAu j
 ·rw[al_if_neg (by simp)];rfl
 ·have hf:fl j=j.Lift+1:=by unfold fl;rw[al_if_pos hj]
  simp only[al_cond_true,al_bind_some,hf]
  rw[show G121 (t,0,j.Lift+1,())=some (wi t 0 (j.Lift+1),())from ZA8 _ _ _]
  simp only[al_bind_some]
  have J:=(ZB6 hj).l
  cases hw:wi t 0 (j.Lift+1)
  ·rw[al_if_neg (by intro h;rw[ZAa h.2.1 h.2.2]at hw;cases hw)];rfl
  ·have hb:=ZAr.1 hw
   have hs:=ZPv J.1 J.2 hb.1 hb.2
   rw[al_if_pos ⟨by trivial,hb.1,hb.2⟩]
   simp only[ZAF,al_cond_false]
   rw[ZAB (n:=j.Lift+1) (by omega) (by omega),ZAB (n:=j.Lift+1-t) (by omega) (by omega),ZAB]
theorem ZIt(j:Jet)(t:Int):G352 (j,t,())=some (ht j t,()):=by
 unfold G352 F352 ht
 dsimp only
 rw[ZE7]
 simp only[al_bind_some]
 by_cases hg:t>fl j
 ·rw[ZA hg,al_if_neg ?_]
  rintro ⟨hj,_,h2⟩
  unfold fl at hg;rw[al_if_pos hj]at hg;omega
 ·rw[ZAA hg]
  by_cases h0:t<=0
  ·have e:ZAD (s352_0 G311) fuel (t,j,0,0,()) (λt3=>some (t3.2.2.1,()))=some (0,()):=by
    obtain⟨n,hn⟩:=ZBp 1 (by omega)
    rw[hn,ZAT]
    simp only[s352_0]
    rw[ZAA]
   rw[e]
   split
   ·rename_i h
    have:t=0:=by omega
    subst this;simp
   ·rfl
  ·have hj:ZAu j=true:=by
    unfold fl at hg
    by_cases hj:ZAu j=true
    ·exact hj
    ·rw[al_if_neg hj]at hg;omega
   have hf:fl j=j.Lift+1:=by unfold fl;rw[al_if_pos hj]
   have J:=(ZB6 hj).l
   rw[hf]at hg
   rw[al_if_pos ⟨hj,by omega,by omega⟩]
   obtain⟨n,rfl⟩:=Int.eq_ofNat_of_zero_le (show 0<=t by omega)
   have e0:((0:Nat):Int)*(j.Lift+1-((0:Nat):Int))=0:=by simp
   have key:=ZAW (f:=s352_0 G311) (K:=λt3=>some (t3.2.2.1,())) (λi=>((n:Int),j,(i:Int)*(j.Lift+1-(i:Int)),(i:Int),())) n (by omega) ?_ ?_
   ·simp only[e0]at key
    exact key
   ·intro i hi rec K
    have e1:w64 ((i:Int)+1)=((i+1:Nat):Int):=ZAB
    have hs:=ZPv J.1 J.2 (t:=(i:Int)) (by omega) (by omega)
    have hnx:((i+1:Nat):Int)*(j.Lift+1-((i+1:Nat):Int))=(i:Int)*(j.Lift+1-(i:Int))+j.Lift-2*(i:Int):=by
     simp only[Int.natCast_add,Int.natCast_one,Int.add_mul,Int.mul_sub,Int.mul_add,Int.sub_mul,Int.mul_one,Int.one_mul]
     omega
    simp only[s352_0]
    rw[ZA,e1,hnx]
    rw[ZAB (n:=(i:Int)*(j.Lift+1-(i:Int))+j.Lift) (by omega) (by omega),ZAB (n:=2*(i:Int)) (by omega) (by omega),ZAB]
   ·intro rec K
    simp only[s352_0]
    rw[ZAA]
def pk(j:Jet):Int:=ht j (fl j/2)
theorem ZDo(j:Jet):0<=fl j/\fl j<=33:=by
 unfold fl
 by_cases hj:ZAu j=true
 ·have J:=(ZB6 hj).l
  rw[al_if_pos hj];omega
 ·rw[al_if_neg hj];omega
theorem ZVb(j:Jet):G60 (j,())=some (fl j/2,pk j,()):=by
 have hb:=ZDo j
 unfold G60 F60 pk
 dsimp only
 rw[ZIs]
 simp only[al_bind_some]
 rw[Int.tdiv_eq_ediv_of_nonneg hb.1,ZAB,ZPw]
 rfl
theorem ZVc{j:Jet}(hj:ZAu j=true){t:Int}(h1:1<=t)(h2:t<=fl j/2):ht j t>ht j (t-1):=by
 have hf:fl j=j.Lift+1:=by unfold fl;rw[al_if_pos hj]
 have J:=(ZB6 hj).l
 rw[hf]at h2
 unfold ht
 rw[al_if_pos ⟨hj,by omega,by omega⟩,al_if_pos ⟨hj,by omega,by omega⟩]
 have:t*(j.Lift+1-t)=(t-1)*(j.Lift+1-(t-1))+(j.Lift+2-2*t):=by
  simp only[Int.sub_mul,Int.mul_sub,Int.mul_add,Int.mul_one,Int.one_mul]
  omega
 omega
theorem ZVd{j:Jet}(hj:ZAu j=true){t:Int}(h1:fl j/2<=t)(h2:t<=fl j):ht j t<=pk j:=by
 have hf:fl j=j.Lift+1:=by unfold fl;rw[al_if_pos hj]
 have J:=(ZB6 hj).l
 unfold pk
 rw[hf]at h1 h2⊢
 unfold ht
 rw[al_if_pos ⟨hj,by omega,by omega⟩,al_if_pos ⟨hj,by omega,by omega⟩]
 generalize hm:(j.Lift+1)/2=m at h1
 have hm2:j.Lift+1<=2*m+1/\2*m<=j.Lift+1:=by omega
 by_cases e:t=m
 ·subst e;exact Int.le_refl _
 ·have:=Int.mul_nonneg (show 0<=t-m by omega) (show 0<=t+m-(j.Lift+1)by omega)
  have e2:(t-m)*(t+m-(j.Lift+1))=m*(j.Lift+1-m) -t*(j.Lift+1-t):=by
   simp only[Int.sub_mul,Int.mul_sub,Int.mul_add,Int.mul_one]
   have:=Int.mul_comm m t
   omega
  omega
theorem ZVe(j:Jet):G312 (j,())=some (fl j/2,pk j,()):=by
 have hb:=ZDo j
 obtain⟨n,hn⟩:=Int.eq_ofNat_of_zero_le hb.1
 unfold G312 F312
 have key:=ZAW (f:=s312_0 G311 G352) (K:=λt5=>(G352 (t5.1,t5.2.1,())).bind λx6=>some (t5.2.1,x6.1,())) (λi=>(j,(min (i:Int) (fl j/2)),((i+1:Nat):Int),())) n (by omega)
  (by
   intro i hi rec K
   have e1:w64 (((i+1:Nat):Int)+1)=((i+1+1:Nat):Int):=ZAB
   have hj:ZAu j=true:=by
    unfold fl at hn
    by_cases hj:ZAu j=true
    ·exact hj
    ·rw[al_if_neg hj]at hn;omega
   simp only[s312_0,ZE7,al_bind_some]
   rw[ZA,ZIt,ZIt,e1]
   simp only[al_bind_some]
   by_cases hc:((i+1:Nat):Int)<=fl j/2
   ·have hu:=ZVc hj (by omega) hc
    have em:min (i:Int) (fl j/2)=((i+1:Nat):Int) -1:=by omega
    have em2:min ((i+1:Nat):Int) (fl j/2)=((i+1:Nat):Int):=by omega
    rw[em,em2,ZA hu]
   ·have em:min (i:Int) (fl j/2)=fl j/2:=by omega
    have em2:min ((i+1:Nat):Int) (fl j/2)=fl j/2:=by omega
    have hu:=ZVd hj (t:=((i+1:Nat):Int)) (by omega) (by omega)
    unfold pk at hu
    rw[em,em2,ZAA])
  (by
   intro rec K
   simp only[s312_0,ZE7,al_bind_some]
   rw[ZAA])
 have e0:min (((0:Nat):Nat):Int) (fl j/2)=0:=by omega
 have en:min (n:Int) (fl j/2)=fl j/2:=by omega
 simp only[e0,en]at key
 rw[ZIt]at key
 exact key
def ZHH(a:Int)(x:Throw):Int:=mx a (pk x.jet)
theorem ZLR(l:List Throw)(hl:l.length<=1048576):ZAD (s22_0 G59 G60) fuel (0,l,Int.ofNat l.length,0,()) (λt4=>some (t4.1,()))=some (l.foldl ZHH 0,()):=by
 refine(ZAW (f:=s22_0 G59 G60) (K:=λt4=>some (t4.1,())) (λi=>((l.take i).foldl ZHH 0,l,Int.ofNat l.length,(i:Int),())) l.length (by omega) ?_ ?_).trans (by simp)
 ·intro i hi rec K
  have hx:l[i]?=some l[i]:=by simp
  have hx':=λ(K:Throw->Option (Int×Unit))=>ZAE (K:=K) hx
  have e1:w64 ((i:Int)+1)=((i+1:Nat):Int):=ZAB
  rw[ZB8 _ _ l i hi]
  simp only[s22_0]
  rw[ZA]
  simp only[hx',hx,ZAX,al_bind_some,e1,ZVb]
  rfl
 ·intro rec K
  simp only[s22_0]
  rw[ZAA]
theorem ZVf(a b:Int):G313 (a,b,())=some (mx a b,()):=by
 unfold G313 F313
 dsimp only
 rw[ZIL]
 by_cases h:a>b
 ·rw[ZA h,al_if_neg]
 ·rw[ZAA h]
  split
  ·rfl
  ·have:a=b:=by omega
   subst this;rfl
theorem ZVg(l:List Throw)(hl:l.length<=1048576):ZAD (s239_0 G140 G309 G312 G313) fuel (0,l,Int.ofNat l.length,0,()) (λt4=>some (t4.1,()))=some (l.foldl ZHH 0,()):=by
 refine(ZAW (f:=s239_0 G140 G309 G312 G313) (K:=λt4=>some (t4.1,())) (λi=>((l.take i).foldl ZHH 0,l,Int.ofNat l.length,(i:Int),())) l.length (by omega) ?_ ?_).trans (by simp)
 ·intro i hi rec K
  have hx:l[i]?=some l[i]:=by simp
  have hx':=λ(K:Throw->Option (Int×Unit))=>ZAE (K:=K) hx
  have e1:w64 ((i:Int)+1)=((i+1:Nat):Int):=ZAB
  rw[ZB8 _ _ l i hi]
  simp only[s239_0]
  rw[ZA]
  simp only[hx',hx,ZAX,al_bind_some,e1,ZVe,ZVf]
  rfl
 ·intro rec K
  simp only[s239_0]
  rw[ZAA]
theorem ZVh(s:ZAN)(h:ShowOK s): ∃v,G239 (s,())=some (v,())/\G22 (s,())=some (v,()):=by
 unfold G239 F239 G22 F22
 try simp only[ZBC]
 rw[ZCQ s h]
 cases hb:ZA2 s
 ·rw[ZHG h hb]
  exact⟨0,rfl,ZLR [] (by simp)⟩
 ·have hv:=ZDl h hb
  have hl:(ZAO s).length<=1048576:=Nat.le_trans (ZBx hv) (by decide)
  rw[ZDX hv]
  simp only[al_bind_some,ZAF,al_cond_false]
  rw[ZE6 hv]
  exact⟨_,ZVg _ hl,ZLR _ hl⟩
end Ev
end
noncomputable section
namespace Ev
open Go
def drF(t:Int)(p:Place)(g:Gust):Place:=if g.From<=t then g.Drift else p
def drL(w:List Gust)(t:Int):Place:=w.foldl (drF t) ⟨0,0⟩
theorem ZLS(w:List Gust)(hl:w.length<=1048576)(t:Int):G325 (w,t,())=some (drL w t,()):=by
 unfold G325 F325 drL
 refine(ZAW (f:=s325_0) (K:=λt5=>some (t5.2.2.1,())) (λi=>(t,⟨0,0⟩,(w.take i).foldl (drF t) ⟨0,0⟩,w,Int.ofNat w.length,(i:Int),())) w.length (by omega) ?_ ?_).trans (by simp)
 ·intro i hi rec K
  have hx:w[i]?=some w[i]:=by simp
  have e1:w64 ((i:Int)+1)=((i+1:Nat):Int):=ZAB
  rw[ZB8 _ _ w i hi]
  simp only[s325_0]
  rw[ZA,ZAE hx,e1]
  unfold drF
  by_cases hc:w[i].From<=t
  ·rw[ZA hc,al_if_pos hc]
  ·rw[ZAA hc,al_if_neg hc]
 ·intro rec K
  simp only[s325_0]
  rw[ZAA]
theorem ZPx(w:List Gust)(hl:w.length<=1048576)(hv:wdB w=true)(t:Int):G291 (w,t,())=some (drL w t,()):=by
 unfold G291 F291 drL
 dsimp only
 rw[ZE2 w hl,hv]
 simp only[al_bind_some,ZAF,al_cond_false]
 refine(ZAW (f:=s291_0 G120) (K:=λt5=>some (t5.2.2.1,())) (λi=>(t,⟨0,0⟩,(w.take i).foldl (drF t) ⟨0,0⟩,w,Int.ofNat w.length,(i:Int),())) w.length (by omega) ?_ ?_).trans (by simp)
 ·intro i hi rec K
  have hx:w[i]?=some w[i]:=by simp
  have e1:w64 ((i:Int)+1)=((i+1:Nat):Int):=ZAB
  rw[ZB8 _ _ w i hi]
  simp only[s291_0]
  rw[ZA,ZAE hx,e1]
  unfold drF
  by_cases hc:w[i].From<=t
  ·rw[ZA hc,al_if_pos hc]
  ·rw[ZAA hc,al_if_neg hc]
 ·intro rec K
  simp only[s291_0]
  rw[ZAA]
def plus(p q:Place):Place:=⟨w64 (p.X+q.X),w64 (p.Y+q.Y)⟩
def ZF2(w:List Gust)(a:Int):Nat->Place
 | 0=>⟨0,0⟩
 | n+1=>plus (ZF2 w a n) (drL w (a+(n:Int)))
theorem ZHI(p q:Place):G317 (p,q,())=some (plus p q,()):=rfl
theorem ZVi(w:List Gust)(hl:w.length<=1048576)(hv:wdB w=true){a b:Int}{n:Nat}(ha:0<=a)(hb:b=a+(n:Int))(hm:b<=128):G350 (w,a,b,())=some (ZF2 w a n,true,()):=by
 subst hb
 unfold G350 F350
 dsimp only
 rw[ZIl w hl,hv]
 simp only[al_bind_some,ZAF,ZAH,al_cond_true,al_cond_false]
 rw[ZAG (show¬a<0 by omega),ZAG (show¬a+(n:Int)<a by omega),ZAA]
 simp only[ZAH,al_cond_true]
 have key:=ZAW (f:=s350_0 G232 G325 G317) (K:=λt5=>some (t5.2.2.2.1,true,())) (λi=>(w,a+(n:Int),⟨0,0⟩,ZF2 w a i,a+(i:Int),())) n (by omega)
  (by
   intro i hi rec K
   have e1:w64 (a+(i:Int)+1)=a+((i+1:Nat):Int):=by rw[ZAB];omega
   simp only[s350_0]
   rw[ZA,ZLS w hl,e1]
   simp only[al_bind_some,ZHI]
   rfl)
  (by
   intro rec K
   simp only[s350_0]
   rw[ZAA])
 have ea:a+((0:Nat):Int)=a:=by omega
 simp only[ea]at key
 exact key
theorem ZVj(w:List Gust)(hl:w.length<=1048576)(hv:wdB w=true){a b:Int}{n:Nat}(ha:0<=a)(hb:b=a+(n:Int))(hm:b<=128):G300 (w,a,b,())=some (ZF2 w a n,true,()):=by
 subst hb
 unfold G300 F300
 dsimp only
 rw[ZE2 w hl,hv]
 simp only[al_bind_some,ZAF,ZAH,al_cond_true,al_cond_false]
 rw[ZAG (show¬a<0 by omega),ZAG (show¬a+(n:Int)<a by omega),ZAA]
 simp only[ZAH,al_cond_true]
 have key:=ZAW (f:=s300_0 G120 G291) (K:=λt5=>some (t5.2.2.2.1,true,())) (λi=>(w,a+(n:Int),⟨0,0⟩,ZF2 w a i,a+(i:Int),())) n (by omega)
  (by
   intro i hi rec K
   have e1:w64 (a+(i:Int)+1)=a+((i+1:Nat):Int):=by rw[ZAB];omega
   simp only[s300_0]
   rw[ZA,ZPx w hl hv,e1]
   simp only[al_bind_some]
   rfl)
  (by
   intro rec K
   simp only[s300_0]
   rw[ZAA])
 have ea:a+((0:Nat):Int)=a:=by omega
 simp only[ea]at key
 exact key
def ZB9(j:Jet)(t:Int):Place:=⟨w64 (j.At.X+(rotN j.Heading.toNat ⟨w64 (t*j.Tilt),0⟩).X),w64 (j.At.Y+(rotN j.Heading.toNat ⟨w64 (t*j.Tilt),0⟩).Y)⟩
theorem ZPy{j:Jet}(J:JetOK j){t:Int}(h0:0<=t)(h1:t<=33):w64 (t*j.Tilt)=t*j.Tilt/\0<=t*j.Tilt/\t*j.Tilt<=528:=by
 have ht:=J.t
 have a:0<=t*j.Tilt:=Int.mul_nonneg h0 ht.1
 have b:t*j.Tilt<=33*16:=Int.mul_le_mul h1 ht.2 ht.1 (by omega)
 exact⟨ZAB,a,by omega⟩
theorem ZVk{j:Jet}(J:JetOK j){t:Int}(h0:0<=t)(h1:t<=33):(-1552<=(ZB9 j t).X/\(ZB9 j t).X<=1552/\ -1552<=(ZB9 j t).Y/\(ZB9 j t).Y<=1552)/\(ZB9 j t).X=j.At.X+(rotN j.Heading.toNat ⟨t*j.Tilt,0⟩).X/\(ZB9 j t).Y=j.At.Y+(rotN j.Heading.toNat ⟨t*j.Tilt,0⟩).Y:=by
 obtain⟨e,h2,h3⟩:=ZPy J h0 h1
 have hh:=J.h;have hx:=J.x;have hy:=J.y
 obtain⟨b1,b2,b3,b4⟩:=ZOz (t*j.Tilt) 528 h2 h3 (by omega) j.Heading.toNat (by omega)
 unfold ZB9
 rw[e]
 simp only
 rw[ZAB,ZAB]
 omega
theorem ZVl{j:Jet}(J:JetOK j)(t:Int):G351 (j,t,())=some (ZB9 j t,()):=by
 unfold G351 F351
 have hk:j.Heading.toNat<4:=by have:=J.h;omega
 have hh:(j.Heading.toNat:Int)=j.Heading:=by have:=J.h;omega
 have:=ZOx ⟨w64 (t*j.Tilt),0⟩ j.Heading.toNat hk
 rw[hh]at this
 have this:G355 (⟨w64 (t*j.Tilt),0⟩,j.Heading,())=_:=this
 simp only[this,al_bind_some,ZHI]
 rfl
theorem ZVm{j:Jet}(h:ZAu j=true){t:Int}(h0:0<=t)(h1:t<=fl j):G217 (j,t,())=some (ZB9 j t,true,()):=by
 unfold G217 F217 G225 F225
 have J:=ZB6 h
 have hl:=J.l;have hx:=J.x;have hy:=J.y
 have hf:fl j=j.Lift+1:=by unfold fl;rw[al_if_pos h]
 have hjI:G218 (j,())=some (ZAu j,()):=jetI j
 have hfI:G126 (j,())=some (fl j,()):=flI j
 have hwI: ∀a b c:Int,G121 (a,b,c,())=some (wi a b c,()):=ZA8
 simp only[hjI,h,al_bind_some,al_cond_true,hfI,hwI,ZAa h0 h1,ZAF,al_cond_false]
 obtain⟨e,h2,h3⟩:=ZPy J h0 (by omega)
 obtain⟨lb,lx,ly⟩:=ZVk J h0 (show t<=33 by omega)
 unfold G303 F303
 have hk:j.Heading.toNat<4:=by have:=J.h;omega
 have hh:(j.Heading.toNat:Int)=j.Heading:=by have:=J.h;omega
 have ht:=ZOy ⟨w64 (t*j.Tilt),0⟩ j.Heading.toNat hk
 rw[hh]at ht
 have ht:G220 (⟨w64 (t*j.Tilt),0⟩,j.Heading,())=_:=ht
 have p1:isPl j.At=true:=by unfold isPl;rw[ZAa (by omega) (by omega),ZAa (by omega) (by omega)];rfl
 have p2:wi j.Heading 0 3=true:=ZAa J.h.1 J.h.2
 have p3:wi (w64 (t*j.Tilt)) (-4096) 4096=true:=by rw[e];exact ZAa (by omega) (by omega)
 have p4:isPl (ZB9 j t)=true:=by unfold isPl;rw[ZAa (by omega) (by omega),ZAa (by omega) (by omega)];rfl
 have p5:G343 (ZB9 j t,())=some (ZB9 j t,true,()):=by
  have hp:G124 (ZB9 j t,())=some (isPl (ZB9 j t),()):=ZBv _
  unfold G343 F343
  simp only[hp,p4,al_bind_some]
  rfl
 have q1:G124 (j.At,())=some (isPl j.At,()):=ZBv _
 have q2:G219 (j.Heading,())=some (wi j.Heading 0 3,()):=ZG2 _
 have q3:G57 (w64 (t*j.Tilt),())=some (wi (w64 (t*j.Tilt)) (-4096) 4096,()):=ZFs _
 simp only[q1,q2,q3,p1,p2,p3,ht,al_bind_some,ZAF,ZAH,al_cond_true,al_cond_false]
 have p6:(⟨w64 (j.At.X+(rotN j.Heading.toNat ⟨w64 (t*j.Tilt),0⟩).X),w64 (j.At.Y+(rotN j.Heading.toNat ⟨w64 (t*j.Tilt),0⟩).Y)⟩:Place)=ZB9 j t:=rfl
 rw[p6,p5]
 rfl
def ZIu(w:List Gust)(x:Throw)(n:Nat):Drop:=⟨x.name,x.born,plus (ZB9 x.jet (n:Int)) (ZF2 w x.born n),ht x.jet (n:Int)⟩
structure FliesP(x:Throw):Prop where
 born:0<=x.born/\x.born<64
 jet:ZAu x.jet=true
theorem ZHJ{s:ZAN}(h:ShowV s){x:Throw}(hx:x∈ZAO s):FliesP x:=by
 have:=ZF0 h hx
 have ht:=h.tick
 exact⟨⟨this.born.1,by have:=this.born.2;omega⟩,this.jet⟩
theorem ZPz{w:List Gust}(hl:w.length<=1048576)(hv:wdB w=true){x:Throw}(h:FliesP x){t:Int}{n:Nat}(ht:t=x.born+(n:Int))(hn:(n:Int)<=fl x.jet):G212 (x,w,t,())=some (ZIu w x n,()):=by
 have hb:=ZDo x.jet
 have hx:=h.born
 have e1:w64 (t-x.born)=(n:Int):=by rw[ZAB];omega
 unfold G212 F212
 dsimp only
 rw[e1,ZVm h.jet (by omega) hn]
 simp only[al_bind_some]
 rw[ZVj w hl hv hx.1 ht (by omega)]
 simp only[al_bind_some,ZPw]
 rfl
theorem ZP0{s:ZAN}(hl:s.2.2.1.length<=1048576)(hv:wdB s.2.2.1=true){x:Throw}(h:FliesP x){t:Int}{n:Nat}(ht:t=x.born+(n:Int))(hn:(n:Int)<=fl x.jet):G310 (s,x,t,())=some (ZIu s.2.2.1 x n,()):=by
 have hb:=ZDo x.jet
 have hx:=h.born
 have e1:w64 (t-x.born)=(n:Int):=by rw[ZAB];omega
 unfold G310 F310
 dsimp only
 rw[ZVi s.2.2.1 hl hv hx.1 ht (by omega)]
 simp only[al_bind_some]
 rw[e1,ZVl (ZB6 h.jet)]
 simp only[al_bind_some,ZIt,ZHI]
 rfl
end Ev
namespace Ev
open Go
def nowF(w:List Gust)(t:Int)(a:List Drop)(x:Throw):List Drop:=if x.born<=t/\t<x.born+fl x.jet then a++[ZIu w x (t-x.born).toNat]else a
theorem ZIv(w:List Gust)(t:Int): ∀(l:List Throw) (a:List Drop),(l.foldl (nowF w t) a).length<=a.length+l.length
 | [],a=>by simp
 | d::l,a=>by
  have:=ZIv w t l (nowF w t a d)
  have h1:(nowF w t a d).length<=a.length+1:=by unfold nowF;split<;>simp
  simp only[List.foldl_cons,al_len_cons]
  omega
def nowL(s:ZAN)(t:Int):List Drop:=(ZAO s).foldl (nowF s.2.2.1 t) []
def allF(w:List Gust)(a:List Drop)(x:Throw):List Drop:=a++[ZIu w x (fl x.jet).toNat]
def ZDG(s:ZAN):List Drop:=(ZAO s).foldl (allF s.2.2.1) []
theorem ZIw(w:List Gust): ∀(l:List Throw) (a:List Drop),(l.foldl (allF w) a).length=a.length+l.length
 | [],a=>by simp
 | d::l,a=>by
  have:=ZIw w l (allF w a d)
  simp only[List.foldl_cons,al_len_cons,this]
  unfold allF;simp;omega
theorem ZHK{x:Throw}(h:FliesP x):w64 (x.born+fl x.jet)=x.born+fl x.jet:=by
 have:=h.born;have:=ZDo x.jet
 exact ZAB
section
variable {s:ZAN} (h:ShowV s)
include h
theorem ZP1(t:Int):(nowL s t).length<=512:=by
 have:=ZIv s.2.2.1 t (ZAO s) []
 have:=ZBx h
 unfold nowL
 simp at*;omega
omit h in
theorem ZLT:(ZDG s).length=(ZAO s).length:=by
 unfold ZDG
 rw[ZIw];simp
theorem ZIx:wdB s.2.2.1=true/\s.2.2.1.length<=1048576:=⟨h.wind,h.ok.wind⟩
theorem ZVn(t:Int):G255 (s,t,())=some (nowL s t,()):=by
 have hlen:=ZBx h
 obtain⟨hv,hw⟩:=ZIx h
 unfold G255 F255 nowL
 try simp only[ZBC]
 rw[ZCQ s h.ok,ZE3 h]
 simp only[al_bind_some,ZAF,al_cond_false]
 rw[ZE6 h]
 simp only[al_bind_some]
 refine(ZAW (f:=s255_0 G140 G309 G311 G310) (K:=λt6=>some (t6.2.2.1,())) (λi=>(t,s,((ZAO s).take i).foldl (nowF s.2.2.1 t) [],ZAO s,Int.ofNat (ZAO s).length,(i:Int),())) (ZAO s).length (by omega) ?_ ?_).trans (by simp)
 ·intro i hi rec K
  have hx:(ZAO s)[i]?=some (ZAO s)[i]:=by simp
  have hf:=ZHJ h (show(ZAO s)[i]∈ZAO s by simp)
  have hn:=ZIv s.2.2.1 t ((ZAO s).take i) []
  have hb:=ZDo (ZAO s)[i].jet
  have e1:w64 ((i:Int)+1)=((i+1:Nat):Int):=ZAB
  rw[ZB8 _ _ (ZAO s) i hi]
  generalize ((ZAO s).take i).foldl (nowF s.2.2.1 t) []=acc at hn⊢
  unfold nowF
  simp only[s255_0,ZBC]
  have hx':=λ(K:Throw->Option (List Drop×Unit))=>ZAE (K:=K) hx
  rw[ZA]
  simp only[hx',hx,ZAX,e1]
  simp only[ZE7,al_bind_some,ZHK hf]
  by_cases c1:t>=(ZAO s)[i].born
  ·rw[ZA c1]
   by_cases c2:t<(ZAO s)[i].born+fl (ZAO s)[i].jet
   ·rw[ZA c2,al_if_pos ⟨c1,c2⟩,ZP0 hw hv hf (n:=(t-(ZAO s)[i].born).toNat) (by omega) (by omega)]
    simp only[al_bind_some]
    rw[ZAC (by simp at hn⊢;omega)]
   ·rw[ZAA c2,al_if_neg]
  ·rw[ZAA c1,al_if_neg]
 ·intro rec K
  simp only[s255_0]
  rw[ZAA]
theorem ZVo(t:Int):G113 (s,t,())=some (nowL s t,()):=by
 have hlen:=ZBx h
 obtain⟨hv,hw⟩:=ZIx h
 unfold G113 F113 nowL
 try simp only[ZBC]
 rw[ZDX h]
 simp only[al_bind_some]
 refine(ZAW (f:=s113_0 G59 G211 G212) (K:=λt6=>some (t6.2.2.1,())) (λi=>(t,s,((ZAO s).take i).foldl (nowF s.2.2.1 t) [],ZAO s,Int.ofNat (ZAO s).length,(i:Int),())) (ZAO s).length (by omega) ?_ ?_).trans (by simp)
 ·intro i hi rec K
  have hx:(ZAO s)[i]?=some (ZAO s)[i]:=by simp
  have hf:=ZHJ h (show(ZAO s)[i]∈ZAO s by simp)
  have hn:=ZIv s.2.2.1 t ((ZAO s).take i) []
  have hb:=ZDo (ZAO s)[i].jet
  have e1:w64 ((i:Int)+1)=((i+1:Nat):Int):=ZAB
  rw[ZB8 _ _ (ZAO s) i hi]
  generalize ((ZAO s).take i).foldl (nowF s.2.2.1 t) []=acc at hn⊢
  unfold nowF
  simp only[s113_0,ZBC]
  have hx':=λ(K:Throw->Option (List Drop×Unit))=>ZAE (K:=K) hx
  rw[ZA]
  simp only[hx',hx,ZAX,e1]
  simp only[ZLP,al_bind_some,ZHK hf]
  by_cases c1:(ZAO s)[i].born<=t
  ·rw[ZA c1]
   by_cases c2:t<(ZAO s)[i].born+fl (ZAO s)[i].jet
   ·rw[ZA c2,al_if_pos ⟨c1,c2⟩,ZPz hw hv hf (n:=(t-(ZAO s)[i].born).toNat) (by omega) (by omega)]
    simp only[al_bind_some]
    rw[ZAC (by simp at hn⊢;omega)]
   ·rw[ZAA c2,al_if_neg]
  ·rw[ZAA c1,al_if_neg]
 ·intro rec K
  simp only[s113_0]
  rw[ZAA]
theorem ZP2:G238 (s,())=some (ZDG s,()):=by
 have hlen:=ZBx h
 obtain⟨hv,hw⟩:=ZIx h
 unfold G238 F238 ZDG
 try simp only[ZBC]
 rw[ZCQ s h.ok,ZE3 h]
 simp only[al_bind_some,ZAF,al_cond_false]
 rw[ZE6 h]
 simp only[al_bind_some]
 refine(ZAW (f:=s238_0 G140 G309 G311 G310) (K:=λt6=>some (t6.2.1,())) (λi=>(s,((ZAO s).take i).foldl (allF s.2.2.1) [],ZAO s,Int.ofNat (ZAO s).length,(i:Int),())) (ZAO s).length (by omega) ?_ ?_).trans (by simp)
 ·intro i hi rec K
  have hx:(ZAO s)[i]?=some (ZAO s)[i]:=by simp
  have hf:=ZHJ h (show(ZAO s)[i]∈ZAO s by simp)
  have hn:=ZIw s.2.2.1 ((ZAO s).take i) []
  have hb:=ZDo (ZAO s)[i].jet
  have e1:w64 ((i:Int)+1)=((i+1:Nat):Int):=ZAB
  rw[ZB8 _ _ (ZAO s) i hi]
  generalize ((ZAO s).take i).foldl (allF s.2.2.1) []=acc at hn⊢
  unfold allF
  simp only[s238_0,ZBC]
  have hx':=λ(K:Throw->Option (List Drop×Unit))=>ZAE (K:=K) hx
  rw[ZA]
  simp only[hx',hx,ZAX,e1]
  simp only[ZE7,al_bind_some,ZHK hf]
  rw[ZP0 hw hv hf (n:=(fl (ZAO s)[i].jet).toNat) (by omega) (by omega)]
  simp only[al_bind_some]
  rw[ZAC (by simp at hn⊢;omega)]
 ·intro rec K
  simp only[s238_0]
  rw[ZAA]
theorem ZP3:G114 (s,())=some (ZDG s,()):=by
 have hlen:=ZBx h
 obtain⟨hv,hw⟩:=ZIx h
 unfold G114 F114 ZDG
 try simp only[ZBC]
 rw[ZDX h]
 simp only[al_bind_some]
 refine(ZAW (f:=s114_0 G59 G211 G212) (K:=λt6=>some (t6.2.1,())) (λi=>(s,((ZAO s).take i).foldl (allF s.2.2.1) [],ZAO s,Int.ofNat (ZAO s).length,(i:Int),())) (ZAO s).length (by omega) ?_ ?_).trans (by simp)
 ·intro i hi rec K
  have hx:(ZAO s)[i]?=some (ZAO s)[i]:=by simp
  have hf:=ZHJ h (show(ZAO s)[i]∈ZAO s by simp)
  have hn:=ZIw s.2.2.1 ((ZAO s).take i) []
  have hb:=ZDo (ZAO s)[i].jet
  have e1:w64 ((i:Int)+1)=((i+1:Nat):Int):=ZAB
  rw[ZB8 _ _ (ZAO s) i hi]
  generalize ((ZAO s).take i).foldl (allF s.2.2.1) []=acc at hn⊢
  unfold allF
  simp only[s114_0,ZBC]
  have hx':=λ(K:Throw->Option (List Drop×Unit))=>ZAE (K:=K) hx
  rw[ZA]
  simp only[hx',hx,ZAX,e1]
  simp only[ZLP,al_bind_some,ZHK hf]
  rw[ZPz hw hv hf (n:=(fl (ZAO s)[i].jet).toNat) (by omega) (by omega)]
  simp only[al_bind_some]
  rw[ZAC (by simp at hn⊢;omega)]
 ·intro rec K
  simp only[s114_0]
  rw[ZAA]
end
theorem ZVp(s:ZAN)(h:ShowOK s): ∃L,G238 (s,())=some (L,())/\G114 (s,())=some (L,())/\L.length<=512:=by
 cases hb:ZA2 s
 ·refine⟨[],?_,?_,by simp⟩
  ·unfold G238 F238
   try simp only[ZBC]
   rw[ZCQ s h,hb];rfl
  ·unfold G114 F114
   try simp only[ZBC]
   rw[ZHG h hb]
   simp only[al_bind_some]
   obtain⟨n,hn⟩:=ZBp 5 (by omega)
   rw[hn];rfl
 ·have hv:=ZDl h hb
  exact⟨_,ZP2 hv,ZP3 hv,by rw[ZLT];exact ZBx hv⟩
end Ev
namespace Ev
open Go
def isBx(b:Box):Bool:=isPl b.Low && (isPl b.High && (decide (b.Low.X<=b.High.X) && decide (b.Low.Y<=b.High.Y)))
abbrev gBxS:=F142 gPlS
abbrev gBx:=F52 gPl
theorem bxS(b:Box):gBxS (b,())=some (isBx b,()):=by
 unfold gBxS F142 isBx
 simp only[ZDh,al_bind_some]
 cases isPl b.Low<;>cases isPl b.High<;>cases decide (b.Low.X<=b.High.X)<;>rfl
theorem bxI(b:Box):gBx (b,())=some (isBx b,()):=by
 unfold gBx F52 isBx
 simp only[ZBv,al_bind_some]
 cases isPl b.Low<;>cases isPl b.High<;>cases decide (b.Low.X<=b.High.X)<;>rfl
def inBx(b:Box)(p:Place):Bool:=isBx b && (wi p.X b.Low.X b.High.X && wi p.Y b.Low.Y b.High.Y)
abbrev gInS:=F320 gBxS
abbrev gInI:=F130 gBx gW
theorem inS(b:Box)(p:Place):gInS (b,p,())=some (inBx b p,()):=by
 unfold gInS F320 inBx wi
 simp only[bxS,al_bind_some,ge_iff_le]
 cases isBx b<;>cases decide (b.Low.X<=p.X)<;>cases decide (p.X<=b.High.X)<;>cases decide (b.Low.Y<=p.Y)<;>rfl
theorem inI(b:Box)(p:Place):gInI (b,p,())=some (inBx b p,()):=by
 unfold gInI F130 inBx
 simp only[bxI,ZA8,al_bind_some]
 cases isBx b<;>cases wi p.X b.Low.X b.High.X<;>rfl
def isIn(b c:Box):Bool:=inBx c b.Low && inBx c b.High
abbrev gWtS:=F349 gInS
abbrev gWt:=F294 gInI
theorem wtS(b c:Box):gWtS (b,c,())=some (isIn b c,()):=by
 unfold gWtS F349 isIn
 simp only[inS,al_bind_some]
 cases inBx c b.Low<;>rfl
theorem wtI(b c:Box):gWt (b,c,())=some (isIn b c,()):=by
 unfold gWt F294 isIn
 simp only[inI,al_bind_some]
 cases inBx c b.Low<;>rfl
theorem ZP4{b c:Box}(h:isBx c=false):isIn b c=false:=by
 unfold isIn inBx;rw[h];rfl
abbrev ZP5:=F308 ZDU gBxS F348 gLBS gWtS
abbrev gLim:=F208 gDev gLB gWt
def lbB(d:Device)(r:List Place)(c:Box)(x:Int):Bool:=match gLB ((⟨⟨d.At.X,d.At.Y⟩,d.Heading,d.Tilt,x⟩:Jet),r,())with
 | some (B,b,_)=>b && isIn B c
 | none=>false
structure LimP(d:Device)(r:List Place)(c:Box)(v:Int):Prop where
 range:0<=v/\v<=d.Most
 below: ∀x:Int,1<=x->x<=v->lbB d r c x=true
 next:v<d.Most->lbB d r c (v+1)=false
theorem ZVq(d:Device)(r:List Place)(c:Box)(h1:d.Name.length<=1048576)(h2:d.Line.length<=1048576)(hr:r.length<=1048576): ∃v,ZP5 (d,r,c,())=some (v,())/\gLim (d,r,c,())=some (v,())/\((devB d=true/\d.Kind=2/\LimP d r c v)\/(¬(devB d=true/\d.Kind=2)/\v=0)):=by
 obtain⟨d1,d2⟩:=ZDD d h1 h2
 have d3:devB d=true->d.Kind=2->0<=d.Most/\d.Most<=32:=λh k=>by
  unfold devB at h
  rw[al_if_neg,al_if_pos k]at h
  simp only[ZAM]at h
  exact ZAr.1 h.2.2.2.2
 generalize devB d=b at d1 d2 d3
 unfold ZP5 F308 gLim F208
 simp only[d2,al_bind_some]
 by_cases hgo:b=true/\d.Kind=2
 ·obtain⟨rfl,hk⟩:=hgo
  obtain⟨m0,m1⟩:=d3 rfl hk
  simp only[ZAF,ZAH,al_cond_true,hk,decide_true,al_cond_false]
  have key: ∀(e i n:Nat),i+e=d.Most.toNat->e<n-> ∃v,
    ZAD (s308_0 ZDU gBxS F348 gLBS gWtS) n (r,d,c,(i:Int),((i+1:Nat):Int),()) (λt7=>some (t7.2.2.2.1,()))=some (v,())/\
    ZAD (s208_0 gDev gLB gWt) n (r,d,c,((i+1:Nat):Int),()) (λt5=>some (t5.2.1.Most,()))=some (v,())/\(i:Int)<=v/\v<=d.Most/\(∀x:Int,(i:Int)<x->x<=v->lbB d r c x=true)/\(v<d.Most->lbB d r c (v+1)=false):=by
   intro e
   induction e with
   | zero=>
    intro i n he hn
    obtain⟨n,rfl⟩: ∃k,n=k+1:=⟨n-1,by omega⟩
    refine⟨d.Most,?_,?_,by omega,by omega,λx h1 h2=>by omega,λh=>by omega⟩
    ·rw[ZAT];simp only[s308_0];rw[ZAA]
     have:(i:Int)=d.Most:=by omega
     rw[this]
    ·rw[ZAT];simp only[s208_0];rw[ZAA]
   | succ e ih=>
    intro i n he hn
    obtain⟨n,rfl⟩: ∃k,n=k+1:=⟨n-1,by omega⟩
    obtain⟨B,b,l1,l2⟩:=ZKw ⟨⟨d.At.X,d.At.Y⟩,d.Heading,d.Tilt,((i+1:Nat):Int)⟩ r hr
    have e1:w64 (((i+1:Nat):Int)+1)=((i+1+1:Nat):Int):=ZAB
    have e2:w64 (((i+1:Nat):Int) -1)=(i:Int):=by rw[ZAB];omega
    have hlb:lbB d r c ((i:Int)+1)=(b && isIn B c):=by
     have e3:(i:Int)+1=((i+1:Nat):Int):=by omega
     unfold lbB
     rw[e3,l2]
    obtain⟨v,g1,g2,g3,g4,g5,g6⟩:=ih (i+1) n (by omega) (by omega)
    by_cases hc:isBx c=true
    ·cases hb:b
     ·refine⟨(i:Int),?_,?_,by omega,by omega,λx h1 h2=>by omega,λ_=>by rw[hlb,hb];rfl⟩
      ·rw[ZAT];simp only[s308_0];rw[ZA]
       simp only[d1,al_bind_some,al_cond_true,hk,decide_true,bxS,hc,F348,l1,hb]
       rfl
      ·rw[ZAT];simp only[s208_0];rw[ZA]
       simp only[l2,hb,al_bind_some,e2]
       rfl
     ·cases hin:isIn B c
      ·refine⟨(i:Int),?_,?_,by omega,by omega,λx h1 h2=>by omega,λ_=>by rw[hlb,hb,hin];rfl⟩
       ·rw[ZAT];simp only[s308_0];rw[ZA]
        simp only[d1,al_bind_some,al_cond_true,hk,decide_true,bxS,hc,F348,l1,hb,wtS,hin]
        rfl
       ·rw[ZAT];simp only[s208_0];rw[ZA]
        simp only[l2,hb,al_bind_some,wtI,hin,e2]
        rfl
      ·refine⟨v,?_,?_,by omega,by omega,λx h1 h2=> ?_,g6⟩
       ·rw[ZAT];simp only[s308_0];rw[ZA]
        simp only[d1,al_bind_some,al_cond_true,hk,decide_true,bxS,hc,F348,l1,hb,wtS,hin,e1]
        exact g1
       ·rw[ZAT];simp only[s208_0];rw[ZA]
        simp only[l2,hb,al_bind_some,wtI,hin,e1]
        exact g2
       ·by_cases hx:x=(i:Int)+1
        ·rw[hx,hlb,hb,hin];rfl
        ·exact g5 x (by omega) h2
    ·have hc':isBx c=false:=by simpa using hc
     refine⟨(i:Int),?_,?_,by omega,by omega,λx h1 h2=>by omega,λ_=>by rw[hlb,ZP4 hc',Bool.and_false]⟩
     ·rw[ZAT];simp only[s308_0];rw[ZA]
      simp only[d1,al_bind_some,al_cond_true,hk,decide_true,bxS,hc']
      rfl
     ·rw[ZAT];simp only[s208_0];rw[ZA]
      cases b<;>simp only[l2,al_bind_some,wtI,ZP4 hc',e2]<;>rfl
  obtain⟨v,g1,g2,g3,g4,g5,g6⟩:=key d.Most.toNat 0 fuel (by omega) (by rw[ZBu];omega)
  exact⟨v,g1,g2,.inl ⟨by first | rfl | trivial,by first | exact hk | trivial,⟨by omega,g4⟩,λx h1 h2=>g5 x (by omega) h2,g6⟩⟩
 ·refine⟨0,?_,?_,.inr ⟨hgo,rfl⟩⟩
  ·rw[show fuel=(fuel-1)+1 by rw[ZBu],ZAT]
   simp only[s308_0,d1,al_bind_some]
   cases b with
   | false=>cases decide ((1:Int)<=d.Most)<;>rfl
   | true=>
    have hk: ¬d.Kind=2:=λh=>hgo ⟨rfl,h⟩
    rw[ZAG hk]
    cases decide ((1:Int)<=d.Most)<;>rfl
  ·cases b with
   | false=>rfl
   | true=>
    have hk: ¬d.Kind=2:=λh=>hgo ⟨rfl,h⟩
    rw[ZAG hk];rfl
end Ev
namespace Ev
open Go
theorem ZVr(b:Box)(p:Place):G320 (b,p,())=some (inBx b p,()):=inS b p
theorem ZVs(b:Box)(p:Place):G130 (b,p,())=some (inBx b p,()):=inI b p
theorem ZHL(b:Box):G142 (b,())=some (isBx b,()):=bxS b
theorem ZEM(b:Box):G52 (b,())=some (isBx b,()):=bxI b
def wetF(c:Box)(a:List Drop)(x:Drop):List Drop:=if inBx c x.At=true then a else a++[x]
def wetL(c:Box)(L:List Drop):List Drop:=if isBx c=true then L.foldl (wetF c) []else []
theorem ZP6(c:Box): ∀(l a:List Drop),(l.foldl (wetF c) a).length<=a.length+l.length
 | [],a=>by simp
 | d::l,a=>by
  have:=ZP6 c l (wetF c a d)
  have h1:(wetF c a d).length<=a.length+1:=by unfold wetF;split<;>simp
  simp only[List.foldl_cons,al_len_cons]
  omega
theorem ZVt(c:Box)(L:List Drop)(hL:L.length<=1048576)(hc:isBx c=true):ZAD (s56_0 G52 G114 G130) fuel (c,([]:List Drop),L,Int.ofNat L.length,0,()) (λt5=>some (t5.2.1,()))=some (wetL c L,()):=by
 refine(ZAW (f:=s56_0 G52 G114 G130) (K:=λt5=>some (t5.2.1,())) (λi=>(c,(L.take i).foldl (wetF c) [],L,Int.ofNat L.length,(i:Int),())) L.length (by omega) ?_ ?_).trans (by unfold wetL;rw[hc];simp)
 ·intro i hi rec K
  have hx:L[i]?=some L[i]:=by simp
  have e1:w64 ((i:Int)+1)=((i+1:Nat):Int):=ZAB
  have hn:=ZP6 c (L.take i) []
  rw[ZB8 _ _ L i hi]
  generalize (L.take i).foldl (wetF c) []=acc at hn⊢
  unfold wetF
  have hx':=λ(K:Drop->Option (List Drop×Unit))=>ZAE (K:=K) hx
  simp only[s56_0]
  rw[ZA]
  simp only[hx',hx,ZAX,e1]
  simp only[al_bind_some,al_cond_true,ZVs]
  cases inBx c L[i].At
  ·simp only[ZAH,al_cond_true]
   rw[ZAC (by simp at hn⊢;omega)];rfl
  ·rfl
 ·intro rec K
  simp only[s56_0]
  rw[ZAA]
theorem ZP7(c:Box): ∀(L a:List Drop),(L.foldl (wetF c) a).length=0↔a=[]/\L.all (λx=>inBx c x.At)=true
 | [],a=>by simp
 | x::L,a=>by
  rw[List.foldl_cons,ZP7 c L]
  unfold wetF
  cases hx:inBx c x.At<;>simp[hx]
def dryB(c:Box)(L:List Drop):Bool:=L.all λx=>inBx c x.At
theorem ZEN(r:List Place)(hr:r.length<=1048576): ∃b,G51 (r,())=some (b,())/\G141 (r,())=some (b,())/\(b=true->1<=r.length/\r.length<=4/\ ∀p∈r,isDr p=true):=by
 obtain⟨b,h1,h2⟩:=ZKv r hr
 have h1:G51 (r,())=some (b,()):=h1
 refine⟨b,h1,?_,h2⟩
 have e:G141=G51:=ZO7
 rw[e];exact h1
def lbx(j:Jet)(r:List Place):Box:=((G213 (j,r,())).map λx=>x.1).getD ⟨⟨0,0⟩,⟨0,0⟩⟩
def lbb(j:Jet)(r:List Place):Bool:=((G213 (j,r,())).map λx=>x.2.1).getD false
theorem ZLU(j:Jet)(r:List Place)(hr:r.length<=1048576):G213 (j,r,())=some (lbx j r,lbb j r,()):=by
 obtain⟨B,b,h1,h2⟩:=ZKw j r hr
 have h2:G213 (j,r,())=some (B,b,()):=h2
 unfold lbx lbb;rw[h2];rfl
theorem ZVu(j:Jet)(r:List Place)(hr:r.length<=1048576):G318 (j,r,())=some (lbx j r,lbb j r,()):=by
 obtain⟨B,b,h1,h2⟩:=ZKw j r hr
 have h1:G318 (j,r,())=some (B,b,()):=h1
 have h2:G213 (j,r,())=some (B,b,()):=h2
 unfold lbx lbb;rw[h1,h2];rfl
def ZCq(r:List Place)(a:List Place)(x:Throw):List Place:=a++[(lbx x.jet r).Low,(lbx x.jet r).High]
theorem ZIy(r:List Place): ∀(l:List Throw) (a:List Place),(l.foldl (ZCq r) a).length=a.length+2*l.length
 | [],a=>by simp
 | d::l,a=>by
  simp only[List.foldl_cons,al_len_cons,ZIy r l]
  unfold ZCq;simp;omega
theorem ZVv(l:List Place)(hl:l.length<=1048576): ∃B b,G319 (l,())=some (B,b,())/\G214 (l,())=some (B,b,()):=by
 obtain⟨B,b,h1,h2,_⟩:=ZPA l hl 0
 exact⟨B,b,h1,h2⟩
theorem ZVw:G214 (([]:List Place),())=some (⟨⟨0,0⟩,⟨0,0⟩⟩,false,()):=by rfl
theorem ZVx(r:List Place)(hr:r.length<=1048576)(l:List Throw)(hl:l.length<=1024)(K:List Place×Box×List Place×List Throw×Int×Int×Unit->Option (Box×Bool×Unit)):
  ZAD (s241_0 G140 G141 G309 G318 G319) fuel (r,⟨⟨0,0⟩,⟨0,0⟩⟩,[],l,Int.ofNat l.length,0,()) K=K (r,⟨⟨0,0⟩,⟨0,0⟩⟩,l.foldl (ZCq r) [],l,Int.ofNat l.length,Int.ofNat l.length,()):=by
 refine(ZAW (f:=s241_0 G140 G141 G309 G318 G319) (K:=K) (λi=>(r,⟨⟨0,0⟩,⟨0,0⟩⟩,(l.take i).foldl (ZCq r) [],l,Int.ofNat l.length,(i:Int),())) l.length (by omega) ?_ ?_).trans (by simp)
 ·intro i hi rec K
  have hx:l[i]?=some l[i]:=by simp
  have e1:w64 ((i:Int)+1)=((i+1:Nat):Int):=ZAB
  have hn:=ZIy r (l.take i) []
  rw[ZB8 _ _ l i hi]
  generalize (l.take i).foldl (ZCq r) []=acc at hn⊢
  unfold ZCq
  simp only[s241_0]
  have hx':=λ(K:Throw->Option (Box×Bool×Unit))=>ZAE (K:=K) hx
  rw[ZA]
  simp only[hx',hx,ZAX,e1,ZVu _ r hr,al_bind_some]
  rw[ZAC (by simp at hn⊢;omega)]
 ·intro rec K
  simp only[s241_0]
  rw[ZAA]
theorem ZP8(r:List Place)(hr:r.length<=1048576)(l:List Throw)(hl:l.length<=1024)(K:List Place×Box×List Place×List Throw×Int×Int×Unit->Option (Box×Bool×Unit)):
  ZAD (s117_0 G51 G59 G213 G214) fuel (r,⟨⟨0,0⟩,⟨0,0⟩⟩,[],l,Int.ofNat l.length,0,()) K=K (r,⟨⟨0,0⟩,⟨0,0⟩⟩,l.foldl (ZCq r) [],l,Int.ofNat l.length,Int.ofNat l.length,()):=by
 refine(ZAW (f:=s117_0 G51 G59 G213 G214) (K:=K) (λi=>(r,⟨⟨0,0⟩,⟨0,0⟩⟩,(l.take i).foldl (ZCq r) [],l,Int.ofNat l.length,(i:Int),())) l.length (by omega) ?_ ?_).trans (by simp)
 ·intro i hi rec K
  have hx:l[i]?=some l[i]:=by simp
  have e1:w64 ((i:Int)+1)=((i+1:Nat):Int):=ZAB
  have hn:=ZIy r (l.take i) []
  rw[ZB8 _ _ l i hi]
  generalize (l.take i).foldl (ZCq r) []=acc at hn⊢
  unfold ZCq
  simp only[s117_0]
  have hx':=λ(K:Throw->Option (Box×Bool×Unit))=>ZAE (K:=K) hx
  rw[ZA]
  simp only[hx',hx,ZAX,e1,ZLU _ r hr,al_bind_some]
  rw[ZAC (by simp at hn⊢;omega)]
 ·intro rec K
  simp only[s117_0]
  rw[ZAA]
theorem ZVy(s:ZAN)(h:ShowOK s)(r:List Place)(hr:r.length<=1048576): ∃B b,G241 (s,r,())=some (B,b,())/\G117 (s,r,())=some (B,b,()):=by
 obtain⟨b,r1,r2,_⟩:=ZEN r hr
 unfold G241 F241 G117 F117
 try simp only[ZBC]
 rw[ZCQ s h,r1]
 simp only[al_bind_some]
 cases hb:ZA2 s
 ·cases b
  ·exact⟨_,_,rfl,rfl⟩
  ·refine⟨_,_,rfl,?_⟩
   simp only[ZAF,al_cond_false]
   rw[ZHG h hb]
   simp only[al_bind_some]
   have:=ZP8 r hr [] (by simp) (λt5=>(G214 (t5.2.2.1,())).bind λx6=>some (x6.1,x6.2.1,()))
   exact this.trans (by rw[show([]:List Throw).foldl (ZCq r) []=[]from rfl,ZVw];rfl)
 ·have hv:=ZDl h hb
  have hl:=ZBx hv
  simp only[ZAF,al_cond_false,r2,al_bind_some]
  cases b
  ·exact⟨_,_,rfl,rfl⟩
  ·simp only[ZAF,ZAH,al_cond_true,al_cond_false]
   rw[ZE6 hv,ZDX hv]
   simp only[al_bind_some]
   rw[ZVx r hr _ (by omega),ZP8 r hr _ (by omega)]
   obtain⟨B,b,q1,q2⟩:=ZVv ((ZAO s).foldl (ZCq r) []) (by rw[ZIy];simp;omega)
   refine⟨B,b,?_,?_⟩
   ·simp only[q1];rfl
   ·simp only[q2];rfl
theorem ZVz(a:Box):F71 F160 (a,a,())=some (true,()):=by
 unfold F71
 simp only[ZIa,al_bind_some]
 rfl
theorem ZP9(b c:Box):G294 (b,c,())=some (isIn b c,()):=wtI b c
end Ev
end
