/- Laid together by program (what the claim does not reach is left out): BaseB, DropA. -/
import Derived.Test.YtoafhcjocdjkjaaGreatDoorZC09
set_option linter.all false
set_option maxRecDepth 100000
open Go.Proofs.Tryz
noncomputable section
namespace Ev
open Go
def devB(d:Device):Bool:=isNm d.Name && (if d.Kind=1 then decide (d.Line=[]) && (decide (d.At.X=0) && (decide (d.At.Y=0) && (decide (d.Heading=0) && (decide (d.Tilt=0) && wi d.Most 0 512))))
 else if d.Kind=2 then isNm d.Line && (!decide (d.Line=d.Name) && (ZAk (devJ d) && wi d.Most 0 32))
 else if d.Kind=3 then decide (d.Heading=0) && (decide (d.Tilt=0) && (decide (d.Most=0) && (isNm d.Line && (!decide (d.Line=d.Name) && isPl d.At))))else false)
theorem ZP7(nm:Str)(k:Int)(ln:Str)(p:Place)(h t m:Int):devB ⟨nm,k,ln,p,h,t,m⟩=(isNm nm && (if k=1 then decide (ln=[]) && (decide (p.X=0) && (decide (p.Y=0) && (decide (h=0) && (decide (t=0) && wi m 0 512))))
 else if k=2 then isNm ln && (!decide (ln=nm) && (ZAk (devJ ⟨nm,k,ln,p,h,t,m⟩) && wi m 0 32))
 else if k=3 then decide (h=0) && (decide (t=0) && (decide (m=0) && (isNm ln && (!decide (ln=nm) && isPl p))))else false)):=rfl
theorem ZC1(d:Device)(h1:d.Name.length<=1048576)(h2:d.Line.length<=1048576):ZDj (d,())=some (devB d,())/\gDev (d,())=some (devB d,()):=by
 have jI:gJet ((⟨⟨d.At.X,d.At.Y⟩,d.Heading,d.Tilt,1⟩:Jet),())=some (ZAk (devJ d),()):=jetI (devJ d)
 unfold ZDj F169 gDev F192 devB
 simp only[ZHY d.Name h1,ZHY d.Line h2,ZHZ d.Name h1,ZHZ d.Line h2,supS,supI,djS,jI,ZC0,ZA9,ZDz,ZB1,al_bind_some,decide_true,Bool.true_and,Bool.and_true]
 by_cases k1:d.Kind=1
 ·simp only[k1,decide_true,al_cond_true,if_true]
  cases isNm d.Name<;>cases isNm d.Line<;>cases decide (d.Line=[])<;>cases decide (d.At.X=0)<;>cases decide (d.At.Y=0)<;>cases decide (d.Heading=0)<;>cases decide (d.Tilt=0)<;>cases wi d.Most 0 512<;>exact⟨rfl,rfl⟩
 ·by_cases k2:d.Kind=2
  ·simp only[k2,decide_true,al_cond_true,show¬(2:Int)=1 by decide,decide_false,al_cond_false,if_true,if_false]
   cases isNm d.Name<;>cases isNm d.Line<;>cases decide (d.Line=d.Name)<;>cases ZAk (devJ d)<;>cases wi d.Most 0 32<;>exact⟨rfl,rfl⟩
  ·by_cases k3:d.Kind=3
   ·simp only[k3,decide_true,al_cond_true,show¬(3:Int)=1 by decide,show¬(3:Int)=2 by decide,decide_false,al_cond_false,if_true,if_false]
    cases isNm d.Name<;>cases isNm d.Line<;>cases decide (d.Line=d.Name)<;>cases isPl d.At<;>cases decide (d.Heading=0)<;>cases decide (d.Tilt=0)<;>cases decide (d.Most=0)<;>exact⟨rfl,rfl⟩
   ·simp only[k1,k2,k3,decide_false,al_cond_false,if_false]
    cases isNm d.Name<;>cases isNm d.Line<;>exact⟨rfl,rfl⟩
theorem mod4(n:Int):Int.tmod n 4=n % 4-(if 0<=n\/(4:Int)∣n then 0 else 4):=by
 rw[Int.tmod_eq_emod];by_cases h:0<=n\/(4:Int)∣n
 ·rw[al_if_pos h,al_if_pos h];rfl
 ·rw[al_if_neg h,al_if_neg h];rfl
theorem ZP8(n:Int):F371 (n,())=some (n % 4,()):=by
 unfold F371
 simp only
 have h:=mod4 n
 by_cases hc:0<=n\/(4:Int)∣n
 ·rw[al_if_pos hc]at h
  rw[ZAA,h];simp
 ·rw[al_if_neg hc]at h
  have:Int.tmod n 4<0:=by omega
  rw[ZA this,ZAC,h]
  congr 2;omega
theorem ZP9(a:Int)(h0:0<=a):Int.tmod a 4=a % 4:=by
 rw[mod4,al_if_pos (.inl h0)];omega
theorem ZQ(n:Int):F304 (n,())=some (n % 4,()):=by
 unfold F304
 simp only
 have h:=mod4 n
 have hb:0<=Int.tmod n 4+4/\Int.tmod n 4+4<=8:=by split at h<;>omega
 rw[ZAC,ZP9 _ hb.1]
 congr 2
 split at h<;>omega
def q4(n:Int):Nat:=(n % 4).toNat
theorem ZEg(n:Int):q4 n<4:=by unfold q4;omega
theorem ZQA(n:Int):((q4 n:Nat):Int)=n % 4:=by unfold q4;omega
theorem ZI7(p:Place)(n:Int):ZD0 (p,n,())=some (rotN (q4 n) p,()):=by
 unfold ZD0 F355
 simp only[ZP8,al_bind_some]
 obtain⟨m,hm⟩:=ZB0 9 (by omega)
 obtain⟨c,hc⟩:=ZPi F371 p ⟨0,0⟩ m (q4 n) (ZEg n) (λt3=>some (t3.1,()))
 rw[ZQA]at hc
 rw[hm,hc]
theorem ZHb(p:Place)(n:Int):ZD1 (p,n,())=some (rotN (q4 n) p,()):=by
 unfold ZD1 F220
 simp only[ZQ,al_bind_some]
 obtain⟨m,hm⟩:=ZB0 9 (by omega)
 obtain⟨c,hc⟩:=ZPj F304 p ⟨0,0⟩ m (q4 n) (ZEg n) (λt3=>some (t3.1,()))
 rw[ZQA]at hc
 rw[hm,hc]
def hd4(h n:Int):Int:=if wi h 0 3=true then(h+n % 4) % 4 else 0
abbrev gThS:=F372 F354 F371
abbrev gTh:=F292 ZHT F304
theorem thS(h n:Int):gThS (h,n,())=some (hd4 h n,()):=by
 unfold gThS F372 hd4
 simp only[ZLT,al_bind_some]
 cases hw:wi h 0 3
 ·rfl
 ·have:=ZAj.1 hw
  simp only[ZAG,al_cond_false,ZP8,al_bind_some,if_true]
  rw[ZAC]
theorem thI(h n:Int):gTh (h,n,())=some (hd4 h n,()):=by
 unfold gTh F292 hd4
 simp only[ZHU,al_bind_some]
 cases hw:wi h 0 3
 ·rfl
 ·have:=ZAj.1 hw
  simp only[ZAG,al_cond_false,ZQ,al_bind_some,if_true]
  rw[ZAC,ZP9 _ (by omega)]
theorem ZLj(m:Int)(hb:m<=1099511627776)(p:Place)(hx: -m<=p.X/\p.X<=m)(hy: -m<=p.Y/\p.Y<=m)(k:Nat)(hk:k<4):(-m<=(rotN k p).X/\(rotN k p).X<=m)/\(-m<=(rotN k p).Y/\(rotN k p).Y<=m):=by
 obtain⟨x,y⟩:=p
 simp only at hx hy
 have e1:w64 (0-x)= -x:=by rw[ZAC];omega
 have e2:w64 (0-y)= -y:=by rw[ZAC];omega
 have e3:w64 (0- -x)=x:=by rw[ZAC];omega
 have e4:w64 (0- -y)=y:=by rw[ZAC];omega
 rcases k4 hk with rfl | rfl | rfl | rfl<;>simp only[rotN,e1,e2,e3,e4]<;>omega
theorem ZQB(k:Nat)(hk:k<4):rotN k ⟨0,0⟩=⟨0,0⟩:=by
 rcases k4 hk with rfl | rfl | rfl | rfl<;>kernel_rfl
def mvD(n:Int)(d:Device):Device:=⟨d.Name,d.Kind,d.Line,⟨(rotN (q4 n) d.At).X,(rotN (q4 n) d.At).Y⟩,if d.Kind=2 then hd4 d.Heading n else d.Heading,d.Tilt,d.Most⟩
theorem ZLk{d:Device}(h:devB d=true):(-4096<=d.At.X/\d.At.X<=4096)/\(-4096<=d.At.Y/\d.At.Y<=4096)/\(d.Kind=1->d.At.X=0/\d.At.Y=0):=by
 unfold devB at h
 rw[ZAJ]at h
 have h:=h.2
 by_cases k1:d.Kind=1
 ·rw[al_if_pos k1]at h
  simp only[ZAJ,ZAX]at h
  omega
 ·rw[al_if_neg k1]at h
  by_cases k2:d.Kind=2
  ·rw[al_if_pos k2]at h
   simp only[ZAJ]at h
   have J:=ZBk h.2.2.1
   have jx:=J.x;have jy:=J.y
   simp only[devJ]at jx jy
   omega
  ·rw[al_if_neg k2]at h
   by_cases k3:d.Kind=3
   ·rw[al_if_pos k3]at h
    simp only[ZAJ,isPl,ZAj]at h
    omega
   ·rw[al_if_neg k3]at h;cases h
theorem ZQC(n:Int){d:Device}(h:devB d=true):devB (mvD n d)=true:=by
 have hb:=ZLk h
 unfold devB at h
 unfold mvD
 rw[ZP7]
 rw[ZAJ]at h⊢
 refine⟨h.1,?_⟩
 have h:=h.2
 by_cases k1:d.Kind=1
 ·rw[al_if_pos k1]at h⊢
  have hz:d.At=⟨0,0⟩:=by
   have:=hb.2.2 k1
   cases hA:d.At
   rw[hA]at this
   simp only at this
   rw[this.1,this.2]
  rw[hz,ZQB _ (ZEg n)]
  rw[al_if_neg]
  rw[hz]at h
  exact h
 ·rw[al_if_neg k1]at h⊢
  by_cases k2:d.Kind=2
  ·rw[al_if_pos k2]at h⊢
   rw[al_if_pos k2]
   simp only[ZAJ]at h⊢
   refine⟨h.1,h.2.1,?_,h.2.2.2⟩
   have J:=ZBk h.2.2.1
   have jx:=J.x;have jy:=J.y;have jh:=J.h;have jt:=J.t
   simp only[devJ]at jx jy jh jt
   have hr:=ZLj 1024 (by omega) d.At jx jy (q4 n) (ZEg n)
   have hh:hd4 d.Heading n=(d.Heading+n % 4) % 4:=by unfold hd4;rw[al_if_pos (ZAZ jh.1 jh.2)]
   unfold ZAk devJ
   simp only
   rw[ZAZ hr.1.1 hr.1.2,ZAZ hr.2.1 hr.2.2,hh,ZAZ (by omega) (by omega),ZAZ jt.1 jt.2,ZAZ (by omega) (by omega)]
   rfl
  ·rw[al_if_neg k2]at h⊢
   rw[al_if_neg k2]
   by_cases k3:d.Kind=3
   ·rw[al_if_pos k3]at h⊢
    simp only[ZAJ]at h⊢
    refine⟨h.1,h.2.1,h.2.2.1,h.2.2.2.1,h.2.2.2.2.1,?_⟩
    have hr:=ZLj 4096 (by omega) d.At hb.1 hb.2.1 (q4 n) (ZEg n)
    unfold isPl
    rw[ZAZ hr.1.1 hr.1.2,ZAZ hr.2.1 hr.2.2];rfl
   ·rw[al_if_neg k3]at h;cases h
theorem ZBq{α:Type}(r:List α)(i:Nat)(h:i<r.length):r.take (i+1)=r.take i++[r[i]]:=by
 rw[List.take_add_one];simp[h]
theorem ZD2{α β:Type}(f:α->β)(r:List α)(i:Nat)(h:i<r.length):(r.take i).map f++[f r[i]]=(r.take (i+1)).map f:=by
 rw[ZBq r i h,List.map_append];rfl
abbrev gMvS:=F360 ZD0 F317 gThS ZDj
theorem ZV0(l:List Device)(hl:l.length<=1048576)(hn:ZCc l)(hd: ∀d∈l,devB d=true)(n:Int):gMvS (l,n,(⟨0,0⟩:Place),())=some (l.map (mvD n),true,()):=by
 unfold gMvS F360
 obtain⟨t,⟨_,rfl⟩,e⟩:=ZFF (f:=s360_0 ZD0 F317 gThS ZDj) (K:=λt11=>some (t11.2.2.1,true,())) (t:=(n,(⟨0,0⟩:Place),([]:List Device),l,Int.ofNat l.length,0,())) l.length
  (λi t=>True/\t=(n,(⟨0,0⟩:Place),(l.take i).map (mvD n),l,Int.ofNat l.length,(i:Int),())) (by omega) ⟨trivial,rfl⟩
  (by
   rintro i _ hi ⟨_,rfl⟩
   have hx:l[i]?=some l[i]:=by simp
   have e1:w64 ((i:Int)+1)=((i+1:Nat):Int):=ZAC
   have hmem:l[i]∈l:=by simp
   obtain⟨q1,q2⟩:=hn l[i] hmem
   have hv:=hd l[i] hmem
   have hb:=ZLk hv
   have hr:=ZLj 4096 (by omega) l[i].At hb.1 hb.2.1 (q4 n) (ZEg n)
   have ex:w64 ((rotN (q4 n) l[i].At).X+0)=(rotN (q4 n) l[i].At).X:=by rw[ZAC];omega
   have ey:w64 ((rotN (q4 n) l[i].At).Y+0)=(rotN (q4 n) l[i].At).Y:=by rw[ZAC];omega
   have hm:=(ZC1 (mvD n l[i]) q1 q2).1
   rw[ZQC n hv]at hm
   have hcap:((l.take i).map (mvD n)).length+1<=1099511627776:=by simp;omega
   refine⟨_,⟨trivial,rfl⟩,λrec K=> ?_⟩
   rw[<-ZD2 (mvD n) l i hi]
   simp only[s360_0]
   rw[ZA,ZAF hx]
   by_cases k1:l[i].Kind=1
   ·have hz:l[i].At=⟨0,0⟩:=by
     have:=hb.2.2 k1
     cases hA:l[i].At
     rw[hA]at this
     simp only at this
     rw[this.1,this.2]
    have hmv:mvD n l[i]=⟨l[i].Name,l[i].Kind,l[i].Line,⟨l[i].At.X,l[i].At.Y⟩,l[i].Heading,l[i].Tilt,l[i].Most⟩:=by
     unfold mvD
     rw[hz,ZQB _ (ZEg n),al_if_neg]
    rw[hmv]at hm⊢
    rw[ZAH k1]
    simp only[ZAG,al_cond_false]
    rw[ZAA,hm]
    simp only[al_bind_some,ZAG,al_cond_false]
    rw[ZAB (by simpa using hcap),e1]
   ·rw[ZAE k1]
    simp only[ZAK,al_cond_true,ZI7,F317,al_bind_some,ex,ey]
    by_cases k2:l[i].Kind=2
    ·have hmv:mvD n l[i]=⟨l[i].Name,l[i].Kind,l[i].Line,⟨(rotN (q4 n) l[i].At).X,(rotN (q4 n) l[i].At).Y⟩,hd4 l[i].Heading n,l[i].Tilt,l[i].Most⟩:=by
      unfold mvD;rw[al_if_pos k2]
     rw[hmv]at hm⊢
     rw[ZA k2]
     simp only[thS,al_bind_some,hm,ZAG,al_cond_false]
     rw[ZAB (by simpa using hcap),e1]
    ·have hmv:mvD n l[i]=⟨l[i].Name,l[i].Kind,l[i].Line,⟨(rotN (q4 n) l[i].At).X,(rotN (q4 n) l[i].At).Y⟩,l[i].Heading,l[i].Tilt,l[i].Most⟩:=by
      unfold mvD;rw[al_if_neg k2]
     rw[hmv]at hm⊢
     rw[ZAA k2]
     simp only[al_bind_some,hm,ZAG,al_cond_false]
     rw[ZAB (by simpa using hcap),e1])
  (by
   rintro _ ⟨_,rfl⟩ rec K
   simp only[s360_0]
   rw[ZAA])
 rw[List.take_length]at e
 exact e
abbrev gTRS:=F327 ZI6 gMvS
abbrev gTR:=F205 gRig ZD1 gTh
theorem ZV1(l:List Device)(hl:l.length<=1048576)(hn:ZCc l)(hr1:ZI6 (l,())=some (true,()))(hr2:gRig (l,())=some (true,()))(hd: ∀d∈l,devB d=true)(n:Int):
  gTRS (l,n,())=some (l.map (mvD n),())/\gTR (l,n,())=some (l.map (mvD n),()):=by
 refine⟨?_,?_⟩
 ·unfold gTRS F327
  simp only[hr1,al_bind_some,ZAG,al_cond_false]
  rw[ZV0 l hl hn hd n];rfl
 ·unfold gTR F205
  simp only[hr2,al_bind_some,ZAG,al_cond_false]
  obtain⟨t,⟨_,rfl⟩,e⟩:=ZFF (f:=s205_0 gRig ZD1 gTh) (K:=λt6=>some (t6.2.1,())) (t:=(n,([]:List Device),l,Int.ofNat l.length,0,())) l.length
   (λi t=>True/\t=(n,(l.take i).map (mvD n),l,Int.ofNat l.length,(i:Int),())) (by omega) ⟨trivial,rfl⟩
   (by
    rintro i _ hi ⟨_,rfl⟩
    have hx:l[i]?=some l[i]:=by simp
    have e1:w64 ((i:Int)+1)=((i+1:Nat):Int):=ZAC
    have hcap:((l.take i).map (mvD n)).length+1<=1099511627776:=by simp;omega
    refine⟨_,⟨trivial,rfl⟩,λrec K=> ?_⟩
    rw[<-ZD2 (mvD n) l i hi]
    simp only[s205_0]
    rw[ZA,ZAF hx]
    simp only[ZHb,thI,al_bind_some]
    by_cases k2:l[i].Kind=2
    ·rw[ZA k2,ZAB (by simpa using hcap),e1]
     unfold mvD;rw[al_if_pos k2]
    ·rw[ZAA k2,ZAB (by simpa using hcap),e1]
     unfold mvD;rw[al_if_neg k2])
   (by
    rintro _ ⟨_,rfl⟩ rec K
    simp only[s205_0]
    rw[ZAA])
  rw[List.take_length]at e
  exact e
def mvG(n:Int)(g:Gust):Gust:=⟨g.From,⟨(rotN (q4 n) g.Drift).X,(rotN (q4 n) g.Drift).Y⟩⟩
abbrev gTWS:=F328 ZFL ZD0
abbrev gTW:=F206 ZEf ZD1
theorem ZV2(l:List Gust)(hl:l.length<=1048576)(hw1:ZFL (l,())=some (true,()))(hw2:ZEf (l,())=some (true,()))(n:Int):
  gTWS (l,n,())=some (l.map (mvG n),())/\gTW (l,n,())=some (l.map (mvG n),()):=by
 refine⟨?_,?_⟩
 ·unfold gTWS F328
  obtain⟨t,⟨_,rfl⟩,e⟩:=ZFF (f:=s328_0 ZFL ZD0) (K:=λt5=>some (t5.2.2.1,())) (t:=(l,n,([]:List Gust),l,Int.ofNat l.length,0,())) l.length
   (λi t=>True/\t=(l,n,(l.take i).map (mvG n),l,Int.ofNat l.length,(i:Int),())) (by omega) ⟨trivial,rfl⟩
   (by
    rintro i _ hi ⟨_,rfl⟩
    have hx:l[i]?=some l[i]:=by simp
    have e1:w64 ((i:Int)+1)=((i+1:Nat):Int):=ZAC
    have hcap:((l.take i).map (mvG n)).length+1<=1099511627776:=by simp;omega
    refine⟨_,⟨trivial,rfl⟩,λrec K=> ?_⟩
    rw[<-ZD2 (mvG n) l i hi]
    simp only[s328_0]
    rw[ZA,ZAF hx]
    simp only[hw1,ZI7,al_bind_some,al_cond_true]
    rw[ZAB (by simpa using hcap),e1]
    rfl)
   (by
    rintro _ ⟨_,rfl⟩ rec K
    simp only[s328_0]
    rw[ZAA])
  rw[List.take_length]at e
  exact e
 ·unfold gTW F206
  simp only[hw2,al_bind_some,ZAG,al_cond_false]
  obtain⟨t,⟨_,rfl⟩,e⟩:=ZFF (f:=s206_0 ZEf ZD1) (K:=λt5=>some (t5.2.1,())) (t:=(n,([]:List Gust),l,Int.ofNat l.length,0,())) l.length
   (λi t=>True/\t=(n,(l.take i).map (mvG n),l,Int.ofNat l.length,(i:Int),())) (by omega) ⟨trivial,rfl⟩
   (by
    rintro i _ hi ⟨_,rfl⟩
    have hx:l[i]?=some l[i]:=by simp
    have e1:w64 ((i:Int)+1)=((i+1:Nat):Int):=ZAC
    have hcap:((l.take i).map (mvG n)).length+1<=1099511627776:=by simp;omega
    refine⟨_,⟨trivial,rfl⟩,λrec K=> ?_⟩
    rw[<-ZD2 (mvG n) l i hi]
    simp only[s206_0]
    rw[ZA,ZAF hx]
    simp only[ZHb,al_bind_some]
    rw[ZAB (by simpa using hcap),e1]
    rfl)
   (by
    rintro _ ⟨_,rfl⟩ rec K
    simp only[s206_0]
    rw[ZAA])
  rw[List.take_length]at e
  exact e
theorem ZFM{R:Type}{a:Option R} :both a a=a:=by unfold both;rw[al_if_pos rfl]
theorem ZI8(l:List Cue)(hl:l.length<=1048576):F185 (l,())=some (l,()):=by
 unfold F185 ZBm
 cases l with
 | nil=>rw[ZAB];exact ZFM
 | cons x l=>rw[ZAB (by simp at hl⊢;omega)];rfl
theorem ZLl(l:List Cue)(hl:l.length<=1048576):F229 (l,())=some (l,()):=by
 unfold F229
 rw[ZAB];rfl
def mvS(n:Int)(s:ZAM):ZAM:=(s.1.map (mvD n),s.2.1,s.2.2.1.map (mvG n),s.2.2.2.1,())
abbrev gTSS:=F252 ZLh gTRS F229 gTWS
abbrev gTS:=F107 ZLi gTR F185 gTW
theorem ZV3(s:ZAM)(h:ShowOK s)(n:Int): ∃r:ZAM,gTSS (s,n,())=some (r,())/\gTS (s,n,())=some (r,())/\r.1.length<=1048576/\r.2.1.length<=1048576/\r.2.2.1.length<=1048576:=by
 obtain⟨rig,score,wind,ticks,u⟩:=s
 obtain⟨b1,r1,r2,r3⟩:=ZP4 rig h.rig h.devs
 obtain⟨b2,c2,_⟩:=ZLf score h.names h.score
 have c1:ZI3 (score,())=some (b2,()):=by rw[ZPx score h.names];exact c2
 obtain⟨b3,w2⟩:=ZP6 wind h.wind
 have w1:ZFL (wind,())=some (b3,()):=by rw[ZP5];exact w2
 have hs:ZLh ((rig,score,wind,ticks,()),())=some (b1 && (b2 && (b3 && wi ticks 0 64)),()):=by
  unfold ZLh F140
  simp only[r1,c1,w1,ZC0,al_bind_some]
  cases b1<;>cases b2<;>cases b3<;>rfl
 have hi:ZLi ((rig,score,wind,ticks,()),())=some (b1 && (b2 && (b3 && wi ticks 0 64)),()):=by
  unfold ZLi F50
  simp only[r2,c2,w2,ZA9,al_bind_some]
  cases b1<;>cases b2<;>cases b3<;>rfl
 unfold gTSS F252 gTS F107
 simp only[hs,hi,al_bind_some]
 cases hb:b1 && (b2 && (b3 && wi ticks 0 64))
 ·exact⟨([],[],[],0,()),rfl,rfl,by simp,by simp,by simp⟩
 ·simp only[ZAJ]at hb
  obtain⟨rfl,rfl,rfl,ht⟩:=hb
  obtain⟨_,r4⟩:=r3 rfl
  have hd: ∀d∈rig,devB d=true:=λd hd=>by
   have h1:=r4 d hd
   obtain⟨q1,q2⟩:=h.devs d hd
   rw[(ZC1 d q1 q2).2]at h1
   simpa using h1
  obtain⟨t1,t2⟩:=ZV1 rig h.rig h.devs r1 r2 hd n
  obtain⟨v1,v2⟩:=ZV2 wind h.wind w1 w2 n
  refine⟨mvS n (rig,score,wind,ticks,()),?_,?_,by simpa[mvS]using h.rig,h.score,by simpa[mvS]using h.wind⟩
  ·simp only[t1,v1,ZLl score h.score,al_bind_some,ZAG,al_cond_false];rfl
  ·simp only[t2,v2,ZI8 score h.score,al_bind_some,ZAG,al_cond_false];rfl
end Ev
namespace Ev
open Go
theorem ZGK: ∀a:Str,Op.bytesLess a a=false
 | []=>rfl
 | x::a=>by simp[Op.bytesLess,ZGK a,UInt8.lt_irrefl]
theorem ZHc: ∀a b c:Str,Op.bytesLess a b=true->Op.bytesLess b c=true->Op.bytesLess a c=true
 | [],[],_,h,_=>by simp[Op.bytesLess]at h
 | [],_::_,[],_,h=>by simp[Op.bytesLess]at h
 | [],_::_,_::_,_,_=>rfl
 | _::_,[],_,h,_=>by simp[Op.bytesLess]at h
 | _::_,_::_,[],_,h=>by simp[Op.bytesLess]at h
 | x::a,y::b,z::c,h1,h2=>by
  simp only[Op.bytesLess,Bool.or_eq_true,ZAJ,ZAX,beq_iff_eq]at h1 h2⊢
  rcases h1 with h1 | ⟨rfl,h1⟩
  ·rcases h2 with h2 | ⟨rfl,h2⟩
   ·exact .inl (UInt8.lt_trans h1 h2)
   ·exact .inl h1
  ·rcases h2 with h2 | ⟨rfl,h2⟩
   ·exact .inl h2
   ·exact .inr ⟨rfl,ZHc a b c h1 h2⟩
theorem ZI9{a b:Str}(h:Op.bytesLess a b=true):a≠b:=λe=>by subst e;rw[ZGK]at h;cases h
def ZCo(s:Str):Nat->List Device->Int
 | _,[]=> -1
 | i,d::ds=>if d.Name=s then(i:Int)else ZCo s (i+1) ds
def fnd(l:List Device)(s:Str):Int:=ZCo s 0 l
theorem ZQD(s:Str): ∀(l:List Device) (i:Nat),(ZCo s i l= -1/\ ∀d∈l,d.Name≠s)\/ ∃(k:Nat) (d:Device),ZCo s i l=((i+k:Nat):Int)/\l[k]?=some d/\d.Name=s
 | [],i=> .inl ⟨rfl,by simp⟩
 | x::l,i=>by
  unfold ZCo
  by_cases h:x.Name=s
  ·rw[al_if_pos h];exact .inr ⟨0,x,by simp,rfl,h⟩
  ·rw[al_if_neg h]
   rcases ZQD s l (i+1)with ⟨e,k⟩ | ⟨k,d,e,k1,k2⟩
   ·refine .inl ⟨e,λd hd=> ?_⟩
    rcases List.mem_cons.mp hd with rfl | hd
    ·exact h
    ·exact k d hd
   ·exact .inr ⟨k+1,d,by rw[e];congr 1;omega,by simpa using k1,k2⟩
theorem ZDk(l:List Device)(s:Str):(fnd l s= -1/\ ∀d∈l,d.Name≠s)\/ ∃(k:Nat) (d:Device),fnd l s=(k:Int)/\l[k]?=some d/\d.Name=s:=by
 rcases ZQD s l 0 with h | ⟨k,d,e,h⟩
 ·exact .inl h
 ·exact .inr ⟨k,d,by simpa[fnd]using e,h⟩
theorem ZJ(l:List Device)(hl:l.length<=1048576)(s:Str):G265 (l,s,())=some (fnd l s,()):=by
 have key: ∀(d i n:Nat),i+d=l.length->d<n->ZAD s265_0 n (s,l,Int.ofNat l.length,(i:Int),()) (λt3=>some ((-1),()))=some (ZCo s i (l.drop i),()):=by
  intro d
  induction d with
  | zero=>
   intro i n hd hn
   obtain⟨n,rfl⟩: ∃k,n=k+1:=⟨n-1,by omega⟩
   rw[ZAS];simp only[s265_0];rw[ZAA,List.drop_of_length_le (by omega)];rfl
  | succ d ih=>
   intro i n hd hn
   obtain⟨n,rfl⟩: ∃k,n=k+1:=⟨n-1,by omega⟩
   have hi:i<l.length:=by omega
   have hx:l[i]?=some l[i]:=by simp
   have e1:w64 ((i:Int)+1)=((i+1:Nat):Int):=ZAC
   rw[ZI1 l i hi]
   unfold ZCo
   rw[ZAS];simp only[s265_0]
   rw[ZA,ZAF hx]
   by_cases hc:l[i].Name=s
   ·rw[ZA hc,al_if_pos hc]
   ·rw[ZAA hc,al_if_neg hc,e1];exact ih (i+1) n (by omega) (by omega)
 have:=key l.length 0 fuel (by omega) (by rw[ZBx];omega)
 rw[List.drop_zero]at this
 exact this
theorem ZLm(l:List Device)(hl:l.length<=1048576)(s:Str):G193 (l,s,())=some (fnd l s,()):=by
 obtain⟨v,h1,h2,_⟩:=ZP2 l hl s
 have h3:=ZJ l hl s
 have:v=fnd l s:=by
  have:some (v,())=some (fnd l s,()):=h1.symm.trans h3
  injection this with this
  injection this
 subst this
 exact h2
def ZFN(l:List Device)(i:Nat):Int:=((l[i]?).map λd=>d.Kind).getD 0
def ZC2(l:List Device)(i:Nat):Str:=((l[i]?).map λd=>d.Name).getD []
def ZBH(l:List Device)(d:Device):Bool:=decide (d.Kind=1) || (decide (0<=fnd l d.Line) && decide (ZFN l (fnd l d.Line).toNat=d.Kind-1))
theorem ZLn(l:List Device)(hl:l.length<=1048576)(d:Device)(hk:d.Kind=1\/d.Kind=2\/d.Kind=3):G194 (l,d,())=some (ZBH l d,()):=by
 unfold G194 F194 ZBH
 dsimp only
 by_cases k1:d.Kind=1
 ·rw[ZA k1,ZAH k1];rfl
 ·rw[ZAA k1,ZAE k1,Bool.false_or,ZLm l hl]
  simp only[al_bind_some,ge_iff_le]
  rcases ZDk l d.Line with ⟨e,_⟩ | ⟨k,x,e,h1,_⟩
  ·rw[e];rfl
  ·rw[e,ZA,ZAF h1,ZAH (show(0:Int)<=(k:Int)by omega),Bool.true_and]
   unfold ZFN
   rw[ZAW,h1,ZAC];rfl
theorem ZQE(l:List Device)(hl:l.length<=1048576)(d:Device)(hk:d.Kind=1\/d.Kind=2\/d.Kind=3):G266 (l,d,())=some (ZBH l d,()):=by
 obtain⟨b,h1,h2⟩:=ZP3 l hl d hk
 have h3:=ZLn l hl d hk
 have e:some (b,())=some (ZBH l d,()):=h2.symm.trans h3
 exact h1.trans e
def ZGL(l:List Device)(i:Nat):Bool:=match l[i]? with
 | some d=>devB d && ((decide (i=0) || Op.bytesLess (ZC2 l (i-1)) d.Name) && ZBH l d)
 | none=>true
def rigB(l:List Device):Bool:=decide (l.length<=8) && (List.range l.length).all (ZGL l)
theorem ZHd{d:Device}(h:devB d=true):d.Kind=1\/d.Kind=2\/d.Kind=3:=by
 unfold devB at h
 by_cases k1:d.Kind=1
 ·exact .inl k1
 ·by_cases k2:d.Kind=2
  ·exact .inr (.inl k2)
  ·by_cases k3:d.Kind=3
   ·exact .inr (.inr k3)
   ·rw[al_if_neg k1,al_if_neg k2,al_if_neg k3]at h;simp at h
theorem ZDl(l:List Device)(hl:l.length<=1048576)(hn:ZCc l):G118 (l,())=some (rigB l,()):=by
 unfold G118 F118 rigB
 dsimp only
 by_cases h8:Int.ofNat l.length>8
 ·rw[ZA h8,ZAE (by simp at h8;omega)];rfl
 ·rw[ZAA h8,ZAH (by simp at h8;omega),Bool.true_and]
  have:=ZDi (f:=s118_0 G192 G194) (K:=λt7=>some (true,())) (λi=>(l,l,Int.ofNat l.length,(i:Int),())) (ZGL l) (some (false,())) l.length (by omega)
   (by
    intro i hi rec K
    have hx:l[i]?=some l[i]:=by simp
    have e1:w64 ((i:Int)+1)=((i+1:Nat):Int):=ZAC
    obtain⟨q1,q2⟩:=hn l[i] (by simp)
    have hd:G192 (l[i],())=some (devB l[i],()):=(ZC1 l[i] q1 q2).2
    unfold ZGL
    rw[hx]
    simp only[s118_0]
    rw[ZA,ZAF hx,hd]
    simp only[al_bind_some,Bool.not_not]
    cases hb:devB l[i]
    ·rfl
    ·simp only[al_cond_true,Bool.true_and]
     rw[ZLn l hl _ (ZHd hb),e1]
     simp only[al_bind_some]
     by_cases hz:i=0
     ·subst hz
      rw[ZAA]
      simp only[decide_true,Bool.true_or,Bool.true_and]
      cases ZBH l l[0]<;>rfl
     ·obtain⟨j,rfl⟩: ∃j,i=j+1:=⟨i-1,by omega⟩
      have hy:l[j]?=some l[j]:=by simp
      have e2:w64 (((j+1:Nat):Int) -1)=(j:Int):=by rw[ZAC];omega
      have ho:(Op.bytesLess l[j+1].Name l[j].Name || decide (l[j+1].Name=l[j].Name))= !Op.bytesLess l[j].Name l[j+1].Name:=(ZGJ _ _).symm
      rw[ZA,e2,ZAF hy,ho,ZAE hz]
      unfold ZC2
      rw[Nat.add_sub_cancel,hy]
      simp only[Bool.not_not,Bool.false_or,Option.map_some,Option.getD_some]
      cases Op.bytesLess l[j].Name l[j+1].Name
      ·rfl
      ·simp only[al_cond_true,Bool.true_and]
       cases ZBH l l[j+1]<;>rfl)
   (by
    intro rec K
    simp only[s118_0]
    rw[ZAA])
  refine this.trans ?_
  cases (List.range l.length).all (ZGL l)<;>rfl
theorem ZEh(l:List Device)(hl:l.length<=1048576)(hn:ZCc l):G230 (l,())=some (rigB l,()):=by
 obtain⟨b,h1,h2,_⟩:=ZP4 l hl hn
 have h3:=ZDl l hl hn
 have e:some (b,())=some (rigB l,()):=h2.symm.trans h3
 exact h1.trans e
structure RigP(l:List Device):Prop where
 len:l.length<=8
 dev: ∀d∈l,devB d=true
 lt: ∀i d e,l[i]?=some d->l[i+1]?=some e->Op.bytesLess d.Name e.Name=true
 hung: ∀d∈l,ZBH l d=true
theorem ZDS(l:List Device):rigB l=true↔RigP l:=by
 unfold rigB
 rw[ZAJ,ZAX,List.all_eq_true]
 constructor
 ·rintro ⟨h8,h⟩
  have at': ∀(i:Nat) (d:Device),l[i]?=some d->devB d=true/\(i=0\/Op.bytesLess (ZC2 l (i-1)) d.Name=true)/\ZBH l d=true:=λi d hd=>by
   have hi:i<l.length:=(al_get_iff.mp hd).1
   have:=h i (by simpa using hi)
   unfold ZGL at this
   rw[hd]at this
   simpa using this
  refine⟨h8,λd hd=> ?_,λi d e hd he=> ?_,λd hd=> ?_⟩
  ·obtain⟨i,hi⟩:=List.mem_iff_getElem?.mp hd
   exact(at' i d hi).1
  ·rcases (at' (i+1) e he).2.1 with h | h
   ·omega
   ·rw[Nat.add_sub_cancel]at h
    unfold ZC2 at h
    rw[hd]at h
    exact h
  ·obtain⟨i,hi⟩:=List.mem_iff_getElem?.mp hd
   exact(at' i d hi).2.2
 ·rintro ⟨h8,h1,h2,h3⟩
  refine⟨h8,λi hi=> ?_⟩
  have hi:i<l.length:=by simpa using hi
  have hx:l[i]?=some l[i]:=by simp
  unfold ZGL
  rw[hx]
  simp only[ZAJ,Bool.or_eq_true,ZAX]
  refine⟨h1 _ (by simp),?_,h3 _ (by simp)⟩
  by_cases hz:i=0
  ·exact .inl hz
  ·right
   obtain⟨j,rfl⟩: ∃j,i=j+1:=⟨i-1,by omega⟩
   have hy:l[j]?=some l[j]:=by simp
   unfold ZC2
   rw[Nat.add_sub_cancel,hy]
   exact h2 j _ _ hy hx
theorem ZLo{l:List Device}(h:RigP l): ∀(k i:Nat) (d e:Device),l[i]?=some d->l[i+k+1]?=some e->Op.bytesLess d.Name e.Name=true:=by
 intro k
 induction k with
 | zero=>intro i d e hd he;exact h.lt i d e hd he
 | succ k ih=>
  intro i d e hd he
  have hi:i+k+1+1<l.length:=(al_get_iff.mp he).1
  have hx:l[i+k+1]?=some l[i+k+1]:=by simp
  exact ZHc _ _ _ (ih i d _ hd hx) (h.lt (i+k+1) _ e hx he)
theorem ZQF{l:List Device}(h:RigP l){i j:Nat}{d e:Device}(hd:l[i]?=some d)(he:l[j]?=some e)(hn:d.Name=e.Name):i=j:=by
 rcases Nat.lt_trichotomy i j with hl | hl | hl
 ·obtain⟨k,rfl⟩: ∃k,j=i+k+1:=⟨j-i-1,by omega⟩
  exact absurd hn (ZI9 (ZLo h k i d e hd he))
 ·exact hl
 ·obtain⟨k,rfl⟩: ∃k,i=j+k+1:=⟨i-j-1,by omega⟩
  exact absurd hn.symm (ZI9 (ZLo h k j e d he hd))
theorem ZV4{l:List Device}(h:RigP l){d:Device}(hd:d∈l)(hk:d.Kind≠1): ∃(k:Nat) (x:Device),fnd l d.Line=(k:Int)/\l[k]?=some x/\x.Name=d.Line/\x.Kind=d.Kind-1:=by
 have:=h.hung d hd
 unfold ZBH at this
 rw[ZAE hk,Bool.false_or,ZAJ,ZAX,ZAX]at this
 rcases ZDk l d.Line with ⟨e,_⟩ | ⟨k,x,e,h1,h2⟩
 ·omega
 ·refine⟨k,x,e,h1,h2,?_⟩
  have h3:=this.2
  unfold ZFN at h3
  rw[e,ZAW,h1]at h3
  exact h3
end Ev
namespace Ev
open Go
def sumL:List Int->Int
 | []=>0
 | x::l=>x+sumL l
theorem ZQG: ∀a b:List Int,sumL (a++b)=sumL a+sumL b
 | [],b=>by simp[sumL]
 | x::a,b=>by simp[sumL,ZQG a b];omega
theorem ZDm{α:Type}(r:List α)(i:Nat)(h:i<r.length):r.take (i+1)=r.take i++[r[i]]:=by
 rw[List.take_add_one];simp[h]
theorem ZV5(l:List Int)(i:Nat)(h:i<l.length):sumL (l.take (i+1))=sumL (l.take i)+l[i]:=by
 rw[ZDm l i h,ZQG];simp[sumL]
theorem ZLp(m:Int)(hm:0<=m): ∀l:List Int,(∀x∈l,0<=x/\x<=m)->0<=sumL l/\sumL l<=m*l.length
 | [],_=>by simp[sumL]
 | x::l,h=>by
  have h1:=h x (by simp)
  have h2:=ZLp m hm l λy hy=>h y (by simp[hy])
  simp only[sumL,al_len_cons,Int.natCast_add,Int.mul_add]
  omega
theorem ZQH: ∀(l:List Int) (i:Nat) (x y:Int),l[i]?=some x->sumL (l.set i y)=sumL l-x+y
 | [],i,x,y,h=>by simp at h
 | a::l,0,x,y,h=>by simp at h;subst h;simp[sumL];omega
 | a::l,i+1,x,y,h=>by
  simp at h
  simp only[List.set_cons_succ,sumL,ZQH l i x y (by simpa using h)]
  omega
theorem ZLq(m:Int)(hm:0<=m)(hm2:m<=4294967296)(l:List Int)(hl:l.length<=1048576)(h: ∀x∈l,0<=x/\x<=m):G376 (l,())=some (sumL l,()):=by
 unfold G376 F376
 refine(ZAU (f:=s376_0) (K:=λt3=>some (t3.1,())) (λi=>(sumL (l.take i),l,Int.ofNat l.length,(i:Int),())) l.length (by omega) ?_ ?_).trans (by simp)
 ·intro i hi rec K
  have hx:l[i]?=some l[i]:=by simp
  have e1:w64 ((i:Int)+1)=((i+1:Nat):Int):=ZAC
  have hb:=ZLp m hm (l.take i) λx hx=>h x (List.mem_of_mem_take hx)
  have hb2:m*((l.take i).length:Int)<=4294967296*1048576:=by
   have:((l.take i).length:Int)<=1048576:=by simp;omega
   exact Int.mul_le_mul hm2 this (by omega) (by omega)
  have hx1:=h l[i] (by simp)
  simp only[s376_0]
  rw[ZA,ZAF hx,e1,ZV5 l i hi,ZAC]
 ·intro rec K
  simp only[s376_0]
  rw[ZAA]
theorem ZLr(m:Int)(hm:0<=m)(hm2:m<=4294967296)(l:List Int)(hl:l.length<=1048576)(h: ∀x∈l,0<=x/\x<=m):G299 (l,())=some (sumL l,()):=by
 have e:G299 (l,())=G376 (l,()):=rfl
 rw[e];exact ZLq m hm hm2 l hl h
def demB(l:List Int):Bool:=(List.range l.length).all (λi=>wi ((l[i]?).getD 0) 0 64) && decide (l.length<=8)
theorem ZGM(l:List Int):demB l=true↔l.length<=8/\ ∀x∈l,0<=x/\x<=64:=by
 unfold demB
 rw[ZAJ,ZAX,List.all_eq_true]
 constructor
 ·rintro ⟨h,h8⟩
  refine⟨h8,λx hx=> ?_⟩
  obtain⟨i,hi⟩:=List.mem_iff_getElem?.mp hx
  have:=h i (by simpa using (al_get_iff.mp hi).1)
  rw[hi]at this
  exact ZAj.1 this
 ·rintro ⟨h8,h⟩
  refine⟨λi hi=> ?_,h8⟩
  have hi:i<l.length:=by simpa using hi
  have hx:l[i]?=some l[i]:=by simp
  rw[hx]
  exact ZAj.2 (h _ (by simp))
theorem ZQI(l:List Int)(hl:l.length<=1048576):G373 (l,())=some (demB l,()):=by
 unfold G373 F373 demB
 refine(ZDi (f:=s373_0 G233) (λi=>(l,l,Int.ofNat l.length,(i:Int),())) (λi=>wi ((l[i]?).getD 0) 0 64) (some (false,())) l.length (by omega) ?_ ?_).trans ?_
 ·intro i hi rec K
  have hx:l[i]?=some l[i]:=by simp
  have e1:w64 ((i:Int)+1)=((i+1:Nat):Int):=ZAC
  have hw:G233 (l[i],0,64,())=some (wi l[i] 0 64,()):=ZC0 _ _ _
  simp only[s373_0]
  rw[ZA,ZAF hx,hw,e1,hx]
  simp only[al_bind_some,Option.getD_some]
  cases wi l[i] 0 64<;>rfl
 ·intro rec K
  simp only[s373_0]
  rw[ZAA]
 ·have:decide ((Int.ofNat l.length)<=8)=decide (l.length<=8):=by
   by_cases h:l.length<=8
   ·rw[ZAH h,ZAH (by simp;omega)]
   ·rw[ZAE h,ZAE (by simp;omega)]
  cases (List.range l.length).all (λi=>wi ((l[i]?).getD 0) 0 64)
  ·rfl
  ·simp only[al_cond_true,Bool.true_and,this]
theorem ZLs(l:List Int)(hl:l.length<=1048576):G296 (l,())=some (demB l,()):=by
 unfold G296 F296 demB
 refine(ZDi (f:=s296_0 G121) (λi=>(l,l,Int.ofNat l.length,(i:Int),())) (λi=>wi ((l[i]?).getD 0) 0 64) (some (false,())) l.length (by omega) ?_ ?_).trans ?_
 ·intro i hi rec K
  have hx:l[i]?=some l[i]:=by simp
  have e1:w64 ((i:Int)+1)=((i+1:Nat):Int):=ZAC
  have hw:G121 (l[i],0,64,())=some (wi l[i] 0 64,()):=ZA9 _ _ _
  simp only[s296_0]
  rw[ZA,ZAF hx,hw,e1,hx]
  simp only[al_bind_some,Option.getD_some]
  cases wi l[i] 0 64<;>rfl
 ·intro rec K
  simp only[s296_0]
  rw[ZAA]
 ·have:decide ((Int.ofNat l.length)<=8)=decide (l.length<=8):=by
   by_cases h:l.length<=8
   ·rw[ZAH h,ZAH (by simp;omega)]
   ·rw[ZAE h,ZAE (by simp;omega)]
  cases (List.range l.length).all (λi=>wi ((l[i]?).getD 0) 0 64)
  ·rfl
  ·simp only[al_cond_true,Bool.true_and,this]
def cutL(l:List Int)(v:Int):List Int:=l.map λx=>mn x v
theorem ZV6(l:List Int)(v:Int)(i:Nat):(cutL l v)[i]?=(l[i]?).map λx=>mn x v:=by simp[cutL]
theorem ZQJ(l:List Int)(v:Int)(i:Nat)(h:i<l.length):cutL (l.take i) v++[mn l[i] v]=cutL (l.take (i+1)) v:=by
 rw[ZDm l i h];unfold cutL;rw[List.map_append];rfl
theorem ZLt(a b:Int):mn a b<=a/\mn a b<=b/\(mn a b=a\/mn a b=b):=by
 rw[ZDy];split<;>omega
theorem ZHe{l:List Int}(h: ∀x∈l,0<=x/\x<=64){v:Int}(hv:0<=v): ∀x∈cutL l v,0<=x/\x<=64:=by
 intro x hx
 obtain⟨y,hy,rfl⟩:=List.mem_map.mp hx
 have:=h y hy
 have:=ZLt y v
 omega
theorem ZQK(l:List Int)(hl:l.length<=1048576)(v:Int):G375 (l,v,())=some (cutL l v,()):=by
 unfold G375 F375
 refine(ZAU (f:=s375_0 G358) (K:=λt4=>some (t4.2.1,())) (λi=>(v,cutL (l.take i) v,l,Int.ofNat l.length,(i:Int),())) l.length (by omega) ?_ ?_).trans (by simp)
 ·intro i hi rec K
  have hx:l[i]?=some l[i]:=by simp
  have e1:w64 ((i:Int)+1)=((i+1:Nat):Int):=ZAC
  have hm:G358 (l[i],v,())=some (mn l[i] v,()):=ZIz _ _
  simp only[s375_0]
  rw[ZA,ZAF hx,hm,e1]
  simp only[al_bind_some]
  rw[ZAB (by simp[cutL];omega),ZQJ l v i hi]
 ·intro rec K
  simp only[s375_0]
  rw[ZAA]
theorem ZLu(l:List Int)(hd:demB l=true)(v:Int)(hv:0<=v):G298 (l,v,())=some (cutL l v,()):=by
 have hl:=((ZGM l).1 hd).1
 unfold G298 F298
 dsimp only
 rw[ZLs l (by omega),hd]
 simp only[al_bind_some,ZAG,ZAK,al_cond_true]
 rw[ZAA]
 refine(ZAU (f:=s298_0 G296) (K:=λt4=>some (t4.2.1,())) (λi=>(v,cutL (l.take i) v,l,Int.ofNat l.length,(i:Int),())) l.length (by omega) ?_ ?_).trans (by simp)
 ·intro i hi rec K
  have hx:l[i]?=some l[i]:=by simp
  have e1:w64 ((i:Int)+1)=((i+1:Nat):Int):=ZAC
  simp only[s298_0]
  rw[ZA,ZAF hx,e1]
  rw[ZAB (by simp[cutL];omega),ZQJ l v i hi]
 ·intro rec K
  simp only[s298_0]
  rw[ZAA]
def ZB(s:Int)(l:List Int)(n:Nat):Bool:=decide (sumL (cutL l (n:Int))<=s)
def best(P:Nat->Bool):Nat->Nat
 | 0=>0
 | n+1=>if P (n+1)=true then n+1 else best P n
theorem ZQL(P:Nat->Bool): ∀n,best P n<=n
 | 0=>by simp[best]
 | n+1=>by
  have:=ZQL P n
  unfold best;split<;>omega
theorem ZQM(P:Nat->Bool)(h0:P 0=true): ∀n,P (best P n)=true
 | 0=>h0
 | n+1=>by
  unfold best
  by_cases h:P (n+1)=true
  ·rw[al_if_pos h];exact h
  ·rw[al_if_neg h];exact ZQM P h0 n
theorem ZQN(P:Nat->Bool): ∀n,best P n=n\/P (best P n+1)=false
 | 0=> .inl rfl
 | n+1=>by
  unfold best
  by_cases h:P (n+1)=true
  ·rw[al_if_pos h];exact .inl rfl
  ·rw[al_if_neg h]
   rcases ZQN P n with e | e
   ·rw[e];exact .inr (by simpa using h)
   ·exact .inr e
theorem ZQO{s:Int}{l:List Int}(hs:0<=s)(h: ∀x∈l,0<=x/\x<=64):ZB s l 0=true:=by
 unfold ZB
 have: ∀l:List Int,(∀x∈l,0<=x/\x<=64)->sumL (cutL l ((0:Nat):Int))=0:=by
  intro l
  induction l with
  | nil=>intro _;rfl
  | cons x l ih=>
   intro h
   have h1:=h x (by simp)
   have h2:=ih λy hy=>h y (by simp[hy])
   simp only[cutL,List.map_cons,sumL]at h2⊢
   rw[h2,ZDy];split<;>omega
 rw[this l h];simpa using hs
theorem ZQP(x:Int):G269 (x,())=some (wi x 0 512,()):=by
 unfold G269 F269
 rw[show G233 (x,0,512,())=some (wi x 0 512,())from ZC0 _ _ _];rfl
theorem ZQQ(x:Int):G281 (x,())=some (wi x 0 512,()):=by
 unfold G281 F281
 rw[show G121 (x,0,512,())=some (wi x 0 512,())from ZA9 _ _ _];rfl
theorem ZV7(s:Int)(l:List Int)(hs:wi s 0 512=true)(hd:demB l=true):G374 (s,l,())=some (((best (ZB s l) 64:Nat):Int),()):=by
 obtain⟨h8,h⟩:=(ZGM l).1 hd
 unfold G374 F374
 refine(ZAU (f:=s374_0 G373 G269 G375 G376) (K:=λt6=>some (t6.2.2.1,())) (λi=>(s,l,((best (ZB s l) i:Nat):Int),((i+1:Nat):Int),())) 64 (by omega) ?_ ?_).trans rfl
 ·intro i hi rec K
  have e1:w64 (((i+1:Nat):Int)+1)=((i+1+1:Nat):Int):=ZAC
  simp only[s374_0]
  rw[ZA,ZQI l (by omega),hd,ZQP,hs,ZQK l (by omega),e1]
  simp only[al_bind_some,al_cond_true]
  rw[ZLq 64 (by omega) (by omega) _ (by simp[cutL];omega) (ZHe h (by omega))]
  simp only[al_bind_some]
  by_cases hf:sumL (cutL l ((i+1:Nat):Int))<=s
  ·rw[ZA hf]
   have:best (ZB s l) (i+1)=i+1:=by
    unfold best;rw[al_if_pos (by unfold ZB;exact ZAH hf)]
   rw[this]
  ·rw[ZAA hf]
   have:best (ZB s l) (i+1)=best (ZB s l) i:=by
    conv=>lhs;unfold best
    rw[al_if_neg (by unfold ZB;rw[ZAE hf];simp)]
   rw[this]
 ·intro rec K
  simp only[s374_0]
  rw[ZAA]
theorem ZV8(s:Int)(l:List Int)(hs:wi s 0 512=true)(hd:demB l=true):G297 (s,l,())=some (((best (ZB s l) 64:Nat):Int),()):=by
 obtain⟨h8,h⟩:=(ZGM l).1 hd
 have hs':=ZAj.1 hs
 have key: ∀(n m:Nat),n<=64->n<m->ZAD (s297_0 G296 G281 G298 G299) m (s,l,(n:Int),()) (λt6=>some (t6.2.2.1,()))=some (((best (ZB s l) n:Nat):Int),()):=by
  intro n
  induction n with
  | zero=>
   intro m _ hm
   obtain⟨m,rfl⟩: ∃k,m=k+1:=⟨m-1,by omega⟩
   have hf:=ZQO hs'.1 h
   unfold ZB at hf
   rw[ZAS]
   simp only[s297_0]
   rw[ZLu l hd _ (by omega)]
   simp only[al_bind_some]
   rw[ZLr 64 (by omega) (by omega) _ (by simp[cutL];omega) (ZHe h (by omega))]
   simp only[al_bind_some]
   rw[ZAA (by have:=of_decide_eq_true hf;omega)]
   rfl
  | succ n ih=>
   intro m hn hm
   obtain⟨m,rfl⟩: ∃k,m=k+1:=⟨m-1,by omega⟩
   have e1:w64 (((n+1:Nat):Int) -1)=(n:Int):=by rw[ZAC];omega
   rw[ZAS]
   simp only[s297_0]
   rw[ZLu l hd _ (by omega)]
   simp only[al_bind_some]
   rw[ZLr 64 (by omega) (by omega) _ (by simp[cutL];omega) (ZHe h (by omega))]
   simp only[al_bind_some]
   by_cases hf:sumL (cutL l ((n+1:Nat):Int))<=s
   ·rw[ZAA]
    have:best (ZB s l) (n+1)=n+1:=by
     unfold best;rw[al_if_pos (by unfold ZB;exact ZAH hf)]
    rw[this]
   ·rw[ZA,e1]
    have:best (ZB s l) (n+1)=best (ZB s l) n:=by
     conv=>lhs;unfold best
     rw[al_if_neg (by unfold ZB;rw[ZAE hf];simp)]
    rw[this]
    exact ih m (by omega) (by omega)
 unfold G297 F297
 dsimp only
 rw[ZLs l (by omega),hd,ZQQ,hs]
 simp only[al_bind_some,ZA4]
 exact key 64 fuel (by omega) (by rw[ZBx];omega)
structure SharesP(s:Int)(l R:List Int):Prop where
 len:R.length=l.length
 ex: ∃(v:Nat) (left:Int),v<=64/\ZB s l v=true/\(v=64\/ZB s l (v+1)=false)/\0<=left/\sumL R+left=s/\
  (∀(j:Nat) x y,R[j]?=some x->l[j]?=some y->(y<=v/\x=y)\/(v<y/\(x=v\/x=v+1)/\(left=0\/x=v+1)))
theorem ZV9(s:Int)(l:List Int)(hs:wi s 0 512=true)(hd:demB l=true)(K:Int×List Int×Int×List Int×Int×Int×Unit->Option (List Int×Unit)):
  ∃R left,SharesP s l R/\ZAD (s210_0 G296 G281 G297 G298 G299) fuel ((best (ZB s l) 64:Nat),cutL l (best (ZB s l) 64:Nat),w64 (s-sumL (cutL l (best (ZB s l) 64:Nat))),l,Int.ofNat l.length,0,()) K=K ((best (ZB s l) 64:Nat),R,left,l,Int.ofNat l.length,Int.ofNat l.length,()):=by
 obtain⟨h8,h⟩:=(ZGM l).1 hd
 have hs':=ZAj.1 hs
 have hv:=ZQL (ZB s l) 64
 have hP:=ZQM (ZB s l) (ZQO hs'.1 h) 64
 have hN:=ZQN (ZB s l) 64
 generalize best (ZB s l) 64=v at hv hP hN⊢
 have hc:=ZLp 64 (by omega) (cutL l v) (ZHe h (by omega))
 have hcl:(cutL l (v:Int)).length=l.length:=by simp[cutL]
 have hf:=of_decide_eq_true hP
 rw[ZAC]
 obtain⟨t,⟨R,left,rfl,i1,i2,i3,i4,i5⟩,e⟩:=ZFF (f:=s210_0 G296 G281 G297 G298 G299) (K:=K) (t:=((v:Int),cutL l v,s-sumL (cutL l v),l,Int.ofNat l.length,0,())) l.length
  (λi t=> ∃(R:List Int) (left:Int),t=((v:Int),R,left,l,Int.ofNat l.length,(i:Int),())/\R.length=l.length/\(0<=left/\left<=512)/\sumL R+left=s/\
   (∀(j:Nat) x y,j<i->R[j]?=some x->l[j]?=some y->(y<=v/\x=y)\/(v<y/\(x=v\/x=v+1)/\(left=0\/x=v+1)))/\(∀(j:Nat) x y,i<=j->R[j]?=some x->l[j]?=some y->x=mn y v))
  (by omega) ⟨cutL l v,_,rfl,hcl,⟨by omega,by omega⟩,by omega,λj x y hj=>by omega,λj x y _ hx hy=>by rw[ZV6,hy]at hx;simpa using hx.symm⟩
  (by
   rintro i _ hi ⟨R,left,rfl,i1,i2,i3,i4,i5⟩
   have hx:l[i]?=some l[i]:=by simp
   have hr:R[i]?=some R[i]:=by simp
   have e1:w64 ((i:Int)+1)=((i+1:Nat):Int):=ZAC
   have hcur:=i5 i _ _ (Nat.le_refl _) hr hx
   have hmn:=ZLt l[i] v
   have hb:=h l[i] (by simp)
   by_cases hg:l[i]>(v:Int)
   ·have hcv:R[i]=v:=by rw[hcur,ZDy,al_if_pos]
    by_cases hz:left>0
    ·refine⟨_,⟨R.set i (v+1),left-1,rfl,by simp[i1],⟨by omega,by omega⟩,?_,?_,?_⟩,λrec K=> ?_⟩
     ·rw[ZQH R i R[i] _ hr];omega
     ·intro j x y hj hx' hy'
      rw[List.getElem?_set]at hx'
      by_cases hji:i=j
      ·subst hji
       rw[al_if_pos rfl,al_if_pos]at hx'
       rw[hx]at hy'
       cases hx';cases hy'
       exact .inr ⟨hg,.inr rfl,.inr rfl⟩
      ·rw[al_if_neg hji]at hx'
       rcases i4 j x y (by omega) hx' hy' with q | ⟨q1,q2,q3⟩
       ·exact .inl q
       ·exact .inr ⟨q1,q2,by omega⟩
     ·intro j x y hj hx' hy'
      rw[List.getElem?_set,al_if_neg]at hx'
      exact i5 j x y (by omega) hx' hy'
     ·simp only[s210_0]
      rw[ZA,ZAF hx,ZA hg,ZA hz]
      have hr':=λ(K:Int->Option (List Int×Unit))=>ZAF (K:=K) hr
      simp only[hr',ZAW,hr,al_bind_some]
      rw[e1,ZAC (n:=left-1) (by omega) (by omega),hcv,ZAC]
    ·refine⟨_,⟨R,left,rfl,i1,i2,i3,?_,λj x y hj=>i5 j x y (by omega)⟩,λrec K=> ?_⟩
     ·intro j x y hj hx' hy'
      by_cases hji:j=i
      ·subst hji
       rw[hr]at hx';rw[hx]at hy'
       cases hx';cases hy'
       exact .inr ⟨hg,.inl hcv,.inl (by omega)⟩
      ·exact i4 j x y (by omega) hx' hy'
     ·simp only[s210_0]
      rw[ZA,ZAF hx,ZA hg,ZAA hz,e1]
   ·refine⟨_,⟨R,left,rfl,i1,i2,i3,?_,λj x y hj=>i5 j x y (by omega)⟩,λrec K=> ?_⟩
    ·intro j x y hj hx' hy'
     by_cases hji:j=i
     ·subst hji
      rw[hr]at hx';rw[hx]at hy'
      cases hx';cases hy'
      exact .inl ⟨by omega,by rw[hcur,ZDy,al_if_neg]⟩
     ·exact i4 j x y (by omega) hx' hy'
    ·simp only[s210_0]
     rw[ZA,ZAF hx,ZAA hg,e1])
  (by
   rintro _ ⟨R,left,rfl,_⟩ rec K
   simp only[s210_0]
   rw[ZAA])
 exact⟨R,left,⟨i1,v,left,hv,hP,hN,i2.1,i3,λj x y hx hy=>i4 j x y (by rw[<-i1];exact(al_get_iff.mp hx).1) hx hy⟩,e⟩
theorem ZW(s:Int)(l:List Int)(hl:l.length<=1048576): ∃R,G361 (s,l,())=some (R,())/\G210 (s,l,())=some (R,())/\((R=[]/\(demB l && wi s 0 512)=false)\/((demB l && wi s 0 512)=true/\SharesP s l R)):=by
 unfold G361 F361 G210 F210
 dsimp only
 rw[ZQI l hl,ZLs l hl]
 simp only[al_bind_some]
 cases hd:demB l
 ·exact⟨[],rfl,rfl,.inl ⟨rfl,rfl⟩⟩
 ·simp only[ZAG,ZAK,al_cond_true,ZQP,ZQQ,al_bind_some]
  cases hs:wi s 0 512
  ·exact⟨[],rfl,rfl,.inl ⟨rfl,rfl⟩⟩
  ·obtain⟨h8,h⟩:=(ZGM l).1 hd
   have hb:=ZHe h (v:=(best (ZB s l) 64:Nat)) (by omega)
   have hcl:(cutL l ((best (ZB s l) 64:Nat):Int)).length<=1048576:=by simp[cutL];omega
   simp only[ZAG,ZAK,al_cond_false,ZV7 s l hs hd,ZV8 s l hs hd,al_bind_some,ZQK l hl,ZLu l hd _ (show(0:Int)<=((best (ZB s l) 64:Nat):Int)by omega),ZLq 64 (by omega) (by omega) _ hcl hb,ZLr 64 (by omega) (by omega) _ hcl hb]
   obtain⟨R,left,hR,e⟩:=ZV9 s l hs hd (λt10=>some (t10.2.1,()))
   have e':s361_0 G373 G269 G374 G375 G376=s210_0 G296 G281 G297 G298 G299:=rfl
   rw[e']
   exact⟨R,e,e,.inr ⟨rfl,hR⟩⟩
theorem ZWA{s:Int}{l R:List Int}(h:SharesP s l R)(hd:demB l=true){j:Nat}{x y:Int}(hx:R[j]?=some x)(hy:l[j]?=some y):0<=x/\x<=y:=by
 obtain⟨v,left,h1,h2,h3,h4,h5,h6⟩:=h.ex
 have:=((ZGM l).1 hd).2 y (List.mem_iff_getElem?.mpr ⟨j,hy⟩)
 rcases h6 j x y hx hy with q | q<;>omega
end Ev
namespace Ev
open Go
def scB(l:List Cue):Bool:=((G119 (l,())).map λx=>x.1).getD false
def wdB(l:List Gust):Bool:=((G120 (l,())).map λx=>x.1).getD false
theorem ZJA(l:List Cue)(hn:ZCS l)(hl:l.length<=1048576):G119 (l,())=some (scB l,()):=by
 obtain⟨b,h,_⟩:=ZLf l hn hl
 have h:G119 (l,())=some (b,()):=h
 unfold scB;rw[h];rfl
theorem ZLv(l:List Cue)(hn:ZCS l)(hl:l.length<=1048576):G231 (l,())=some (scB l,()):=(ZPx l hn).trans (ZJA l hn hl)
theorem ZFO(l:List Gust)(hl:l.length<=1048576):G120 (l,())=some (wdB l,()):=by
 obtain⟨b,h⟩:=ZP6 l hl
 have h:G120 (l,())=some (b,()):=h
 unfold wdB;rw[h];rfl
theorem ZJB(l:List Gust)(hl:l.length<=1048576):G232 (l,())=some (wdB l,()):=by
 have e:G232=G120:=ZP5
 rw[e];exact ZFO l hl
def ZA5(s:ZAM):Bool:=rigB s.1 && (scB s.2.1 && (wdB s.2.2.1 && wi s.2.2.2.1 0 64))
theorem ZDT(s:ZAM)(h:ShowOK s):G50 (s,())=some (ZA5 s,()):=by
 unfold G50 F50 ZA5
 dsimp only
 rw[ZDl s.1 h.rig h.devs]
 simp only[al_bind_some]
 cases rigB s.1
 ·rfl
 ·simp only[al_cond_true,Bool.true_and]
  rw[ZJA s.2.1 h.names h.score]
  simp only[al_bind_some]
  cases scB s.2.1
  ·rfl
  ·simp only[al_cond_true,Bool.true_and]
   rw[ZFO s.2.2.1 h.wind]
   simp only[al_bind_some]
   cases wdB s.2.2.1
   ·rfl
   ·simp only[al_cond_true,Bool.true_and]
    rw[show G121 (s.2.2.2.1,0,64,())=some (wi s.2.2.2.1 0 64,())from ZA9 _ _ _];rfl
theorem ZCd(s:ZAM)(h:ShowOK s):G140 (s,())=some (ZA5 s,()):=by
 unfold G140 F140 ZA5
 dsimp only
 rw[ZEh s.1 h.rig h.devs]
 simp only[al_bind_some]
 cases rigB s.1
 ·rfl
 ·simp only[al_cond_true,Bool.true_and]
  rw[ZLv s.2.1 h.names h.score]
  simp only[al_bind_some]
  cases scB s.2.1
  ·rfl
  ·simp only[al_cond_true,Bool.true_and]
   rw[ZJB s.2.2.1 h.wind]
   simp only[al_bind_some]
   cases wdB s.2.2.1
   ·rfl
   ·simp only[al_cond_true,Bool.true_and]
    rw[show G233 (s.2.2.2.1,0,64,())=some (wi s.2.2.2.1 0 64,())from ZC0 _ _ _];rfl
structure ShowV(s:ZAM):Prop where
 ok:ShowOK s
 rig:RigP s.1
 score:scB s.2.1=true
 wind:wdB s.2.2.1=true
 tick:0<=s.2.2.2.1/\s.2.2.2.1<=64
theorem ZD3{s:ZAM}(h:ShowOK s)(hb:ZA5 s=true):ShowV s:=by
 unfold ZA5 at hb
 simp only[ZAJ]at hb
 exact⟨h,(ZDS _).1 hb.1,hb.2.1,hb.2.2.1,ZAj.1 hb.2.2.2⟩
theorem ZEi{s:ZAM}(h:ShowV s):ZA5 s=true:=by
 unfold ZA5
 rw[(ZDS _).2 h.rig,h.score,h.wind,ZAZ h.tick.1 h.tick.2];rfl
theorem ZWB{l:List Cue}(hn:ZCS l)(hl:l.length<=1048576)(hv:scB l=true)(name:Str){t:Int}(ht:0<=t):G249 (l,name,t,())=G110 (l,name,t,()):=by
 unfold G249 F249 G110 F110
 dsimp only
 rw[ZJA l hn hl,hv]
 simp only[al_bind_some,ZAG,ZAK,al_cond_true]
 rw[ZAA]
 have e:s249_0 G323=s110_0 G119 G209:=by
  have:G323=G209:=ZPz
  rw[this];rfl
 have e2:G323=G209:=ZPz
 rw[e,e2]
def lvl(l:List Cue)(name:Str)(t:Int):Int:=((G110 (l,name,t,())).map λx=>x.1).getD 0
theorem ZLw{l:List Cue}(hn:ZCS l)(hl:l.length<=1048576)(name:Str)(t:Int):G110 (l,name,t,())=some (lvl l name t,()):=by
 obtain⟨v,h⟩:=ZVy l hn hl name t
 have h:G110 (l,name,t,())=some (v,()):=h
 unfold lvl;rw[h];rfl
theorem ZQR{l:List Cue}(hn:ZCS l)(hl:l.length<=1048576)(hv:scB l=true)(name:Str){t:Int}(ht:0<=t):G249 (l,name,t,())=some (lvl l name t,()):=(ZWB hn hl hv name ht).trans (ZLw hn hl name t)
def ZHf(f:Device->Bool)(r:List Device)(i:Nat):Bool:=match r[i]? with
 | some d=>f d
 | none=>false
def ZBF(f:Device->Bool)(r:List Device)(n:Nat):List Nat:=(List.range n).filter (ZHf f r)
theorem ZQS(f:Device->Bool)(r:List Device)(i:Nat)(h:i<r.length):ZBF f r (i+1)=ZBF f r i++(if f r[i]=true then [i]else []):=by
 unfold ZBF
 rw[List.range_succ,List.filter_append]
 congr 1
 have hx:r[i]?=some r[i]:=by simp
 simp only[List.filter_cons,List.filter_nil,ZHf,hx]
theorem ZQT{f:Device->Bool}{r:List Device}{n i:Nat}(h:i∈ZBF f r n): ∃d,r[i]?=some d/\f d=true:=by
 unfold ZBF at h
 have h:=(List.mem_filter.mp h).2
 unfold ZHf at h
 cases hd:r[i]? with
 | none=>rw[hd]at h;cases h
 | some d=>rw[hd]at h;exact⟨d,rfl,h⟩
theorem ZHg(f:Device->Bool)(r:List Device)(n:Nat):(ZBF f r n).length<=n:=by
 unfold ZBF
 exact Nat.le_trans (List.length_filter_le _ _) (by simp)
theorem ZQU{f g:Device->Bool}{r:List Device}(h: ∀d∈r,f d=g d)(n:Nat):ZBF f r n=ZBF g r n:=by
 unfold ZBF
 refine List.filter_congr λi _=> ?_
 unfold ZHf
 cases hd:r[i]? with
 | none=>rfl
 | some d=>exact h d (List.mem_iff_getElem?.mpr ⟨i,hd⟩)
theorem ZQV{f:Device->Bool}{r:List Device}(h: ∀d∈r,f d=false)(n:Nat):ZBF f r n=[]:=by
 rw[ZQU h n]
 unfold ZBF
 rw[List.filter_eq_nil_iff]
 intro i _
 unfold ZHf
 cases r[i]?<;>simp
def dem(sc:List Cue)(t:Int)(d:Device):Int:=mn (lvl sc d.Name t) d.Most
def ZFP(sc:List Cue)(t:Int)(r:List Device)(i:Nat):Int:=((r[i]?).map (dem sc t)).getD 0
theorem ZLx{sc:List Cue}{t:Int}{r:List Device}{i:Nat}{d:Device}(h:r[i]?=some d):ZFP sc t r i=dem sc t d:=by
 unfold ZFP;rw[h];rfl
def onI(p:Device)(d:Device):Bool:=decide (d.Line=p.Name)
def onS(p:Device)(b:Bool)(d:Device):Bool:=decide (d.Kind=2) && (decide (d.Line=p.Name) && b)
section
variable {s:ZAM} (h:ShowV s) (t:Int)
include h
theorem ZWC(p:Device)(out:List Int)(rng:List Device)(n i0:Int)(ht:wi t 0 (w64 (s.2.2.2.1-1))=true->0<=t)(K:Int×(List Device×List Cue×List Gust×Int×Unit)×List Int×Device×List Int×List Int×List Device×Int×Int×List Device×Int×Int×Unit->Option (List Int×Unit)):
  ZAD (s329_2 G233 G249 G358 G361) fuel (t,s,out,p,([]:List Int),([]:List Int),rng,n,i0,s.1,Int.ofNat s.1.length,0,()) K=
   K (t,s,out,p,(ZBF (onS p (wi t 0 (w64 (s.2.2.2.1-1)))) s.1 s.1.length).map (ZFP s.2.1 t s.1),(ZBF (onS p (wi t 0 (w64 (s.2.2.2.1-1)))) s.1 s.1.length).map Int.ofNat,rng,n,i0,s.1,Int.ofNat s.1.length,Int.ofNat s.1.length,()):=by
 have hlen:=h.rig.len
 refine ZAU (f:=s329_2 G233 G249 G358 G361) (K:=K) (λi=>(t,s,out,p,(ZBF (onS p (wi t 0 (w64 (s.2.2.2.1-1)))) s.1 i).map (ZFP s.2.1 t s.1),(ZBF (onS p (wi t 0 (w64 (s.2.2.2.1-1)))) s.1 i).map Int.ofNat,rng,n,i0,s.1,Int.ofNat s.1.length,(i:Int),())) s.1.length (by omega) ?_ ?_
 ·intro i hi rec K
  have hx:s.1[i]?=some s.1[i]:=by simp
  have e1:w64 ((i:Int)+1)=((i+1:Nat):Int):=ZAC
  have hl1:=ZHg (onS p (wi t 0 (w64 (s.2.2.2.1-1)))) s.1 i
  rw[ZQS _ _ i hi]
  simp only[s329_2]
  rw[ZA,ZAF hx,e1,show G233 (t,0,w64 (s.2.2.2.1-1),())=some (wi t 0 (w64 (s.2.2.2.1-1)),())from ZC0 _ _ _]
  simp only[al_bind_some]
  by_cases k2:s.1[i].Kind=2
  ·rw[ZA k2]
   by_cases kl:s.1[i].Line=p.Name
   ·rw[ZA kl]
    cases hw:wi t 0 (w64 (s.2.2.2.1-1))
    ·rw[al_if_neg (by simp[onS])]
     simp
    ·rw[al_if_pos (by simp[onS,k2,kl]),ZQR h.ok.names h.ok.score h.score _ (ht hw)]
     simp only[al_bind_some,al_cond_true]
     rw[show G358 (lvl s.2.1 s.1[i].Name t,s.1[i].Most,())=some (mn (lvl s.2.1 s.1[i].Name t) s.1[i].Most,())from ZIz _ _]
     simp only[al_bind_some]
     rw[hw]at hl1
     rw[ZAB,ZAB,List.map_append,List.map_append]
     simp only[List.map_cons,List.map_nil,ZLx hx]
     rfl
   ·rw[ZAA kl,al_if_neg (by simp[onS,kl])]
    simp
  ·rw[ZAA k2,al_if_neg (by simp[onS,k2])]
   simp
 ·intro rec K
  simp only[s329_2]
  rw[ZAA]
theorem ZWD(p:Device)(out:List Int)(rng:List Device)(n i0:Int)(K:Int×(List Device×List Cue×List Gust×Int×Unit)×List Int×Device×List Int×List Int×List Device×Int×Int×List Device×Int×Int×Unit->Option (List Int×Unit)):
  ZAD (s111_2 G50 G121 G110 G210) fuel (t,s,out,p,([]:List Int),([]:List Int),rng,n,i0,s.1,Int.ofNat s.1.length,0,()) K=
   K (t,s,out,p,(ZBF (onI p) s.1 s.1.length).map Int.ofNat,(ZBF (onI p) s.1 s.1.length).map (ZFP s.2.1 t s.1),rng,n,i0,s.1,Int.ofNat s.1.length,Int.ofNat s.1.length,()):=by
 have hlen:=h.rig.len
 refine ZAU (f:=s111_2 G50 G121 G110 G210) (K:=K) (λi=>(t,s,out,p,(ZBF (onI p) s.1 i).map Int.ofNat,(ZBF (onI p) s.1 i).map (ZFP s.2.1 t s.1),rng,n,i0,s.1,Int.ofNat s.1.length,(i:Int),())) s.1.length (by omega) ?_ ?_
 ·intro i hi rec K
  have hx:s.1[i]?=some s.1[i]:=by simp
  have e1:w64 ((i:Int)+1)=((i+1:Nat):Int):=ZAC
  have hl1:=ZHg (onI p) s.1 i
  rw[ZQS _ _ i hi]
  simp only[s111_2]
  rw[ZA,ZAF hx,e1]
  by_cases kl:s.1[i].Line=p.Name
  ·rw[ZA kl,al_if_pos (by simp[onI,kl]),ZAB,ZLw h.ok.names h.ok.score]
   simp only[al_bind_some]
   rw[ZAB,List.map_append,List.map_append]
   simp only[List.map_cons,List.map_nil,ZLx hx]
   rfl
  ·rw[ZAA kl,al_if_neg (by simp[onI,kl])]
   simp
 ·intro rec K
  simp only[s111_2]
  rw[ZAA]
end
def asg(out:List Int)(ws:List Nat)(xs:List Int):List Int:=(ws.zip xs).foldl (λo p=>o.set p.1 p.2) out
theorem ZWE(out:List Int)(ws:List Nat)(xs:List Int)(w:Nat)(x:Int)(h:ws.length=xs.length):asg out (ws++[w]) (xs++[x])=(asg out ws xs).set w x:=by
 unfold asg
 rw[List.zip_append h,List.foldl_append];rfl
theorem ZQW: ∀(ps:List (Nat×Int)) (out:List Int),(ps.foldl (λo p=>o.set p.1 p.2) out).length=out.length
 | [],out=>rfl
 | p::ps,out=>by rw[List.foldl_cons,ZQW ps];simp
theorem ZQX(out:List Int)(ws:List Nat)(xs:List Int):(asg out ws xs).length=out.length:=ZQW _ _
theorem ZWF(out:List Int)(xs:List Int):asg out [] xs=out:=by simp[asg]
theorem ZQY: ∀(ps:List (Nat×Int)) (out:List Int) (i:Nat) (x:Int),(ps.foldl (λo p=>o.set p.1 p.2) out)[i]?=some x->out[i]?=some x\/(i,x)∈ps
 | [],out,i,x,h=> .inl h
 | p::ps,out,i,x,h=>by
  rw[List.foldl_cons]at h
  rcases ZQY ps _ i x h with h | h
  ·rw[List.getElem?_set]at h
   by_cases hp:p.1=i
   ·rw[al_if_pos hp]at h
    by_cases hl:p.1<out.length
    ·rw[al_if_pos]at h
     cases h
     exact .inr (by rw[<-hp];simp)
    ·rw[al_if_neg]at h;cases h
   ·rw[al_if_neg hp]at h;exact .inl h
  ·exact .inr (by simp[h])
theorem ZWG{out:List Int}{ws:List Nat}{xs:List Int}{i:Nat}{x:Int}(h:(asg out ws xs)[i]?=some x):out[i]?=some x\/ ∃k:Nat,ws[k]?=some i/\xs[k]?=some x:=by
 rcases ZQY _ _ i x h with h | h
 ·exact .inl h
 ·obtain⟨k,hk⟩:=List.mem_iff_getElem?.mp h
  rw[List.getElem?_zip_eq_some]at hk
  exact .inr ⟨k,hk⟩
theorem ZQZ(s:ZAM)(t:Int)(out:List Int)(ws:List Nat)(rng:List Device)(n i0:Int)(R:List Int)(hR:R.length<=ws.length)(hw: ∀w∈ws,w<out.length)(hl:ws.length<=1048576)(K:Int×(List Device×List Cue×List Gust×Int×Unit)×List Int×List Int×List Device×Int×Int×List Int×Int×Int×Unit->Option (List Int×Unit)):
  ZAD (s111_4 G50 G121 G110 G210) fuel (t,s,out,ws.map Int.ofNat,rng,n,i0,R,Int.ofNat R.length,0,()) K=
   K (t,s,asg out ws R,ws.map Int.ofNat,rng,n,i0,R,Int.ofNat R.length,Int.ofNat R.length,()):=by
 have e:=ZAU (f:=s111_4 G50 G121 G110 G210) (K:=K) (λk=>(t,s,asg out (ws.take k) (R.take k),ws.map Int.ofNat,rng,n,i0,R,Int.ofNat R.length,(k:Int),())) R.length (by omega)
  (by
   intro k hk rec K
   have hx:R[k]?=some R[k]:=by simp
   have hkw:k<ws.length:=by omega
   have hy:(ws.map Int.ofNat)[k]?=some ((ws[k]:Nat):Int):=by rw[List.getElem?_map,al_get_get hkw];rfl
   have e1:w64 ((k:Int)+1)=((k+1:Nat):Int):=ZAC
   have hlt:ws[k]<(asg out (ws.take k) (R.take k)).length:=by rw[ZQX];exact hw _ (by simp)
   have hz:(asg out (ws.take k) (R.take k))[ws[k]]?=some (asg out (ws.take k) (R.take k))[ws[k]]:=by simp
   have hx':=λ(K:Int->Option (List Int×Unit))=>ZAF (K:=K) hx
   have hy':=λ(K:Int->Option (List Int×Unit))=>ZAF (K:=K) hy
   have hz':=λ(K:Int->Option (List Int×Unit))=>ZAF (K:=K) hz
   rw[ZDm ws k hkw,ZDm R k hk,ZWE _ _ _ _ _ (by simp;omega)]
   simp only[s111_4]
   rw[ZA]
   simp only[hx',hx,hy',hy,hz',hz,ZAW,al_bind_some,e1])
  (by
   intro rec K
   simp only[s111_4]
   rw[ZAA])
 have e0:asg out (ws.take 0) (R.take 0)=out:=by simp[asg]
 have e2:asg out (ws.take R.length) (R.take R.length)=asg out ws R:=by
  unfold asg
  rw[List.take_length]
  congr 1
  conv=>rhs;rw[List.zip_eq_zip_take_min]
  rw[Nat.min_eq_right hR,List.take_length]
 simp only[e2]at e
 rw[e0]at e
 exact e
def shr(m:Int)(l:List Int):List Int:=((G210 (m,l,())).map λx=>x.1).getD []
theorem ZJC(m:Int)(l:List Int)(hl:l.length<=1048576):G361 (m,l,())=some (shr m l,())/\G210 (m,l,())=some (shr m l,())/\((shr m l=[]/\(demB l && wi m 0 512)=false)\/((demB l && wi m 0 512)=true/\SharesP m l (shr m l))):=by
 obtain⟨R,h1,h2,h3⟩:=ZW m l hl
 have:shr m l=R:=by unfold shr;rw[h2];rfl
 rw[this]
 exact⟨h1,h2,h3⟩
theorem ZQa(m:Int)(l:List Int)(hl:l.length<=1048576):(shr m l).length<=l.length:=by
 obtain⟨_,_,⟨e,_⟩ | ⟨_,h⟩⟩:=ZJC m l hl
 ·rw[e];simp
 ·rw[h.len];exact Nat.le_refl _
def ZCT(s:ZAM)(t:Int)(p:Device):List Int:=(ZBF (onI p) s.1 s.1.length).map (ZFP s.2.1 t s.1)
def ZFQ(s:ZAM)(t:Int)(out:List Int)(p:Device):List Int:=if p.Kind=1 then asg out (ZBF (onI p) s.1 s.1.length) (shr p.Most (ZCT s t p))else out
def ZDU(s:ZAM)(t:Int)(i:Nat):List Int:=(s.1.take i).foldl (ZFQ s t) (List.replicate s.1.length 0)
def ZA1(s:ZAM)(t:Int):List Int:=if wi t 0 (s.2.2.2.1-1)=true then ZDU s t s.1.length else List.replicate s.1.length 0
theorem ZWH(s:ZAM)(t:Int)(out:List Int)(p:Device):(ZFQ s t out p).length=out.length:=by
 unfold ZFQ;split
 ·exact ZQX _ _ _
 ·rfl
theorem ZJD(s:ZAM)(t:Int)(i:Nat)(h:i<s.1.length):ZDU s t (i+1)=ZFQ s t (ZDU s t i) s.1[i]:=by
 unfold ZDU
 rw[ZDm s.1 i h,List.foldl_append];rfl
theorem ZJE(s:ZAM)(t:Int): ∀i,i<=s.1.length->(ZDU s t i).length=s.1.length
 | 0,_=>by simp[ZDU]
 | i+1,h=>by rw[ZJD s t i h,ZWH,ZJE s t i (by omega)]
theorem ZEj(s:ZAM)(t:Int):(ZA1 s t).length=s.1.length:=by
 unfold ZA1;split
 ·exact ZJE s t _ (Nat.le_refl _)
 ·simp
theorem ZQb{f:Device->Bool}{r:List Device}{n:Nat} : ∀w∈ZBF f r n,w<r.length:=λw hw=>by
 obtain⟨d,hd,_⟩:=ZQT hw
 exact(al_get_iff.mp hd).1
theorem ZWI{d:Device}(h:devB d=true):1<=d.Name.length:=by
 unfold devB isNm at h
 simp only[ZAJ]at h
 have:=(ZAj.1 h.1.2).1
 simp at this;omega
theorem ZWJ{d:Device}(h:devB d=true)(hk:d.Kind=1):d.Line=[]:=by
 unfold devB at h
 rw[al_if_pos hk]at h
 simp only[ZAJ,ZAX]at h
 exact h.2.1
theorem ZLy{r:List Device}(h:RigP r){p d:Device}(hp:p∈r)(hd:d∈r)(hl:d.Line=p.Name):p.Kind=d.Kind-1/\d.Kind≠1:=by
 have hk:d.Kind≠1:=λhk=>by
  have h1:=ZWJ (h.dev d hd) hk
  have h2:=ZWI (h.dev p hp)
  rw[<-hl,h1]at h2
  simp at h2
 obtain⟨k,x,_,h1,h2,h3⟩:=ZV4 h hd hk
 obtain⟨j,hj⟩:=List.mem_iff_getElem?.mp hp
 have:k=j:=ZQF h h1 hj (h2.trans hl)
 subst this
 rw[hj]at h1
 cases h1
 exact⟨h3,hk⟩
section
variable {s:ZAM} (h:ShowV s) (t:Int)
include h
theorem ZHh(p:Device):(ZCT s t p).length<=8:=by
 have:=ZHg (onI p) s.1 s.1.length
 have:=h.rig.len
 simp[ZCT];omega
theorem ZLz:G111 (s,t,())=some (ZA1 s t,()):=by
 have hlen:=h.rig.len
 have es:(s.1,s.2.1,s.2.2.1,s.2.2.2.1,())=s:=rfl
 have ew:w64 (s.2.2.2.1-1)=s.2.2.2.1-1:=ZAC (by have:=h.tick;omega) (by have:=h.tick;omega)
 unfold G111 F111 ZA1
 dsimp only
 try simp only[es]
 rw[ZDT s h.ok,ZEi h]
 simp only[al_bind_some,ZAG,al_cond_false]
 rw[ZBT (by simp),ZAB,ew,show G121 (t,0,s.2.2.2.1-1,())=some (wi t 0 (s.2.2.2.1-1),())from ZA9 _ _ _]
 simp only[al_bind_some]
 have ez:List.replicate (Int.toNat (Int.ofNat s.1.length)) (Ty.zero .int)=List.replicate s.1.length (0:Int):=rfl
 rw[ez]
 cases hw:wi t 0 (s.2.2.2.1-1)
 ·rfl
 ·simp only[ZAG,al_cond_false,if_true]
  refine(ZAU (f:=s111_0 G50 G121 G110 G210) (K:=λt15=>some (t15.2.2.1,())) (λi=>(t,s,ZDU s t i,s.1,Int.ofNat s.1.length,(i:Int),())) s.1.length (by omega) ?_ ?_)
  ·intro i hi rec K
   have hx:s.1[i]?=some s.1[i]:=by simp
   have e1:w64 ((i:Int)+1)=((i+1:Nat):Int):=ZAC
   rw[ZJD s t i hi]
   unfold ZFQ
   simp only[s111_0,es]
   rw[ZA,ZAF hx]
   by_cases k1:s.1[i].Kind=1
   ·rw[ZAH k1,al_if_pos k1]
    simp only[ZAG,al_cond_false]
    rw[ZWD h]
    try simp only[es]
    have hq:=ZJC s.1[i].Most (ZCT s t s.1[i]) (by have:=ZHh h t s.1[i];omega)
    have hq2:=hq.2.1
    unfold ZCT at hq2
    rw[hq2]
    simp only[al_bind_some]
    rw[ZQZ _ _ _ _ _ _ _ _ (by have:=ZQa s.1[i].Most (ZCT s t s.1[i]) (by have:=ZHh h t s.1[i];omega);simpa[ZCT]using this) (by rw[ZJE s t i (by omega)];exact ZQb) (by have:=ZHg (onI s.1[i]) s.1 s.1.length;omega)]
    simp only[es,e1]
    rfl
   ·rw[ZAE k1,al_if_neg k1]
    simp only[ZAK,al_cond_true,e1]
  ·intro rec K
   simp only[s111_0]
   rw[ZAA]
theorem ZQc:G329 (s,t,())=some (ZA1 s t,()):=by
 have hlen:=h.rig.len
 have es:(s.1,s.2.1,s.2.2.1,s.2.2.2.1,())=s:=rfl
 have ew:w64 (s.2.2.2.1-1)=s.2.2.2.1-1:=ZAC (by have:=h.tick;omega) (by have:=h.tick;omega)
 unfold G329 F329
 dsimp only
 try simp only[es]
 rw[ZBT (by simp),ZAB]
 have ez:List.replicate (Int.toNat (Int.ofNat s.1.length)) (Ty.zero .int)=List.replicate s.1.length (0:Int):=rfl
 have e0:List.replicate s.1.length (0:Int)=if wi t 0 (s.2.2.2.1-1)=true then ZDU s t 0 else List.replicate s.1.length 0:=by split<;>rfl
 rw[ez,e0]
 refine(ZAU (f:=s329_0 G233 G249 G358 G361) (K:=λt15=>some (t15.2.2.1,())) (λi=>(t,s,if wi t 0 (s.2.2.2.1-1)=true then ZDU s t i else List.replicate s.1.length 0,s.1,Int.ofNat s.1.length,(i:Int),())) s.1.length (by omega) ?_ ?_).trans ?_
 ·intro i hi rec K
  have hx:s.1[i]?=some s.1[i]:=by simp
  have hm:s.1[i]∈s.1:=by simp
  have e1:w64 ((i:Int)+1)=((i+1:Nat):Int):=ZAC
  rw[ZJD s t i hi]
  unfold ZFQ
  simp only[s329_0,es]
  rw[ZA,ZAF hx,ZWC h t _ _ _ _ _ (λhw=>(ZAj.1 hw).1),ew]
  try simp only[es]
  cases hw:wi t 0 (s.2.2.2.1-1)
  ·have en:ZBF (onS s.1[i] false) s.1 s.1.length=[]:=ZQV (λd _=>by simp[onS]) _
   rw[en]
   simp only[List.map_nil,al_len_nil]
   rw[ZAA,e1]
   rfl
  ·simp only[if_true]
   by_cases k1:s.1[i].Kind=1
   ·have ec:ZBF (onS s.1[i] true) s.1 s.1.length=ZBF (onI s.1[i]) s.1 s.1.length:=ZQU (λd hd=>by
     unfold onS onI
     by_cases hl:d.Line=s.1[i].Name
     ·have:=(ZLy h.rig hm hd hl).1
      rw[ZAH hl,ZAH (show d.Kind=2 by omega)];rfl
     ·rw[ZAE hl];simp) _
    rw[ec,al_if_pos k1]
    by_cases hz:ZBF (onI s.1[i]) s.1 s.1.length=[]
    ·rw[hz]
     simp only[List.map_nil,al_len_nil]
     rw[ZAA,e1,ZWF]
    ·rw[ZA (by simp[List.length_pos_iff,hz])]
     have hq:=ZJC s.1[i].Most (ZCT s t s.1[i]) (by have:=ZHh h t s.1[i];omega)
     have hq1:=hq.1
     unfold ZCT at hq1
     rw[hq1]
     simp only[al_bind_some]
     have e4:s329_4 G233 G249 G358 G361=s111_4 G50 G121 G110 G210:=rfl
     rw[e4]
     rw[ZQZ _ _ _ _ _ _ _ _ (by have:=ZQa s.1[i].Most (ZCT s t s.1[i]) (by have:=ZHh h t s.1[i];omega);simpa[ZCT]using this) (by rw[ZJE s t i (by omega)];exact ZQb) (by have:=ZHg (onI s.1[i]) s.1 s.1.length;omega)]
     simp only[es,e1]
     rfl
   ·have en:ZBF (onS s.1[i] true) s.1 s.1.length=[]:=ZQV (λd hd=>by
     unfold onS
     by_cases hl:d.Line=s.1[i].Name
     ·have:=(ZLy h.rig hm hd hl).1
      rw[ZAE (show¬d.Kind=2 by omega)];rfl
     ·rw[ZAE hl];simp) _
    rw[en,al_if_neg k1]
    simp only[List.map_nil,al_len_nil]
    rw[ZAA,e1]
 ·intro rec K
  simp only[s329_0]
  rw[ZAA]
 ·rfl
theorem ZL0: ∀(n:Nat),n<=s.1.length-> ∀(i:Nat) (x:Int) (d:Device),(ZDU s t n)[i]?=some x->s.1[i]?=some d->x=0\/(d.Kind=2/\0<=x/\x<=d.Most)
 | 0,_,i,x,d,hx,hd=>by
  unfold ZDU at hx
  simp only[List.take_zero,List.foldl_nil]at hx
  rw[List.getElem?_replicate]at hx
  split at hx
  ·cases hx;exact .inl rfl
  ·cases hx
 | n+1,hn,i,x,d,hx,hd=>by
  rw[ZJD s t n hn]at hx
  unfold ZFQ at hx
  by_cases k1:s.1[n].Kind=1
  ·rw[al_if_pos k1]at hx
   rcases ZWG hx with hx | ⟨k,h1,h2⟩
   ·exact ZL0 n (by omega) i x d hx hd
   ·right
    obtain⟨e,he,hon⟩:=ZQT (List.mem_iff_getElem?.mpr ⟨k,h1⟩)
    rw[hd]at he;cases he
    have hl:d.Line=s.1[n].Name:=by simpa[onI]using hon
    have hk:=(ZLy h.rig (by simp:s.1[n]∈s.1) (List.mem_iff_getElem?.mpr ⟨i,hd⟩) hl).1
    have hw:(ZCT s t s.1[n])[k]?=some (dem s.2.1 t d):=by
     unfold ZCT
     rw[List.getElem?_map,h1]
     simp[ZLx hd]
    obtain⟨_,_,⟨e,_⟩ | ⟨hb,hS⟩⟩:=ZJC s.1[n].Most (ZCT s t s.1[n]) (by have:=ZHh h t s.1[n];omega)
    ·rw[e]at h2;simp at h2
    ·have:=ZWA hS (by revert hb;cases demB (ZCT s t s.1[n])<;>simp) h2 hw
     have hm:=ZLt (lvl s.2.1 d.Name t) d.Most
     unfold dem at this
     exact⟨by omega,by omega,by omega⟩
  ·rw[al_if_neg k1]at hx
   exact ZL0 n (by omega) i x d hx hd
theorem ZQd{i:Nat}{x:Int}{d:Device}(hx:(ZA1 s t)[i]?=some x)(hd:s.1[i]?=some d):x=0\/(d.Kind=2/\0<=x/\x<=d.Most):=by
 unfold ZA1 at hx
 split at hx
 ·exact ZL0 h t _ (Nat.le_refl _) i x d hx hd
 ·rw[List.getElem?_replicate]at hx
  split at hx
  ·cases hx;exact .inl rfl
  ·cases hx
end
theorem ZWK(s:ZAM)(h:ShowOK s)(t:Int): ∃L,G253 (s,t,())=some (L,())/\G111 (s,t,())=some (L,())/\L.length<=8:=by
 have es:(s.1,s.2.1,s.2.2.1,s.2.2.2.1,())=s:=rfl
 cases hb:ZA5 s
 ·refine⟨[],?_,?_,by simp⟩
  ·unfold G253 F253
   try simp only[es]
   rw[ZCd s h,hb];rfl
  ·unfold G111 F111
   try simp only[es]
   rw[ZDT s h,hb];rfl
 ·have hv:=ZD3 h hb
  refine⟨ZA1 s t,?_,ZLz hv t,by rw[ZEj];exact hv.rig.len⟩
  unfold G253 F253
  try simp only[es]
  rw[ZCd s h,hb]
  simp only[al_bind_some,ZAG,al_cond_false]
  rw[ZQc hv t];rfl
end Ev
namespace Ev
open Go
def thr1(s:ZAM)(t:Int)(i:Nat):List Throw:=match s.1[i]?,(ZA1 s t)[i]? with
 | some d,some x=>if x>0 then [⟨d.Name,t,⟨⟨d.At.X,d.At.Y⟩,d.Heading,d.Tilt,x⟩⟩]else []
 | _,_=>[]
def thrN(s:ZAM)(t:Int)(n:Nat):List Throw:=(List.range n).flatMap (thr1 s t)
def ZD4(s:ZAM)(n:Nat):List Throw:=(List.range n).flatMap λ(t:Nat)=>thrN s (t:Int) s.1.length
theorem ZL1(s:ZAM)(t:Int)(n:Nat):thrN s t (n+1)=thrN s t n++thr1 s t n:=by
 unfold thrN;rw[List.range_succ,List.flatMap_append];simp
theorem ZL2(s:ZAM)(n:Nat):ZD4 s (n+1)=ZD4 s n++thrN s (n:Int) s.1.length:=by
 unfold ZD4;rw[List.range_succ,List.flatMap_append];simp
theorem ZWL(s:ZAM)(t:Int)(i:Nat):(thr1 s t i).length<=1:=by
 unfold thr1
 split
 ·split<;>simp
 ·simp
theorem ZJF(s:ZAM)(t:Int): ∀n,(thrN s t n).length<=n
 | 0=>by simp[thrN]
 | n+1=>by
  have:=ZJF s t n
  have:=ZWL s t n
  rw[ZL1];simp;omega
theorem ZJG(s:ZAM)(h:s.1.length<=8): ∀n,(ZD4 s n).length<=8*n
 | 0=>by simp[ZD4]
 | n+1=>by
  have:=ZJG s h n
  have:=ZJF s (n:Int) s.1.length
  rw[ZL2];simp;omega
section
variable {s:ZAM} (h:ShowV s)
include h
theorem ZWM(t:Int)(acc:List Throw)(ha:acc.length<=1048576)(K:(List Device×List Cue×List Gust×Int×Unit)×List Throw×Int×List Int×Int×Int×Unit->Option (List Throw×Unit)):
  ZAD (s309_2 G329 G348) fuel (s,acc,t,ZA1 s t,Int.ofNat (ZA1 s t).length,0,()) K=K (s,acc++thrN s t s.1.length,t,ZA1 s t,Int.ofNat (ZA1 s t).length,Int.ofNat (ZA1 s t).length,()):=by
 have es:(s.1,s.2.1,s.2.2.1,s.2.2.2.1,())=s:=rfl
 have hlen:=h.rig.len
 have hL:=ZEj s t
 have e0:acc=acc++thrN s t 0:=by simp[thrN]
 rw[hL]
 conv=>lhs;rw[e0]
 refine ZAU (f:=s309_2 G329 G348) (K:=K) (λi=>(s,acc++thrN s t i,t,ZA1 s t,Int.ofNat s.1.length,(i:Int),())) s.1.length (by omega) ?_ ?_
 ·intro i hi rec K
  have hx:s.1[i]?=some s.1[i]:=by simp
  have hy:(ZA1 s t)[i]?=some (ZA1 s t)[i]:=by simp
  have e1:w64 ((i:Int)+1)=((i+1:Nat):Int):=ZAC
  have hn:=ZJF s t i
  have hx':=λ(K:Device->Option (List Throw×Unit))=>ZAF (K:=K) hx
  have hy':=λ(K:Int->Option (List Throw×Unit))=>ZAF (K:=K) hy
  have ej: ∀x:Int,G348 (s.1[i],x,())=some ((⟨⟨s.1[i].At.X,s.1[i].At.Y⟩,s.1[i].Heading,s.1[i].Tilt,x⟩:Jet),()):=λx=>rfl
  rw[ZL1]
  unfold thr1
  rw[hx,hy]
  simp only[s309_2]
  rw[ZA]
  simp only[hx',hx,hy',hy,ZAW,al_bind_some,e1,ej,es]
  by_cases hc:(ZA1 s t)[i]>0
  ·rw[ZA hc,al_if_pos hc,ZAB,List.append_assoc]
  ·rw[ZAA hc,al_if_neg hc,List.append_nil]
 ·intro rec K
  simp only[s309_2]
  rw[ZAA]
theorem ZWN(t n i0:Int)(acc:List Throw)(ha:acc.length<=1048576)(K:(List Device×List Cue×List Gust×Int×Unit)×List Throw×Int×Int×Int×List Int×Int×Int×Unit->Option (List Throw×Unit)):
  ZAD (s59_2 G50 G111) fuel (s,acc,t,n,i0,ZA1 s t,Int.ofNat (ZA1 s t).length,0,()) K=K (s,acc++thrN s t s.1.length,t,n,i0,ZA1 s t,Int.ofNat (ZA1 s t).length,Int.ofNat (ZA1 s t).length,()):=by
 have es:(s.1,s.2.1,s.2.2.1,s.2.2.2.1,())=s:=rfl
 have hlen:=h.rig.len
 have hL:=ZEj s t
 have e0:acc=acc++thrN s t 0:=by simp[thrN]
 rw[hL]
 conv=>lhs;rw[e0]
 refine ZAU (f:=s59_2 G50 G111) (K:=K) (λi=>(s,acc++thrN s t i,t,n,i0,ZA1 s t,Int.ofNat s.1.length,(i:Int),())) s.1.length (by omega) ?_ ?_
 ·intro i hi rec K
  have hx:s.1[i]?=some s.1[i]:=by simp
  have hy:(ZA1 s t)[i]?=some (ZA1 s t)[i]:=by simp
  have e1:w64 ((i:Int)+1)=((i+1:Nat):Int):=ZAC
  have hn:=ZJF s t i
  have hx':=λ(K:Device->Option (List Throw×Unit))=>ZAF (K:=K) hx
  have hy':=λ(K:Int->Option (List Throw×Unit))=>ZAF (K:=K) hy
  rw[ZL1]
  unfold thr1
  rw[hx,hy]
  simp only[s59_2]
  rw[ZA]
  simp only[hx',hx,hy',hy,ZAW,al_bind_some,e1,es]
  by_cases hc:(ZA1 s t)[i]>0
  ·rw[ZA hc,al_if_pos hc,ZAB,List.append_assoc]
  ·rw[ZAA hc,al_if_neg hc,List.append_nil]
 ·intro rec K
  simp only[s59_2]
  rw[ZAA]
theorem ZQe: ∃n:Nat,s.2.2.2.1=(n:Int)/\n<=64:=by
 have:=h.tick
 exact⟨s.2.2.2.1.toNat,by omega,by omega⟩
def ZAO(s:ZAM):List Throw:=ZD4 s s.2.2.2.1.toNat
theorem ZB5:(ZAO s).length<=512:=by
 have:=ZJG s h.rig.len s.2.2.2.1.toNat
 have:=h.tick
 unfold ZAO;omega
theorem ZFR:G309 (s,())=some (ZAO s,()):=by
 obtain⟨n,hn,h64⟩:=ZQe h
 have es:(s.1,s.2.1,s.2.2.1,s.2.2.2.1,())=s:=rfl
 have hlen:=h.rig.len
 unfold G309 F309 ZAO
 try simp only[es]
 rw[hn,ZAW]
 refine ZAU (f:=s309_0 G329 G348) (K:=λt9=>some (t9.2.1,())) (λi=>(s,ZD4 s i,(i:Int),())) n (by omega) ?_ ?_
 ·intro i hi rec K
  have e1:w64 ((i:Int)+1)=((i+1:Nat):Int):=ZAC
  have hl:=ZJG s hlen i
  rw[ZL2]
  simp only[s309_0,es]
  rw[ZA (by rw[hn];omega),ZQc h]
  simp only[al_bind_some]
  rw[ZWM h _ _ (by omega),e1]
 ·intro rec K
  simp only[s309_0]
  rw[ZAA (by rw[hn];omega)]
theorem ZDn:G59 (s,())=some (ZAO s,()):=by
 obtain⟨n,hn,h64⟩:=ZQe h
 have es:(s.1,s.2.1,s.2.2.1,s.2.2.2.1,())=s:=rfl
 have hlen:=h.rig.len
 unfold G59 F59 ZAO
 try simp only[es]
 rw[ZDT s h.ok,ZEi h]
 simp only[al_bind_some,ZAG,al_cond_false]
 rw[hn,ZAW]
 refine ZAU (f:=s59_0 G50 G111) (K:=λt9=>some (t9.2.1,())) (λi=>(s,ZD4 s i,(n:Int),(i:Int),())) n (by omega) ?_ ?_
 ·intro i hi rec K
  have e1:w64 ((i:Int)+1)=((i+1:Nat):Int):=ZAC
  have hl:=ZJG s hlen i
  rw[ZL2]
  simp only[s59_0,es]
  rw[ZA,ZLz h]
  simp only[al_bind_some]
  rw[ZWN h _ _ _ _ (by omega),e1]
 ·intro rec K
  simp only[s59_0]
  rw[ZAA]
structure ThrowP(s:ZAM)(x:Throw):Prop where
 born:0<=x.born/\x.born<s.2.2.2.1
 jet:ZAk x.jet=true
 dev: ∃(i:Nat) (d:Device),s.1[i]?=some d/\d.Kind=2/\x.name=d.Name/\x.jet=⟨⟨d.At.X,d.At.Y⟩,d.Heading,d.Tilt,x.jet.Lift⟩/\(ZA1 s x.born)[i]?=some x.jet.Lift/\x.jet.Lift<=d.Most
omit h in
theorem ZWO{d:Device}(hd:devB d=true)(hk:d.Kind=2){x:Int}(h1:1<=x)(h2:x<=d.Most):ZAk ⟨⟨d.At.X,d.At.Y⟩,d.Heading,d.Tilt,x⟩=true:=by
 unfold devB at hd
 rw[al_if_neg,al_if_pos hk]at hd
 simp only[ZAJ]at hd
 have J:=ZBk hd.2.2.2.1
 have hm:=ZAj.1 hd.2.2.2.2
 have jx:=J.x;have jy:=J.y;have jh:=J.h;have jt:=J.t
 simp only[devJ]at jx jy jh jt
 unfold ZAk
 rw[ZAZ jx.1 jx.2,ZAZ jy.1 jy.2,ZAZ jh.1 jh.2,ZAZ jt.1 jt.2,ZAZ (a:=x) (by omega) (by omega)]
 rfl
theorem ZFS{x:Throw}(hx:x∈ZAO s):ThrowP s x:=by
 have ht:=h.tick
 unfold ZAO ZD4 at hx
 obtain⟨t,h1,hx⟩:=List.mem_flatMap.mp hx
 have h1:t<s.2.2.2.1.toNat:=by simpa using h1
 unfold thrN at hx
 obtain⟨i,h2,hx⟩:=List.mem_flatMap.mp hx
 unfold thr1 at hx
 cases hd:s.1[i]? with
 | none=>rw[hd]at hx;simp at hx
 | some d=>
  cases hl:(ZA1 s (t:Int))[i]? with
  | none=>rw[hd,hl]at hx;simp at hx
  | some y=>
   rw[hd,hl]at hx
   simp only at hx
   by_cases hy:y>0
   ·rw[al_if_pos hy]at hx
    simp at hx
    subst hx
    have hdev:=h.rig.dev d (List.mem_iff_getElem?.mpr ⟨i,hd⟩)
    rcases ZQd h (t:Int) hl hd with e | ⟨hk,_,hm⟩
    ·omega
    ·exact⟨⟨by simp only;omega,by simp only;omega⟩,ZWO hdev hk (by omega) hm,i,d,hd,hk,rfl,rfl,hl,hm⟩
   ·rw[al_if_neg hy]at hx;simp at hx
end
end Ev
namespace Ev
open Go
theorem ZBI(s:ZAM):(s.1,s.2.1,s.2.2.1,s.2.2.2.1,())=s:=rfl
theorem ZHi{s:ZAM}(h:ShowOK s)(hb:ZA5 s=false):G59 (s,())=some (([]:List Throw),()):=by
 unfold G59 F59
 try simp only[ZBI]
 rw[ZDT s h,hb];rfl
theorem ZB6{α β:Type}(f:β->α->β)(b:β)(l:List α)(i:Nat)(h:i<l.length):(l.take (i+1)).foldl f b=f ((l.take i).foldl f b) l[i]:=by
 rw[ZDm l i h,List.foldl_append];rfl
def ZGN(t a:Int)(x:Throw):Int:=if x.born<=t then w64 (a+1)else a
theorem ZJH(t:Int)(l:List Throw)(hl:l.length<=1048576):ZAD (s115_0 G59) fuel (t,0,l,Int.ofNat l.length,0,()) (λt4=>some (t4.2.1,()))=some (l.foldl (ZGN t) 0,()):=by
 refine(ZAU (f:=s115_0 G59) (K:=λt4=>some (t4.2.1,())) (λi=>(t,(l.take i).foldl (ZGN t) 0,l,Int.ofNat l.length,(i:Int),())) l.length (by omega) ?_ ?_).trans (by simp)
 ·intro i hi rec K
  have hx:l[i]?=some l[i]:=by simp
  have hx':=λ(K:Throw->Option (Int×Unit))=>ZAF (K:=K) hx
  have e1:w64 ((i:Int)+1)=((i+1:Nat):Int):=ZAC
  rw[ZB6 _ _ l i hi]
  simp only[s115_0]
  rw[ZA]
  simp only[hx',hx,ZAW,al_bind_some,e1]
  unfold ZGN
  by_cases hc:l[i].born<=t
  ·rw[ZA hc,al_if_pos hc]
  ·rw[ZAA hc,al_if_neg hc]
 ·intro rec K
  simp only[s115_0]
  rw[ZAA]
theorem ZWP(s:ZAM)(h:ShowOK s)(t:Int): ∃v,G256 (s,t,())=some (v,())/\G115 (s,t,())=some (v,()):=by
 unfold G256 F256 G115 F115
 try simp only[ZBI]
 rw[ZCd s h]
 cases hb:ZA5 s
 ·rw[ZHi h hb]
  exact⟨0,rfl,ZJH t [] (by simp)⟩
 ·have hv:=ZD3 h hb
  have hl:(ZAO s).length<=1048576:=Nat.le_trans (ZB5 hv) (by decide)
  rw[ZDn hv]
  simp only[al_bind_some,ZAG,al_cond_false]
  rw[ZFR hv]
  exact⟨_,ZJH t _ hl,ZJH t _ hl⟩
theorem ZFT(j:Jet):G311 (j,())=some (fl j,()):=flS j
theorem ZHj(j:Jet):G126 (j,())=some (fl j,()):=flI j
def ZD5(t a:Int)(x:Throw):Int:=if w64 (x.born+fl x.jet)<=t then w64 (a+1)else a
theorem ZL3(x:Throw):G211 (x,())=some (w64 (x.born+fl x.jet),()):=by
 unfold G211 F211
 dsimp only
 rw[ZHj];rfl
theorem ZL4(t:Int)(l:List Throw)(hl:l.length<=1048576):ZAD (s116_0 G59 G211) fuel (t,0,l,Int.ofNat l.length,0,()) (λt4=>some (t4.2.1,()))=some (l.foldl (ZD5 t) 0,()):=by
 refine(ZAU (f:=s116_0 G59 G211) (K:=λt4=>some (t4.2.1,())) (λi=>(t,(l.take i).foldl (ZD5 t) 0,l,Int.ofNat l.length,(i:Int),())) l.length (by omega) ?_ ?_).trans (by simp)
 ·intro i hi rec K
  have hx:l[i]?=some l[i]:=by simp
  have hx':=λ(K:Throw->Option (Int×Unit))=>ZAF (K:=K) hx
  have e1:w64 ((i:Int)+1)=((i+1:Nat):Int):=ZAC
  rw[ZB6 _ _ l i hi]
  simp only[s116_0]
  rw[ZA]
  simp only[hx',hx,ZAW,al_bind_some,e1,ZL3]
  unfold ZD5
  by_cases hc:w64 (l[i].born+fl l[i].jet)<=t
  ·rw[ZA hc,al_if_pos hc]
  ·rw[ZAA hc,al_if_neg hc]
 ·intro rec K
  simp only[s116_0]
  rw[ZAA]
theorem ZWQ(t:Int)(l:List Throw)(hl:l.length<=1048576):ZAD (s257_0 G140 G309 G311) fuel (t,0,l,Int.ofNat l.length,0,()) (λt4=>some (t4.2.1,()))=some (l.foldl (ZD5 t) 0,()):=by
 refine(ZAU (f:=s257_0 G140 G309 G311) (K:=λt4=>some (t4.2.1,())) (λi=>(t,(l.take i).foldl (ZD5 t) 0,l,Int.ofNat l.length,(i:Int),())) l.length (by omega) ?_ ?_).trans (by simp)
 ·intro i hi rec K
  have hx:l[i]?=some l[i]:=by simp
  have hx':=λ(K:Throw->Option (Int×Unit))=>ZAF (K:=K) hx
  have e1:w64 ((i:Int)+1)=((i+1:Nat):Int):=ZAC
  rw[ZB6 _ _ l i hi]
  simp only[s257_0]
  rw[ZA]
  simp only[hx',hx,ZAW,al_bind_some,e1,ZFT]
  unfold ZD5
  by_cases hc:w64 (l[i].born+fl l[i].jet)<=t
  ·rw[ZA hc,al_if_pos hc]
  ·rw[ZAA hc,al_if_neg hc]
 ·intro rec K
  simp only[s257_0]
  rw[ZAA]
theorem ZWR(s:ZAM)(h:ShowOK s)(t:Int): ∃v,G257 (s,t,())=some (v,())/\G116 (s,t,())=some (v,()):=by
 unfold G257 F257 G116 F116
 try simp only[ZBI]
 rw[ZCd s h]
 cases hb:ZA5 s
 ·rw[ZHi h hb]
  exact⟨0,rfl,ZL4 t [] (by simp)⟩
 ·have hv:=ZD3 h hb
  have hl:(ZAO s).length<=1048576:=Nat.le_trans (ZB5 hv) (by decide)
  rw[ZDn hv]
  simp only[al_bind_some,ZAG,al_cond_false]
  rw[ZFR hv]
  exact⟨_,ZWQ t _ hl,ZL4 t _ hl⟩
def ht(j:Jet)(t:Int):Int:=if ZAk j=true/\0<=t/\t<=j.Lift+1 then t*(j.Lift+1-t)else 0
theorem ZQf{L t:Int}(h1:1<=L)(h2:L<=32)(h3:0<=t)(h4:t<=L+1):0<=t*(L+1-t)/\t*(L+1-t)<=2000:=by
 have a:=Int.mul_nonneg h3 (show 0<=L+1-t by omega)
 have b:t*(L+1-t)<=33*33:=Int.mul_le_mul (by omega) (by omega) (by omega) (by omega)
 omega
theorem ZQg(j:Jet)(t:Int):G135 (j,t,())=some (ht j t,()):=by
 unfold G135 F135 G225 F225 ht
 dsimp only
 rw[show G218 (j,())=some (ZAk j,())from jetI j,ZHj]
 simp only[al_bind_some]
 cases hj:ZAk j
 ·rw[al_if_neg (by simp)];rfl
 ·have hf:fl j=j.Lift+1:=by unfold fl;rw[al_if_pos hj]
  simp only[al_cond_true,al_bind_some,hf]
  rw[show G121 (t,0,j.Lift+1,())=some (wi t 0 (j.Lift+1),())from ZA9 _ _ _]
  simp only[al_bind_some]
  have J:=(ZBk hj).l
  cases hw:wi t 0 (j.Lift+1)
  ·rw[al_if_neg (by intro h;rw[ZAZ h.2.1 h.2.2]at hw;cases hw)];rfl
  ·have hb:=ZAj.1 hw
   have hs:=ZQf J.1 J.2 hb.1 hb.2
   rw[al_if_pos ⟨by trivial,hb.1,hb.2⟩]
   simp only[ZAG,al_cond_false]
   rw[ZAC (n:=j.Lift+1) (by omega) (by omega),ZAC (n:=j.Lift+1-t) (by omega) (by omega),ZAC]
theorem ZJI(j:Jet)(t:Int):G352 (j,t,())=some (ht j t,()):=by
 unfold G352 F352 ht
 dsimp only
 rw[ZFT]
 simp only[al_bind_some]
 by_cases hg:t>fl j
 ·rw[ZA hg,al_if_neg ?_]
  rintro ⟨hj,_,h2⟩
  unfold fl at hg;rw[al_if_pos hj]at hg;omega
 ·rw[ZAA hg]
  by_cases h0:t<=0
  ·have e:ZAD (s352_0 G311) fuel (t,j,0,0,()) (λt3=>some (t3.2.2.1,()))=some (0,()):=by
    obtain⟨n,hn⟩:=ZB0 1 (by omega)
    rw[hn,ZAS]
    simp only[s352_0]
    rw[ZAA]
   rw[e]
   split
   ·rename_i h
    have:t=0:=by omega
    subst this;simp
   ·rfl
  ·have hj:ZAk j=true:=by
    unfold fl at hg
    by_cases hj:ZAk j=true
    ·exact hj
    ·rw[al_if_neg hj]at hg;omega
   have hf:fl j=j.Lift+1:=by unfold fl;rw[al_if_pos hj]
   have J:=(ZBk hj).l
   rw[hf]at hg
   rw[al_if_pos ⟨hj,by omega,by omega⟩]
   obtain⟨n,rfl⟩:=Int.eq_ofNat_of_zero_le (show 0<=t by omega)
   have e0:((0:Nat):Int)*(j.Lift+1-((0:Nat):Int))=0:=by simp
   have key:=ZAU (f:=s352_0 G311) (K:=λt3=>some (t3.2.2.1,())) (λi=>((n:Int),j,(i:Int)*(j.Lift+1-(i:Int)),(i:Int),())) n (by omega) ?_ ?_
   ·simp only[e0]at key
    exact key
   ·intro i hi rec K
    have e1:w64 ((i:Int)+1)=((i+1:Nat):Int):=ZAC
    have hs:=ZQf J.1 J.2 (t:=(i:Int)) (by omega) (by omega)
    have hnx:((i+1:Nat):Int)*(j.Lift+1-((i+1:Nat):Int))=(i:Int)*(j.Lift+1-(i:Int))+j.Lift-2*(i:Int):=by
     simp only[Int.natCast_add,Int.natCast_one,Int.add_mul,Int.mul_sub,Int.mul_add,Int.sub_mul,Int.mul_one,Int.one_mul]
     omega
    simp only[s352_0]
    rw[ZA,e1,hnx]
    rw[ZAC (n:=(i:Int)*(j.Lift+1-(i:Int))+j.Lift) (by omega) (by omega),ZAC (n:=2*(i:Int)) (by omega) (by omega),ZAC]
   ·intro rec K
    simp only[s352_0]
    rw[ZAA]
def pk(j:Jet):Int:=ht j (fl j/2)
theorem ZC3(j:Jet):0<=fl j/\fl j<=33:=by
 unfold fl
 by_cases hj:ZAk j=true
 ·have J:=(ZBk hj).l
  rw[al_if_pos hj];omega
 ·rw[al_if_neg hj];omega
theorem ZWS(j:Jet):G60 (j,())=some (fl j/2,pk j,()):=by
 have hb:=ZC3 j
 unfold G60 F60 pk
 dsimp only
 rw[ZHj]
 simp only[al_bind_some]
 rw[Int.tdiv_eq_ediv_of_nonneg hb.1,ZAC,ZQg]
 rfl
theorem ZWT{j:Jet}(hj:ZAk j=true){t:Int}(h1:1<=t)(h2:t<=fl j/2):ht j t>ht j (t-1):=by
 have hf:fl j=j.Lift+1:=by unfold fl;rw[al_if_pos hj]
 have J:=(ZBk hj).l
 rw[hf]at h2
 unfold ht
 rw[al_if_pos ⟨hj,by omega,by omega⟩,al_if_pos ⟨hj,by omega,by omega⟩]
 have:t*(j.Lift+1-t)=(t-1)*(j.Lift+1-(t-1))+(j.Lift+2-2*t):=by
  simp only[Int.sub_mul,Int.mul_sub,Int.mul_add,Int.mul_one,Int.one_mul]
  omega
 omega
theorem ZWU{j:Jet}(hj:ZAk j=true){t:Int}(h1:fl j/2<=t)(h2:t<=fl j):ht j t<=pk j:=by
 have hf:fl j=j.Lift+1:=by unfold fl;rw[al_if_pos hj]
 have J:=(ZBk hj).l
 unfold pk
 rw[hf]at h1 h2⊢
 unfold ht
 rw[al_if_pos ⟨hj,by omega,by omega⟩,al_if_pos ⟨hj,by omega,by omega⟩]
 generalize hm:(j.Lift+1)/2=m at h1
 have hm2:j.Lift+1<=2*m+1/\2*m<=j.Lift+1:=by omega
 by_cases e:t=m
 ·subst e;exact Int.le_refl _
 ·have:=Int.mul_nonneg (show 0<=t-m by omega) (show 0<=t+m-(j.Lift+1)by omega)
  have e2:(t-m)*(t+m-(j.Lift+1))=m*(j.Lift+1-m) -t*(j.Lift+1-t):=by
   simp only[Int.sub_mul,Int.mul_sub,Int.mul_add,Int.mul_one]
   have:=Int.mul_comm m t
   omega
  omega
theorem ZWV(j:Jet):G312 (j,())=some (fl j/2,pk j,()):=by
 have hb:=ZC3 j
 obtain⟨n,hn⟩:=Int.eq_ofNat_of_zero_le hb.1
 unfold G312 F312
 have key:=ZAU (f:=s312_0 G311 G352) (K:=λt5=>(G352 (t5.1,t5.2.1,())).bind λx6=>some (t5.2.1,x6.1,())) (λi=>(j,(min (i:Int) (fl j/2)),((i+1:Nat):Int),())) n (by omega)
  (by
   intro i hi rec K
   have e1:w64 (((i+1:Nat):Int)+1)=((i+1+1:Nat):Int):=ZAC
   have hj:ZAk j=true:=by
    unfold fl at hn
    by_cases hj:ZAk j=true
    ·exact hj
    ·rw[al_if_neg hj]at hn;omega
   simp only[s312_0,ZFT,al_bind_some]
   rw[ZA,ZJI,ZJI,e1]
   simp only[al_bind_some]
   by_cases hc:((i+1:Nat):Int)<=fl j/2
   ·have hu:=ZWT hj (by omega) hc
    have em:min (i:Int) (fl j/2)=((i+1:Nat):Int) -1:=by omega
    have em2:min ((i+1:Nat):Int) (fl j/2)=((i+1:Nat):Int):=by omega
    rw[em,em2,ZA hu]
   ·have em:min (i:Int) (fl j/2)=fl j/2:=by omega
    have em2:min ((i+1:Nat):Int) (fl j/2)=fl j/2:=by omega
    have hu:=ZWU hj (t:=((i+1:Nat):Int)) (by omega) (by omega)
    unfold pk at hu
    rw[em,em2,ZAA])
  (by
   intro rec K
   simp only[s312_0,ZFT,al_bind_some]
   rw[ZAA])
 have e0:min (((0:Nat):Nat):Int) (fl j/2)=0:=by omega
 have en:min (n:Int) (fl j/2)=fl j/2:=by omega
 simp only[e0,en]at key
 rw[ZJI]at key
 exact key
def ZHk(a:Int)(x:Throw):Int:=mx a (pk x.jet)
theorem ZL5(l:List Throw)(hl:l.length<=1048576):ZAD (s22_0 G59 G60) fuel (0,l,Int.ofNat l.length,0,()) (λt4=>some (t4.1,()))=some (l.foldl ZHk 0,()):=by
 refine(ZAU (f:=s22_0 G59 G60) (K:=λt4=>some (t4.1,())) (λi=>((l.take i).foldl ZHk 0,l,Int.ofNat l.length,(i:Int),())) l.length (by omega) ?_ ?_).trans (by simp)
 ·intro i hi rec K
  have hx:l[i]?=some l[i]:=by simp
  have hx':=λ(K:Throw->Option (Int×Unit))=>ZAF (K:=K) hx
  have e1:w64 ((i:Int)+1)=((i+1:Nat):Int):=ZAC
  rw[ZB6 _ _ l i hi]
  simp only[s22_0]
  rw[ZA]
  simp only[hx',hx,ZAW,al_bind_some,e1,ZWS]
  rfl
 ·intro rec K
  simp only[s22_0]
  rw[ZAA]
theorem ZWW(a b:Int):G313 (a,b,())=some (mx a b,()):=by
 unfold G313 F313
 dsimp only
 rw[ZGC]
 by_cases h:a>b
 ·rw[ZA h,al_if_neg]
 ·rw[ZAA h]
  split
  ·rfl
  ·have:a=b:=by omega
   subst this;rfl
theorem ZWX(l:List Throw)(hl:l.length<=1048576):ZAD (s239_0 G140 G309 G312 G313) fuel (0,l,Int.ofNat l.length,0,()) (λt4=>some (t4.1,()))=some (l.foldl ZHk 0,()):=by
 refine(ZAU (f:=s239_0 G140 G309 G312 G313) (K:=λt4=>some (t4.1,())) (λi=>((l.take i).foldl ZHk 0,l,Int.ofNat l.length,(i:Int),())) l.length (by omega) ?_ ?_).trans (by simp)
 ·intro i hi rec K
  have hx:l[i]?=some l[i]:=by simp
  have hx':=λ(K:Throw->Option (Int×Unit))=>ZAF (K:=K) hx
  have e1:w64 ((i:Int)+1)=((i+1:Nat):Int):=ZAC
  rw[ZB6 _ _ l i hi]
  simp only[s239_0]
  rw[ZA]
  simp only[hx',hx,ZAW,al_bind_some,e1,ZWV,ZWW]
  rfl
 ·intro rec K
  simp only[s239_0]
  rw[ZAA]
theorem ZWY(s:ZAM)(h:ShowOK s): ∃v,G239 (s,())=some (v,())/\G22 (s,())=some (v,()):=by
 unfold G239 F239 G22 F22
 try simp only[ZBI]
 rw[ZCd s h]
 cases hb:ZA5 s
 ·rw[ZHi h hb]
  exact⟨0,rfl,ZL5 [] (by simp)⟩
 ·have hv:=ZD3 h hb
  have hl:(ZAO s).length<=1048576:=Nat.le_trans (ZB5 hv) (by decide)
  rw[ZDn hv]
  simp only[al_bind_some,ZAG,al_cond_false]
  rw[ZFR hv]
  exact⟨_,ZWX _ hl,ZL5 _ hl⟩
end Ev
end
noncomputable section
namespace Ev
open Go
def drF(t:Int)(p:Place)(g:Gust):Place:=if g.From<=t then g.Drift else p
def drL(w:List Gust)(t:Int):Place:=w.foldl (drF t) ⟨0,0⟩
theorem ZL6(w:List Gust)(hl:w.length<=1048576)(t:Int):G325 (w,t,())=some (drL w t,()):=by
 unfold G325 F325 drL
 refine(ZAU (f:=s325_0) (K:=λt5=>some (t5.2.2.1,())) (λi=>(t,⟨0,0⟩,(w.take i).foldl (drF t) ⟨0,0⟩,w,Int.ofNat w.length,(i:Int),())) w.length (by omega) ?_ ?_).trans (by simp)
 ·intro i hi rec K
  have hx:w[i]?=some w[i]:=by simp
  have e1:w64 ((i:Int)+1)=((i+1:Nat):Int):=ZAC
  rw[ZB6 _ _ w i hi]
  simp only[s325_0]
  rw[ZA,ZAF hx,e1]
  unfold drF
  by_cases hc:w[i].From<=t
  ·rw[ZA hc,al_if_pos hc]
  ·rw[ZAA hc,al_if_neg hc]
 ·intro rec K
  simp only[s325_0]
  rw[ZAA]
theorem ZQh(w:List Gust)(hl:w.length<=1048576)(hv:wdB w=true)(t:Int):G291 (w,t,())=some (drL w t,()):=by
 unfold G291 F291 drL
 dsimp only
 rw[ZFO w hl,hv]
 simp only[al_bind_some,ZAG,al_cond_false]
 refine(ZAU (f:=s291_0 G120) (K:=λt5=>some (t5.2.2.1,())) (λi=>(t,⟨0,0⟩,(w.take i).foldl (drF t) ⟨0,0⟩,w,Int.ofNat w.length,(i:Int),())) w.length (by omega) ?_ ?_).trans (by simp)
 ·intro i hi rec K
  have hx:w[i]?=some w[i]:=by simp
  have e1:w64 ((i:Int)+1)=((i+1:Nat):Int):=ZAC
  rw[ZB6 _ _ w i hi]
  simp only[s291_0]
  rw[ZA,ZAF hx,e1]
  unfold drF
  by_cases hc:w[i].From<=t
  ·rw[ZA hc,al_if_pos hc]
  ·rw[ZAA hc,al_if_neg hc]
 ·intro rec K
  simp only[s291_0]
  rw[ZAA]
def plus(p q:Place):Place:=⟨w64 (p.X+q.X),w64 (p.Y+q.Y)⟩
def ZGO(w:List Gust)(a:Int):Nat->Place
 | 0=>⟨0,0⟩
 | n+1=>plus (ZGO w a n) (drL w (a+(n:Int)))
theorem ZHl(p q:Place):G317 (p,q,())=some (plus p q,()):=rfl
theorem ZWZ(w:List Gust)(hl:w.length<=1048576)(hv:wdB w=true){a b:Int}{n:Nat}(ha:0<=a)(hb:b=a+(n:Int))(hm:b<=128):G350 (w,a,b,())=some (ZGO w a n,true,()):=by
 subst hb
 unfold G350 F350
 dsimp only
 rw[ZJB w hl,hv]
 simp only[al_bind_some,ZA4]
 rw[ZAE (show¬a<0 by omega),ZAE (show¬a+(n:Int)<a by omega),ZAA]
 simp only[ZAK,al_cond_true]
 have key:=ZAU (f:=s350_0 G232 G325 G317) (K:=λt5=>some (t5.2.2.2.1,true,())) (λi=>(w,a+(n:Int),⟨0,0⟩,ZGO w a i,a+(i:Int),())) n (by omega)
  (by
   intro i hi rec K
   have e1:w64 (a+(i:Int)+1)=a+((i+1:Nat):Int):=by rw[ZAC];omega
   simp only[s350_0]
   rw[ZA,ZL6 w hl,e1]
   simp only[al_bind_some,ZHl]
   rfl)
  (by
   intro rec K
   simp only[s350_0]
   rw[ZAA])
 have ea:a+((0:Nat):Int)=a:=by omega
 simp only[ea]at key
 exact key
theorem ZWa(w:List Gust)(hl:w.length<=1048576)(hv:wdB w=true){a b:Int}{n:Nat}(ha:0<=a)(hb:b=a+(n:Int))(hm:b<=128):G300 (w,a,b,())=some (ZGO w a n,true,()):=by
 subst hb
 unfold G300 F300
 dsimp only
 rw[ZFO w hl,hv]
 simp only[al_bind_some,ZA4]
 rw[ZAE (show¬a<0 by omega),ZAE (show¬a+(n:Int)<a by omega),ZAA]
 simp only[ZAK,al_cond_true]
 have key:=ZAU (f:=s300_0 G120 G291) (K:=λt5=>some (t5.2.2.2.1,true,())) (λi=>(w,a+(n:Int),⟨0,0⟩,ZGO w a i,a+(i:Int),())) n (by omega)
  (by
   intro i hi rec K
   have e1:w64 (a+(i:Int)+1)=a+((i+1:Nat):Int):=by rw[ZAC];omega
   simp only[s300_0]
   rw[ZA,ZQh w hl hv,e1]
   simp only[al_bind_some]
   rfl)
  (by
   intro rec K
   simp only[s300_0]
   rw[ZAA])
 have ea:a+((0:Nat):Int)=a:=by omega
 simp only[ea]at key
 exact key
def ZB7(j:Jet)(t:Int):Place:=⟨w64 (j.At.X+(rotN j.Heading.toNat ⟨w64 (t*j.Tilt),0⟩).X),w64 (j.At.Y+(rotN j.Heading.toNat ⟨w64 (t*j.Tilt),0⟩).Y)⟩
theorem ZL7{j:Jet}(J:JetOK j){t:Int}(h0:0<=t)(h1:t<=33):w64 (t*j.Tilt)=t*j.Tilt/\0<=t*j.Tilt/\t*j.Tilt<=528:=by
 have ht:=J.t
 have a:0<=t*j.Tilt:=Int.mul_nonneg h0 ht.1
 have b:t*j.Tilt<=33*16:=Int.mul_le_mul h1 ht.2 ht.1 (by omega)
 exact⟨ZAC,a,by omega⟩
theorem ZL8{j:Jet}(J:JetOK j){t:Int}(h0:0<=t)(h1:t<=33):(-1552<=(ZB7 j t).X/\(ZB7 j t).X<=1552/\ -1552<=(ZB7 j t).Y/\(ZB7 j t).Y<=1552)/\(ZB7 j t).X=j.At.X+(rotN j.Heading.toNat ⟨t*j.Tilt,0⟩).X/\(ZB7 j t).Y=j.At.Y+(rotN j.Heading.toNat ⟨t*j.Tilt,0⟩).Y:=by
 obtain⟨e,h2,h3⟩:=ZL7 J h0 h1
 have hh:=J.h;have hx:=J.x;have hy:=J.y
 obtain⟨b1,b2,b3,b4⟩:=ZPm (t*j.Tilt) 528 h2 h3 (by omega) j.Heading.toNat (by omega)
 unfold ZB7
 rw[e]
 simp only
 rw[ZAC,ZAC]
 omega
theorem ZWb{j:Jet}(J:JetOK j)(t:Int):G351 (j,t,())=some (ZB7 j t,()):=by
 unfold G351 F351
 have hk:j.Heading.toNat<4:=by have:=J.h;omega
 have hh:(j.Heading.toNat:Int)=j.Heading:=by have:=J.h;omega
 have:=ZPk ⟨w64 (t*j.Tilt),0⟩ j.Heading.toNat hk
 rw[hh]at this
 have this:G355 (⟨w64 (t*j.Tilt),0⟩,j.Heading,())=_:=this
 simp only[this,al_bind_some,ZHl]
 rfl
theorem ZWc{j:Jet}(h:ZAk j=true){t:Int}(h0:0<=t)(h1:t<=fl j):G217 (j,t,())=some (ZB7 j t,true,()):=by
 unfold G217 F217 G225 F225
 have J:=ZBk h
 have hl:=J.l;have hx:=J.x;have hy:=J.y
 have hf:fl j=j.Lift+1:=by unfold fl;rw[al_if_pos h]
 have hjI:G218 (j,())=some (ZAk j,()):=jetI j
 have hfI:G126 (j,())=some (fl j,()):=flI j
 have hwI: ∀a b c:Int,G121 (a,b,c,())=some (wi a b c,()):=ZA9
 simp only[hjI,h,al_bind_some,al_cond_true,hfI,hwI,ZAZ h0 h1,ZAG,al_cond_false]
 obtain⟨e,h2,h3⟩:=ZL7 J h0 (by omega)
 obtain⟨lb,lx,ly⟩:=ZL8 J h0 (show t<=33 by omega)
 unfold G303 F303
 have hk:j.Heading.toNat<4:=by have:=J.h;omega
 have hh:(j.Heading.toNat:Int)=j.Heading:=by have:=J.h;omega
 have ht:=ZPl ⟨w64 (t*j.Tilt),0⟩ j.Heading.toNat hk
 rw[hh]at ht
 have ht:G220 (⟨w64 (t*j.Tilt),0⟩,j.Heading,())=_:=ht
 have p1:isPl j.At=true:=by unfold isPl;rw[ZAZ (by omega) (by omega),ZAZ (by omega) (by omega)];rfl
 have p2:wi j.Heading 0 3=true:=ZAZ J.h.1 J.h.2
 have p3:wi (w64 (t*j.Tilt)) (-4096) 4096=true:=by rw[e];exact ZAZ (by omega) (by omega)
 have p4:isPl (ZB7 j t)=true:=by unfold isPl;rw[ZAZ (by omega) (by omega),ZAZ (by omega) (by omega)];rfl
 have p5:G343 (ZB7 j t,())=some (ZB7 j t,true,()):=by
  have hp:G124 (ZB7 j t,())=some (isPl (ZB7 j t),()):=ZB1 _
  unfold G343 F343
  simp only[hp,p4,al_bind_some]
  rfl
 have q1:G124 (j.At,())=some (isPl j.At,()):=ZB1 _
 have q2:G219 (j.Heading,())=some (wi j.Heading 0 3,()):=ZHU _
 have q3:G57 (w64 (t*j.Tilt),())=some (wi (w64 (t*j.Tilt)) (-4096) 4096,()):=ZGH _
 simp only[q1,q2,q3,p1,p2,p3,ht,al_bind_some,ZA4]
 have p6:(⟨w64 (j.At.X+(rotN j.Heading.toNat ⟨w64 (t*j.Tilt),0⟩).X),w64 (j.At.Y+(rotN j.Heading.toNat ⟨w64 (t*j.Tilt),0⟩).Y)⟩:Place)=ZB7 j t:=rfl
 rw[p6,p5]
 rfl
def ZJJ(w:List Gust)(x:Throw)(n:Nat):Drop:=⟨x.name,x.born,plus (ZB7 x.jet (n:Int)) (ZGO w x.born n),ht x.jet (n:Int)⟩
structure FliesP(x:Throw):Prop where
 born:0<=x.born/\x.born<64
 jet:ZAk x.jet=true
theorem ZGP{s:ZAM}(h:ShowV s){x:Throw}(hx:x∈ZAO s):FliesP x:=by
 have:=ZFS h hx
 have ht:=h.tick
 exact⟨⟨this.born.1,by have:=this.born.2;omega⟩,this.jet⟩
theorem ZQi{w:List Gust}(hl:w.length<=1048576)(hv:wdB w=true){x:Throw}(h:FliesP x){t:Int}{n:Nat}(ht:t=x.born+(n:Int))(hn:(n:Int)<=fl x.jet):G212 (x,w,t,())=some (ZJJ w x n,()):=by
 have hb:=ZC3 x.jet
 have hx:=h.born
 have e1:w64 (t-x.born)=(n:Int):=by rw[ZAC];omega
 unfold G212 F212
 dsimp only
 rw[e1,ZWc h.jet (by omega) hn]
 simp only[al_bind_some]
 rw[ZWa w hl hv hx.1 ht (by omega)]
 simp only[al_bind_some,ZQg]
 rfl
theorem ZQj{s:ZAM}(hl:s.2.2.1.length<=1048576)(hv:wdB s.2.2.1=true){x:Throw}(h:FliesP x){t:Int}{n:Nat}(ht:t=x.born+(n:Int))(hn:(n:Int)<=fl x.jet):G310 (s,x,t,())=some (ZJJ s.2.2.1 x n,()):=by
 have hb:=ZC3 x.jet
 have hx:=h.born
 have e1:w64 (t-x.born)=(n:Int):=by rw[ZAC];omega
 unfold G310 F310
 dsimp only
 rw[ZWZ s.2.2.1 hl hv hx.1 ht (by omega)]
 simp only[al_bind_some]
 rw[e1,ZWb (ZBk h.jet)]
 simp only[al_bind_some,ZJI,ZHl]
 rfl
end Ev
namespace Ev
open Go
def nowF(w:List Gust)(t:Int)(a:List Drop)(x:Throw):List Drop:=if x.born<=t/\t<x.born+fl x.jet then a++[ZJJ w x (t-x.born).toNat]else a
theorem ZJK(w:List Gust)(t:Int): ∀(l:List Throw) (a:List Drop),(l.foldl (nowF w t) a).length<=a.length+l.length
 | [],a=>by simp
 | d::l,a=>by
  have:=ZJK w t l (nowF w t a d)
  have h1:(nowF w t a d).length<=a.length+1:=by unfold nowF;split<;>simp
  simp only[List.foldl_cons,al_len_cons]
  omega
def nowL(s:ZAM)(t:Int):List Drop:=(ZAO s).foldl (nowF s.2.2.1 t) []
def allF(w:List Gust)(a:List Drop)(x:Throw):List Drop:=a++[ZJJ w x (fl x.jet).toNat]
def ZDV(s:ZAM):List Drop:=(ZAO s).foldl (allF s.2.2.1) []
theorem ZJL(w:List Gust): ∀(l:List Throw) (a:List Drop),(l.foldl (allF w) a).length=a.length+l.length
 | [],a=>by simp
 | d::l,a=>by
  have:=ZJL w l (allF w a d)
  simp only[List.foldl_cons,al_len_cons,this]
  unfold allF;simp;omega
theorem ZHm{x:Throw}(h:FliesP x):w64 (x.born+fl x.jet)=x.born+fl x.jet:=by
 have:=h.born;have:=ZC3 x.jet
 exact ZAC
section
variable {s:ZAM} (h:ShowV s)
include h
theorem ZQk(t:Int):(nowL s t).length<=512:=by
 have:=ZJK s.2.2.1 t (ZAO s) []
 have:=ZB5 h
 unfold nowL
 simp at*;omega
omit h in
theorem ZL9:(ZDV s).length=(ZAO s).length:=by
 unfold ZDV
 rw[ZJL];simp
theorem ZJM:wdB s.2.2.1=true/\s.2.2.1.length<=1048576:=⟨h.wind,h.ok.wind⟩
theorem ZWd(t:Int):G255 (s,t,())=some (nowL s t,()):=by
 have hlen:=ZB5 h
 obtain⟨hv,hw⟩:=ZJM h
 unfold G255 F255 nowL
 try simp only[ZBI]
 rw[ZCd s h.ok,ZEi h]
 simp only[al_bind_some,ZAG,al_cond_false]
 rw[ZFR h]
 simp only[al_bind_some]
 refine(ZAU (f:=s255_0 G140 G309 G311 G310) (K:=λt6=>some (t6.2.2.1,())) (λi=>(t,s,((ZAO s).take i).foldl (nowF s.2.2.1 t) [],ZAO s,Int.ofNat (ZAO s).length,(i:Int),())) (ZAO s).length (by omega) ?_ ?_).trans (by simp)
 ·intro i hi rec K
  have hx:(ZAO s)[i]?=some (ZAO s)[i]:=by simp
  have hf:=ZGP h (show(ZAO s)[i]∈ZAO s by simp)
  have hn:=ZJK s.2.2.1 t ((ZAO s).take i) []
  have hb:=ZC3 (ZAO s)[i].jet
  have e1:w64 ((i:Int)+1)=((i+1:Nat):Int):=ZAC
  rw[ZB6 _ _ (ZAO s) i hi]
  generalize ((ZAO s).take i).foldl (nowF s.2.2.1 t) []=acc at hn⊢
  unfold nowF
  simp only[s255_0,ZBI]
  have hx':=λ(K:Throw->Option (List Drop×Unit))=>ZAF (K:=K) hx
  rw[ZA]
  simp only[hx',hx,ZAW,e1]
  simp only[ZFT,al_bind_some,ZHm hf]
  by_cases c1:t>=(ZAO s)[i].born
  ·rw[ZA c1]
   by_cases c2:t<(ZAO s)[i].born+fl (ZAO s)[i].jet
   ·rw[ZA c2,al_if_pos ⟨c1,c2⟩,ZQj hw hv hf (n:=(t-(ZAO s)[i].born).toNat) (by omega) (by omega)]
    simp only[al_bind_some]
    rw[ZAB (by simp at hn⊢;omega)]
   ·rw[ZAA c2,al_if_neg]
  ·rw[ZAA c1,al_if_neg]
 ·intro rec K
  simp only[s255_0]
  rw[ZAA]
theorem ZWe(t:Int):G113 (s,t,())=some (nowL s t,()):=by
 have hlen:=ZB5 h
 obtain⟨hv,hw⟩:=ZJM h
 unfold G113 F113 nowL
 try simp only[ZBI]
 rw[ZDn h]
 simp only[al_bind_some]
 refine(ZAU (f:=s113_0 G59 G211 G212) (K:=λt6=>some (t6.2.2.1,())) (λi=>(t,s,((ZAO s).take i).foldl (nowF s.2.2.1 t) [],ZAO s,Int.ofNat (ZAO s).length,(i:Int),())) (ZAO s).length (by omega) ?_ ?_).trans (by simp)
 ·intro i hi rec K
  have hx:(ZAO s)[i]?=some (ZAO s)[i]:=by simp
  have hf:=ZGP h (show(ZAO s)[i]∈ZAO s by simp)
  have hn:=ZJK s.2.2.1 t ((ZAO s).take i) []
  have hb:=ZC3 (ZAO s)[i].jet
  have e1:w64 ((i:Int)+1)=((i+1:Nat):Int):=ZAC
  rw[ZB6 _ _ (ZAO s) i hi]
  generalize ((ZAO s).take i).foldl (nowF s.2.2.1 t) []=acc at hn⊢
  unfold nowF
  simp only[s113_0,ZBI]
  have hx':=λ(K:Throw->Option (List Drop×Unit))=>ZAF (K:=K) hx
  rw[ZA]
  simp only[hx',hx,ZAW,e1]
  simp only[ZL3,al_bind_some,ZHm hf]
  by_cases c1:(ZAO s)[i].born<=t
  ·rw[ZA c1]
   by_cases c2:t<(ZAO s)[i].born+fl (ZAO s)[i].jet
   ·rw[ZA c2,al_if_pos ⟨c1,c2⟩,ZQi hw hv hf (n:=(t-(ZAO s)[i].born).toNat) (by omega) (by omega)]
    simp only[al_bind_some]
    rw[ZAB (by simp at hn⊢;omega)]
   ·rw[ZAA c2,al_if_neg]
  ·rw[ZAA c1,al_if_neg]
 ·intro rec K
  simp only[s113_0]
  rw[ZAA]
theorem ZQl:G238 (s,())=some (ZDV s,()):=by
 have hlen:=ZB5 h
 obtain⟨hv,hw⟩:=ZJM h
 unfold G238 F238 ZDV
 try simp only[ZBI]
 rw[ZCd s h.ok,ZEi h]
 simp only[al_bind_some,ZAG,al_cond_false]
 rw[ZFR h]
 simp only[al_bind_some]
 refine(ZAU (f:=s238_0 G140 G309 G311 G310) (K:=λt6=>some (t6.2.1,())) (λi=>(s,((ZAO s).take i).foldl (allF s.2.2.1) [],ZAO s,Int.ofNat (ZAO s).length,(i:Int),())) (ZAO s).length (by omega) ?_ ?_).trans (by simp)
 ·intro i hi rec K
  have hx:(ZAO s)[i]?=some (ZAO s)[i]:=by simp
  have hf:=ZGP h (show(ZAO s)[i]∈ZAO s by simp)
  have hn:=ZJL s.2.2.1 ((ZAO s).take i) []
  have hb:=ZC3 (ZAO s)[i].jet
  have e1:w64 ((i:Int)+1)=((i+1:Nat):Int):=ZAC
  rw[ZB6 _ _ (ZAO s) i hi]
  generalize ((ZAO s).take i).foldl (allF s.2.2.1) []=acc at hn⊢
  unfold allF
  simp only[s238_0,ZBI]
  have hx':=λ(K:Throw->Option (List Drop×Unit))=>ZAF (K:=K) hx
  rw[ZA]
  simp only[hx',hx,ZAW,e1]
  simp only[ZFT,al_bind_some,ZHm hf]
  rw[ZQj hw hv hf (n:=(fl (ZAO s)[i].jet).toNat) (by omega) (by omega)]
  simp only[al_bind_some]
  rw[ZAB (by simp at hn⊢;omega)]
 ·intro rec K
  simp only[s238_0]
  rw[ZAA]
theorem ZQm:G114 (s,())=some (ZDV s,()):=by
 have hlen:=ZB5 h
 obtain⟨hv,hw⟩:=ZJM h
 unfold G114 F114 ZDV
 try simp only[ZBI]
 rw[ZDn h]
 simp only[al_bind_some]
 refine(ZAU (f:=s114_0 G59 G211 G212) (K:=λt6=>some (t6.2.1,())) (λi=>(s,((ZAO s).take i).foldl (allF s.2.2.1) [],ZAO s,Int.ofNat (ZAO s).length,(i:Int),())) (ZAO s).length (by omega) ?_ ?_).trans (by simp)
 ·intro i hi rec K
  have hx:(ZAO s)[i]?=some (ZAO s)[i]:=by simp
  have hf:=ZGP h (show(ZAO s)[i]∈ZAO s by simp)
  have hn:=ZJL s.2.2.1 ((ZAO s).take i) []
  have hb:=ZC3 (ZAO s)[i].jet
  have e1:w64 ((i:Int)+1)=((i+1:Nat):Int):=ZAC
  rw[ZB6 _ _ (ZAO s) i hi]
  generalize ((ZAO s).take i).foldl (allF s.2.2.1) []=acc at hn⊢
  unfold allF
  simp only[s114_0,ZBI]
  have hx':=λ(K:Throw->Option (List Drop×Unit))=>ZAF (K:=K) hx
  rw[ZA]
  simp only[hx',hx,ZAW,e1]
  simp only[ZL3,al_bind_some,ZHm hf]
  rw[ZQi hw hv hf (n:=(fl (ZAO s)[i].jet).toNat) (by omega) (by omega)]
  simp only[al_bind_some]
  rw[ZAB (by simp at hn⊢;omega)]
 ·intro rec K
  simp only[s114_0]
  rw[ZAA]
end
theorem ZWf(s:ZAM)(h:ShowOK s): ∃L,G238 (s,())=some (L,())/\G114 (s,())=some (L,())/\L.length<=512:=by
 cases hb:ZA5 s
 ·refine⟨[],?_,?_,by simp⟩
  ·unfold G238 F238
   try simp only[ZBI]
   rw[ZCd s h,hb];rfl
  ·unfold G114 F114
   try simp only[ZBI]
   rw[ZHi h hb]
   simp only[al_bind_some]
   obtain⟨n,hn⟩:=ZB0 5 (by omega)
   rw[hn];rfl
 ·have hv:=ZD3 h hb
  exact⟨_,ZQl hv,ZQm hv,by rw[ZL9];exact ZB5 hv⟩
end Ev
namespace Ev
open Go
def isBx(b:Box):Bool:=isPl b.Low && (isPl b.High && (decide (b.Low.X<=b.High.X) && decide (b.Low.Y<=b.High.Y)))
abbrev gBxS:=F142 gPlS
abbrev gBx:=F52 gPl
theorem bxS(b:Box):gBxS (b,())=some (isBx b,()):=by
 unfold gBxS F142 isBx
 simp only[ZDz,al_bind_some]
 cases isPl b.Low<;>cases isPl b.High<;>cases decide (b.Low.X<=b.High.X)<;>rfl
theorem bxI(b:Box):gBx (b,())=some (isBx b,()):=by
 unfold gBx F52 isBx
 simp only[ZB1,al_bind_some]
 cases isPl b.Low<;>cases isPl b.High<;>cases decide (b.Low.X<=b.High.X)<;>rfl
def inBx(b:Box)(p:Place):Bool:=isBx b && (wi p.X b.Low.X b.High.X && wi p.Y b.Low.Y b.High.Y)
abbrev gInS:=F320 gBxS
abbrev gInI:=F130 gBx gW
theorem inS(b:Box)(p:Place):gInS (b,p,())=some (inBx b p,()):=by
 unfold gInS F320 inBx wi
 simp only[bxS,al_bind_some,ge_iff_le]
 cases isBx b<;>cases decide (b.Low.X<=p.X)<;>cases decide (p.X<=b.High.X)<;>cases decide (b.Low.Y<=p.Y)<;>rfl
theorem inI(b:Box)(p:Place):gInI (b,p,())=some (inBx b p,()):=by
 unfold gInI F130 inBx
 simp only[bxI,ZA9,al_bind_some]
 cases isBx b<;>cases wi p.X b.Low.X b.High.X<;>rfl
def isIn(b c:Box):Bool:=inBx c b.Low && inBx c b.High
abbrev gWtS:=F349 gInS
abbrev gWt:=F294 gInI
theorem wtS(b c:Box):gWtS (b,c,())=some (isIn b c,()):=by
 unfold gWtS F349 isIn
 simp only[inS,al_bind_some]
 cases inBx c b.Low<;>rfl
theorem wtI(b c:Box):gWt (b,c,())=some (isIn b c,()):=by
 unfold gWt F294 isIn
 simp only[inI,al_bind_some]
 cases inBx c b.Low<;>rfl
theorem ZQn{b c:Box}(h:isBx c=false):isIn b c=false:=by
 unfold isIn inBx;rw[h];rfl
abbrev ZQo:=F308 ZDj gBxS F348 gLBS gWtS
abbrev gLim:=F208 gDev gLB gWt
def lbB(d:Device)(r:List Place)(c:Box)(x:Int):Bool:=match gLB ((⟨⟨d.At.X,d.At.Y⟩,d.Heading,d.Tilt,x⟩:Jet),r,())with
 | some (B,b,_)=>b && isIn B c
 | none=>false
structure LimP(d:Device)(r:List Place)(c:Box)(v:Int):Prop where
 range:0<=v/\v<=d.Most
 below: ∀x:Int,1<=x->x<=v->lbB d r c x=true
 next:v<d.Most->lbB d r c (v+1)=false
theorem ZWg(d:Device)(r:List Place)(c:Box)(h1:d.Name.length<=1048576)(h2:d.Line.length<=1048576)(hr:r.length<=1048576): ∃v,ZQo (d,r,c,())=some (v,())/\gLim (d,r,c,())=some (v,())/\((devB d=true/\d.Kind=2/\LimP d r c v)\/(¬(devB d=true/\d.Kind=2)/\v=0)):=by
 obtain⟨d1,d2⟩:=ZC1 d h1 h2
 have d3:devB d=true->d.Kind=2->0<=d.Most/\d.Most<=32:=λh k=>by
  unfold devB at h
  rw[al_if_neg,al_if_pos k]at h
  simp only[ZAJ]at h
  exact ZAj.1 h.2.2.2.2
 generalize devB d=b at d1 d2 d3
 unfold ZQo F308 gLim F208
 simp only[d2,al_bind_some]
 by_cases hgo:b=true/\d.Kind=2
 ·obtain⟨rfl,hk⟩:=hgo
  obtain⟨m0,m1⟩:=d3 rfl hk
  simp only[ZA4,hk,decide_true]
  have key: ∀(e i n:Nat),i+e=d.Most.toNat->e<n-> ∃v,
    ZAD (s308_0 ZDj gBxS F348 gLBS gWtS) n (r,d,c,(i:Int),((i+1:Nat):Int),()) (λt7=>some (t7.2.2.2.1,()))=some (v,())/\
    ZAD (s208_0 gDev gLB gWt) n (r,d,c,((i+1:Nat):Int),()) (λt5=>some (t5.2.1.Most,()))=some (v,())/\(i:Int)<=v/\v<=d.Most/\(∀x:Int,(i:Int)<x->x<=v->lbB d r c x=true)/\(v<d.Most->lbB d r c (v+1)=false):=by
   intro e
   induction e with
   | zero=>
    intro i n he hn
    obtain⟨n,rfl⟩: ∃k,n=k+1:=⟨n-1,by omega⟩
    refine⟨d.Most,?_,?_,by omega,by omega,λx h1 h2=>by omega,λh=>by omega⟩
    ·rw[ZAS];simp only[s308_0];rw[ZAA]
     have:(i:Int)=d.Most:=by omega
     rw[this]
    ·rw[ZAS];simp only[s208_0];rw[ZAA]
   | succ e ih=>
    intro i n he hn
    obtain⟨n,rfl⟩: ∃k,n=k+1:=⟨n-1,by omega⟩
    obtain⟨B,b,l1,l2⟩:=ZLc ⟨⟨d.At.X,d.At.Y⟩,d.Heading,d.Tilt,((i+1:Nat):Int)⟩ r hr
    have e1:w64 (((i+1:Nat):Int)+1)=((i+1+1:Nat):Int):=ZAC
    have e2:w64 (((i+1:Nat):Int) -1)=(i:Int):=by rw[ZAC];omega
    have hlb:lbB d r c ((i:Int)+1)=(b && isIn B c):=by
     have e3:(i:Int)+1=((i+1:Nat):Int):=by omega
     unfold lbB
     rw[e3,l2]
    obtain⟨v,g1,g2,g3,g4,g5,g6⟩:=ih (i+1) n (by omega) (by omega)
    by_cases hc:isBx c=true
    ·cases hb:b
     ·refine⟨(i:Int),?_,?_,by omega,by omega,λx h1 h2=>by omega,λ_=>by rw[hlb,hb];rfl⟩
      ·rw[ZAS];simp only[s308_0];rw[ZA]
       simp only[d1,al_bind_some,al_cond_true,hk,decide_true,bxS,hc,F348,l1,hb]
       rfl
      ·rw[ZAS];simp only[s208_0];rw[ZA]
       simp only[l2,hb,al_bind_some,e2]
       rfl
     ·cases hin:isIn B c
      ·refine⟨(i:Int),?_,?_,by omega,by omega,λx h1 h2=>by omega,λ_=>by rw[hlb,hb,hin];rfl⟩
       ·rw[ZAS];simp only[s308_0];rw[ZA]
        simp only[d1,al_bind_some,al_cond_true,hk,decide_true,bxS,hc,F348,l1,hb,wtS,hin]
        rfl
       ·rw[ZAS];simp only[s208_0];rw[ZA]
        simp only[l2,hb,al_bind_some,wtI,hin,e2]
        rfl
      ·refine⟨v,?_,?_,by omega,by omega,λx h1 h2=> ?_,g6⟩
       ·rw[ZAS];simp only[s308_0];rw[ZA]
        simp only[d1,al_bind_some,al_cond_true,hk,decide_true,bxS,hc,F348,l1,hb,wtS,hin,e1]
        exact g1
       ·rw[ZAS];simp only[s208_0];rw[ZA]
        simp only[l2,hb,al_bind_some,wtI,hin,e1]
        exact g2
       ·by_cases hx:x=(i:Int)+1
        ·rw[hx,hlb,hb,hin];rfl
        ·exact g5 x (by omega) h2
    ·have hc':isBx c=false:=by simpa using hc
     refine⟨(i:Int),?_,?_,by omega,by omega,λx h1 h2=>by omega,λ_=>by rw[hlb,ZQn hc',Bool.and_false]⟩
     ·rw[ZAS];simp only[s308_0];rw[ZA]
      simp only[d1,al_bind_some,al_cond_true,hk,decide_true,bxS,hc']
      rfl
     ·rw[ZAS];simp only[s208_0];rw[ZA]
      cases b<;>simp only[l2,al_bind_some,wtI,ZQn hc',e2]<;>rfl
  obtain⟨v,g1,g2,g3,g4,g5,g6⟩:=key d.Most.toNat 0 fuel (by omega) (by rw[ZBx];omega)
  exact⟨v,g1,g2,.inl ⟨by first | rfl | trivial,by first | exact hk | trivial,⟨by omega,g4⟩,λx h1 h2=>g5 x (by omega) h2,g6⟩⟩
 ·refine⟨0,?_,?_,.inr ⟨hgo,rfl⟩⟩
  ·rw[show fuel=(fuel-1)+1 by rw[ZBx],ZAS]
   simp only[s308_0,d1,al_bind_some]
   cases b with
   | false=>cases decide ((1:Int)<=d.Most)<;>rfl
   | true=>
    have hk: ¬d.Kind=2:=λh=>hgo ⟨rfl,h⟩
    rw[ZAE hk]
    cases decide ((1:Int)<=d.Most)<;>rfl
  ·cases b with
   | false=>rfl
   | true=>
    have hk: ¬d.Kind=2:=λh=>hgo ⟨rfl,h⟩
    rw[ZAE hk];rfl
end Ev
namespace Ev
open Go
theorem ZWh(b:Box)(p:Place):G320 (b,p,())=some (inBx b p,()):=inS b p
theorem ZWi(b:Box)(p:Place):G130 (b,p,())=some (inBx b p,()):=inI b p
theorem ZHn(b:Box):G142 (b,())=some (isBx b,()):=bxS b
theorem ZEk(b:Box):G52 (b,())=some (isBx b,()):=bxI b
def wetF(c:Box)(a:List Drop)(x:Drop):List Drop:=if inBx c x.At=true then a else a++[x]
def wetL(c:Box)(L:List Drop):List Drop:=if isBx c=true then L.foldl (wetF c) []else []
theorem ZQp(c:Box): ∀(l a:List Drop),(l.foldl (wetF c) a).length<=a.length+l.length
 | [],a=>by simp
 | d::l,a=>by
  have:=ZQp c l (wetF c a d)
  have h1:(wetF c a d).length<=a.length+1:=by unfold wetF;split<;>simp
  simp only[List.foldl_cons,al_len_cons]
  omega
theorem ZWj(c:Box)(L:List Drop)(hL:L.length<=1048576)(hc:isBx c=true):ZAD (s56_0 G52 G114 G130) fuel (c,([]:List Drop),L,Int.ofNat L.length,0,()) (λt5=>some (t5.2.1,()))=some (wetL c L,()):=by
 refine(ZAU (f:=s56_0 G52 G114 G130) (K:=λt5=>some (t5.2.1,())) (λi=>(c,(L.take i).foldl (wetF c) [],L,Int.ofNat L.length,(i:Int),())) L.length (by omega) ?_ ?_).trans (by unfold wetL;rw[hc];simp)
 ·intro i hi rec K
  have hx:L[i]?=some L[i]:=by simp
  have e1:w64 ((i:Int)+1)=((i+1:Nat):Int):=ZAC
  have hn:=ZQp c (L.take i) []
  rw[ZB6 _ _ L i hi]
  generalize (L.take i).foldl (wetF c) []=acc at hn⊢
  unfold wetF
  have hx':=λ(K:Drop->Option (List Drop×Unit))=>ZAF (K:=K) hx
  simp only[s56_0]
  rw[ZA]
  simp only[hx',hx,ZAW,e1]
  simp only[al_bind_some,al_cond_true,ZWi]
  cases inBx c L[i].At
  ·simp only[ZAK,al_cond_true]
   rw[ZAB (by simp at hn⊢;omega)];rfl
  ·rfl
 ·intro rec K
  simp only[s56_0]
  rw[ZAA]
theorem ZQq(c:Box): ∀(L a:List Drop),(L.foldl (wetF c) a).length=0↔a=[]/\L.all (λx=>inBx c x.At)=true
 | [],a=>by simp
 | x::L,a=>by
  rw[List.foldl_cons,ZQq c L]
  unfold wetF
  cases hx:inBx c x.At<;>simp[hx]
def dryB(c:Box)(L:List Drop):Bool:=L.all λx=>inBx c x.At
theorem ZEl(r:List Place)(hr:r.length<=1048576): ∃b,G51 (r,())=some (b,())/\G141 (r,())=some (b,())/\(b=true->1<=r.length/\r.length<=4/\ ∀p∈r,isDr p=true):=by
 obtain⟨b,h1,h2⟩:=ZLZ r hr
 have h1:G51 (r,())=some (b,()):=h1
 refine⟨b,h1,?_,h2⟩
 have e:G141=G51:=ZPt
 rw[e];exact h1
def lbx(j:Jet)(r:List Place):Box:=((G213 (j,r,())).map λx=>x.1).getD ⟨⟨0,0⟩,⟨0,0⟩⟩
def lbb(j:Jet)(r:List Place):Bool:=((G213 (j,r,())).map λx=>x.2.1).getD false
theorem ZM(j:Jet)(r:List Place)(hr:r.length<=1048576):G213 (j,r,())=some (lbx j r,lbb j r,()):=by
 obtain⟨B,b,h1,h2⟩:=ZLc j r hr
 have h2:G213 (j,r,())=some (B,b,()):=h2
 unfold lbx lbb;rw[h2];rfl
theorem ZWk(j:Jet)(r:List Place)(hr:r.length<=1048576):G318 (j,r,())=some (lbx j r,lbb j r,()):=by
 obtain⟨B,b,h1,h2⟩:=ZLc j r hr
 have h1:G318 (j,r,())=some (B,b,()):=h1
 have h2:G213 (j,r,())=some (B,b,()):=h2
 unfold lbx lbb;rw[h1,h2];rfl
def ZC4(r:List Place)(a:List Place)(x:Throw):List Place:=a++[(lbx x.jet r).Low,(lbx x.jet r).High]
theorem ZJN(r:List Place): ∀(l:List Throw) (a:List Place),(l.foldl (ZC4 r) a).length=a.length+2*l.length
 | [],a=>by simp
 | d::l,a=>by
  simp only[List.foldl_cons,al_len_cons,ZJN r l]
  unfold ZC4;simp;omega
theorem ZWl(l:List Place)(hl:l.length<=1048576): ∃B b,G319 (l,())=some (B,b,())/\G214 (l,())=some (B,b,()):=by
 obtain⟨B,b,h1,h2,_⟩:=ZPv l hl 0
 exact⟨B,b,h1,h2⟩
theorem ZWm:G214 (([]:List Place),())=some (⟨⟨0,0⟩,⟨0,0⟩⟩,false,()):=by rfl
theorem ZWn(r:List Place)(hr:r.length<=1048576)(l:List Throw)(hl:l.length<=1024)(K:List Place×Box×List Place×List Throw×Int×Int×Unit->Option (Box×Bool×Unit)):
  ZAD (s241_0 G140 G141 G309 G318 G319) fuel (r,⟨⟨0,0⟩,⟨0,0⟩⟩,[],l,Int.ofNat l.length,0,()) K=K (r,⟨⟨0,0⟩,⟨0,0⟩⟩,l.foldl (ZC4 r) [],l,Int.ofNat l.length,Int.ofNat l.length,()):=by
 refine(ZAU (f:=s241_0 G140 G141 G309 G318 G319) (K:=K) (λi=>(r,⟨⟨0,0⟩,⟨0,0⟩⟩,(l.take i).foldl (ZC4 r) [],l,Int.ofNat l.length,(i:Int),())) l.length (by omega) ?_ ?_).trans (by simp)
 ·intro i hi rec K
  have hx:l[i]?=some l[i]:=by simp
  have e1:w64 ((i:Int)+1)=((i+1:Nat):Int):=ZAC
  have hn:=ZJN r (l.take i) []
  rw[ZB6 _ _ l i hi]
  generalize (l.take i).foldl (ZC4 r) []=acc at hn⊢
  unfold ZC4
  simp only[s241_0]
  have hx':=λ(K:Throw->Option (Box×Bool×Unit))=>ZAF (K:=K) hx
  rw[ZA]
  simp only[hx',hx,ZAW,e1,ZWk _ r hr,al_bind_some]
  rw[ZAB (by simp at hn⊢;omega)]
 ·intro rec K
  simp only[s241_0]
  rw[ZAA]
theorem ZQr(r:List Place)(hr:r.length<=1048576)(l:List Throw)(hl:l.length<=1024)(K:List Place×Box×List Place×List Throw×Int×Int×Unit->Option (Box×Bool×Unit)):
  ZAD (s117_0 G51 G59 G213 G214) fuel (r,⟨⟨0,0⟩,⟨0,0⟩⟩,[],l,Int.ofNat l.length,0,()) K=K (r,⟨⟨0,0⟩,⟨0,0⟩⟩,l.foldl (ZC4 r) [],l,Int.ofNat l.length,Int.ofNat l.length,()):=by
 refine(ZAU (f:=s117_0 G51 G59 G213 G214) (K:=K) (λi=>(r,⟨⟨0,0⟩,⟨0,0⟩⟩,(l.take i).foldl (ZC4 r) [],l,Int.ofNat l.length,(i:Int),())) l.length (by omega) ?_ ?_).trans (by simp)
 ·intro i hi rec K
  have hx:l[i]?=some l[i]:=by simp
  have e1:w64 ((i:Int)+1)=((i+1:Nat):Int):=ZAC
  have hn:=ZJN r (l.take i) []
  rw[ZB6 _ _ l i hi]
  generalize (l.take i).foldl (ZC4 r) []=acc at hn⊢
  unfold ZC4
  simp only[s117_0]
  have hx':=λ(K:Throw->Option (Box×Bool×Unit))=>ZAF (K:=K) hx
  rw[ZA]
  simp only[hx',hx,ZAW,e1,ZM _ r hr,al_bind_some]
  rw[ZAB (by simp at hn⊢;omega)]
 ·intro rec K
  simp only[s117_0]
  rw[ZAA]
theorem ZWo(s:ZAM)(h:ShowOK s)(r:List Place)(hr:r.length<=1048576): ∃B b,G241 (s,r,())=some (B,b,())/\G117 (s,r,())=some (B,b,()):=by
 obtain⟨b,r1,r2,_⟩:=ZEl r hr
 unfold G241 F241 G117 F117
 try simp only[ZBI]
 rw[ZCd s h,r1]
 simp only[al_bind_some]
 cases hb:ZA5 s
 ·cases b
  ·exact⟨_,_,rfl,rfl⟩
  ·refine⟨_,_,rfl,?_⟩
   simp only[ZAG,al_cond_false]
   rw[ZHi h hb]
   simp only[al_bind_some]
   have:=ZQr r hr [] (by simp) (λt5=>(G214 (t5.2.2.1,())).bind λx6=>some (x6.1,x6.2.1,()))
   exact this.trans (by rw[show([]:List Throw).foldl (ZC4 r) []=[]from rfl,ZWm];rfl)
 ·have hv:=ZD3 h hb
  have hl:=ZB5 hv
  simp only[ZAG,al_cond_false,r2,al_bind_some]
  cases b
  ·exact⟨_,_,rfl,rfl⟩
  ·simp only[ZA4]
   rw[ZFR hv,ZDn hv]
   simp only[al_bind_some]
   rw[ZWn r hr _ (by omega),ZQr r hr _ (by omega)]
   obtain⟨B,b,q1,q2⟩:=ZWl ((ZAO s).foldl (ZC4 r) []) (by rw[ZJN];simp;omega)
   refine⟨B,b,?_,?_⟩
   ·simp only[q1];rfl
   ·simp only[q2];rfl
theorem ZQs(b c:Box):G294 (b,c,())=some (isIn b c,()):=wtI b c
end Ev
end
