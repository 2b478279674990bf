/- Laid together by program (what the claim does not reach is left out): Desk8, Shift8, DkC, DkD, DkE, DkF, DkG, DkH, DrawA, TurnI, DkI. -/
import Derived.Test.YtoafhcjocdjkjaaGreatDoorZC12
set_option linter.all false
set_option maxRecDepth 100000
open Go.Proofs.Tryz
noncomputable section
namespace Ev
open Go
abbrev ZAP:=List Device×List Cue×List Gust×Int×List Place×Int×Int×Int×Int×Unit
def ZAP.shw(x:ZAP):ZAM:=(x.1,x.2.1,x.2.2.1,x.2.2.2.1,())
def ZAP.ros(x:ZAP):List Place:=x.2.2.2.2.1
def ZAP.bas(x:ZAP):Box:=⟨⟨x.2.2.2.2.2.1,x.2.2.2.2.2.2.1⟩,⟨x.2.2.2.2.2.2.2.1,x.2.2.2.2.2.2.2.2.1⟩⟩
structure DeskOK(x:ZAP):Prop where
 shw:ShowOK x.shw
 ros:x.ros.length<=1048576
def rosB(r:List Place):Bool:=((G51 (r,())).map λx=>x.1).getD false
def ZGh(r:List Place)(hr:r.length<=1048576):G51 (r,())=some (rosB r,()):=by
 obtain⟨b,h1,_⟩:=ZEl r hr
 unfold rosB;rw[h1];rfl
def ZMx(r:List Place)(hr:r.length<=1048576):G141 (r,())=some (rosB r,()):=by
 obtain⟨b,h1,h2,_⟩:=ZEl r hr
 unfold rosB;rw[h1,h2];rfl
def ZCN(x:ZAP):Bool:=ZA5 x.shw && (rosB x.ros && isBx x.bas)
def ZEC(x:ZAP)(h:DeskOK x):G25 (x,())=some (ZCN x,()):=by
 have e1:G50 (x.shw,())=some (ZA5 x.shw,()):=ZDT _ h.shw
 unfold G25 F25 ZCN
 rw[show(x.1,x.2.1,x.2.2.1,x.2.2.2.1,())=x.shw from rfl,e1,show x.2.2.2.2.1=x.ros from rfl,ZGh _ h.ros]
 simp only[al_bind_some]
 rw[show(⟨⟨x.2.2.2.2.2.1,x.2.2.2.2.2.2.1⟩,⟨x.2.2.2.2.2.2.2.1,x.2.2.2.2.2.2.2.2.1⟩⟩:Box)=x.bas from rfl,ZEk]
 cases ZA5 x.shw<;>cases rosB x.ros<;>rfl
def ZJq(x:ZAP)(h:DeskOK x):G64 (x,())=some (ZCN x,()):=by
 have e1:G140 (x.shw,())=some (ZA5 x.shw,()):=ZCd _ h.shw
 unfold G64 F64 ZCN
 rw[show(x.1,x.2.1,x.2.2.1,x.2.2.2.1,())=x.shw from rfl,e1,show x.2.2.2.2.1=x.ros from rfl,ZMx _ h.ros]
 simp only[al_bind_some]
 rw[show(⟨⟨x.2.2.2.2.2.1,x.2.2.2.2.2.2.1⟩,⟨x.2.2.2.2.2.2.2.1,x.2.2.2.2.2.2.2.2.1⟩⟩:Box)=x.bas from rfl,ZHn]
 cases ZA5 x.shw<;>cases rosB x.ros<;>rfl
end Ev
end
noncomputable section
namespace Ev
open Go
def mix(f:Device->Device)(l:List Device)(i:Nat):List Device:=l.mapIdx λm d=>if m<i then f d else d
def ZEw(f:Device->Device)(l:List Device)(i m:Nat):(mix f l i)[m]?=(l[m]?).map λd=>if m<i then f d else d:=by
 unfold mix;rw[List.getElem?_mapIdx]
def ZYt(f:Device->Device)(l:List Device)(i:Nat):(mix f l i).length=l.length:=by unfold mix;simp
def ZYu(f:Device->Device)(l:List Device):mix f l 0=l:=by
 apply List.ext_getElem?;intro m
 rw[ZEw]
 cases l[m]?<;>simp
def ZYv(f:Device->Device)(l:List Device):mix f l l.length=l.map f:=by
 apply List.ext_getElem?;intro m
 rw[ZEw,List.getElem?_map]
 by_cases h:m<l.length
 ·simp only[h,if_true]
 ·rw[List.getElem?_eq_none (by omega)];rfl
def ZYw(f:Device->Device)(l:List Device)(i:Nat)(h:i<l.length):(mix f l i).set i (f l[i])=mix f l (i+1):=by
 apply List.ext_getElem?;intro m
 rw[List.getElem?_set,ZEw,ZEw,ZYt]
 by_cases hm:i=m
 ·subst hm
  simp[h]
 ·rw[al_if_neg hm]
  by_cases h1:m<i
  ·simp only[h1,show m<i+1 by omega,if_true]
  ·simp only[h1,show¬m<i+1 by omega,if_false]
def ZYx(f:Device->Device)(l:List Device)(i:Nat)(h:i<l.length)(hf:f l[i]=l[i]):mix f l i=mix f l (i+1):=by
 apply List.ext_getElem?;intro m
 rw[ZEw,ZEw]
 by_cases hm:i=m
 ·subst hm
  simp[h,hf]
 ·by_cases h1:m<i
  ·simp only[h1,show m<i+1 by omega,if_true]
  ·simp only[h1,show¬m<i+1 by omega,if_false]
def ZSC(l:List Device)(hl:l.length<=1048576):G184 (l,())=some (l,()):=by
 unfold G184 F184 ZBm
 cases l with
 | nil=>rw[ZAB];exact ZFM
 | cons x l=>rw[ZAB (by simp at hl⊢;omega)];rfl
def ZYy(l:List Gust)(hl:l.length<=1048576):G186 (l,())=some (l,()):=by
 unfold G186 F186 ZBm
 cases l with
 | nil=>rw[ZAB];exact ZFM
 | cons x l=>rw[ZAB (by simp at hl⊢;omega)];rfl
def shW(y:Place)(d:Device):Device:=if d.Kind=1 then d else⟨d.Name,d.Kind,d.Line,⟨w64 (d.At.X+y.X),w64 (d.At.Y+y.Y)⟩,d.Heading,d.Tilt,d.Most⟩
def ZJr(y:Place)(d:Device):(shW y d).Name=d.Name/\(shW y d).Line=d.Line:=by
 unfold shW;split<;>exact⟨rfl,rfl⟩
def ZSD{d:Device}(h:devB d=true):isPl d.At=true:=by
 obtain⟨h1,h2,_⟩:=ZLk h
 unfold isPl
 rw[ZAZ h1.1 h1.2,ZAZ h2.1 h2.2];rfl
def ZYz{p y:Place}(hp:isPl p=true)(hy:isPl y=true):G293 (p,y,())=some (if isPl ⟨w64 (p.X+y.X),w64 (p.Y+y.Y)⟩=true then(⟨w64 (p.X+y.X),w64 (p.Y+y.Y)⟩,true,())else(⟨0,0⟩,false,())):=by
 have q1:G124 (p,())=some (isPl p,()):=ZB1 p
 have q2:G124 (y,())=some (isPl y,()):=ZB1 y
 have q3:G124 ((⟨w64 (p.X+y.X),w64 (p.Y+y.Y)⟩:Place),())=some (isPl ⟨w64 (p.X+y.X),w64 (p.Y+y.Y)⟩,()):=ZB1 _
 unfold G293 F293 G343 F343
 simp only[q1,q2,hp,hy,al_bind_some,ZA4,q3]
 cases isPl ⟨w64 (p.X+y.X),w64 (p.Y+y.Y)⟩<;>rfl
def shB(y:Place)(l:List Device):Bool:=(List.range l.length).all λi=>((l[i]?).map λd=>devB (shW y d)).getD true
def ZSE{l:List Device}(h:RigP l){y:Place}(hy:isPl y=true):G207 (l,y,())=cond (shB y l) (some (l.map (shW y),true,())) (some (([]:List Device),false,())):=by
 have hlen:=h.len
 have hl:l.length<=1048576:=by omega
 have hR:G118 (l,())=some (true,()):=by rw[ZDl l hl (ZEs h),(ZDS l).2 h]
 have q2:G124 (y,())=some (isPl y,()):=ZB1 y
 unfold G207 F207
 simp only[hR,q2,hy,ZSC l hl,al_bind_some,ZA4]
 have run:=ZDi (f:=s207_0 G118 G124 G184 G293 G192) (K:=λt10=>some (t10.2.1,true,())) (λi=>(y,mix (shW y) l i,(),Int.ofNat l.length,(i:Int),())) (λi=>((l[i]?).map λd=>devB (shW y d)).getD true) (some (([]:List Device),false,())) l.length (by omega)
  (by
   intro i hi rec K
   have hx0:l[i]?=some l[i]:=by simp
   have hx:(mix (shW y) l i)[i]?=some l[i]:=by rw[ZEw];simp[hi]
   have hx':=λ(K:Device->Option (List Device×Bool×Unit))=>ZAF (K:=K) hx
   have e1:w64 ((i:Int)+1)=((i+1:Nat):Int):=ZAC
   have hm:l[i]∈l:=by simp
   have hdv:=h.dev _ hm
   simp only[s207_0]
   rw[ZA,hx0]
   simp only[hx',hx,ZAW,al_bind_some,Option.map_some,Option.getD_some,e1]
   by_cases k1:l[i].Kind=1
   ·have es:shW y l[i]=l[i]:=by unfold shW;rw[al_if_pos k1]
    rw[ZA k1,es,hdv,ZYx (shW y) l i hi es]
    rfl
   ·have ed:shW y l[i]=⟨l[i].Name,l[i].Kind,l[i].Line,⟨w64 (l[i].At.X+y.X),w64 (l[i].At.Y+y.Y)⟩,l[i].Heading,l[i].Tilt,l[i].Most⟩:=by unfold shW;rw[al_if_neg k1]
    rw[ZAA k1,ZYz (ZSD hdv) hy]
    have hz:(mix (shW y) l (i+1))[i]?=some (shW y l[i]):=by rw[ZEw];simp[hi]
    have hz':=λ(K:Device->Option (List Device×Bool×Unit))=>ZAF (K:=K) hz
    have hset:=ZYw (shW y) l i hi
    have hnl:=ZEs h _ hm
    have hdI:G192 (shW y l[i],())=some (devB (shW y l[i]),()):=(ZC1 (shW y l[i]) (by rw[(ZJr y _).1];exact hnl.1) (by rw[(ZJr y _).2];exact hnl.2)).2
    by_cases hp:isPl ⟨w64 (l[i].At.X+y.X),w64 (l[i].At.Y+y.Y)⟩=true
    ·rw[al_if_pos hp]
     simp only[al_bind_some,ZAG,ZAK,al_cond_true]
     rw[<-ed,hset]
     simp only[hz',hz,al_bind_some,hdI]
     cases devB (shW y l[i])<;>rfl
    ·rw[al_if_neg hp]
     have hno:devB (shW y l[i])=false:=by
      cases hb:devB (shW y l[i])
      ·rfl
      ·have:=ZSD hb
       rw[ed]at this
       exact absurd this hp
     rw[hno]
     simp only[al_bind_some,ZAG,ZAK,al_cond_false])
  (by
   intro rec K
   simp only[s207_0]
   rw[ZAA])
 rw[ZYu,ZYv]at run
 exact run
def ZY0{x:Int}(h:0<=x/\x<=3):hd4 x 0=x:=by
 unfold hd4
 rw[al_if_pos (ZAZ h.1 h.2)]
 omega
def ZSF{d:Device}(h:devB d=true)(hk:d.Kind=2):0<=d.Heading/\d.Heading<=3:=by
 unfold devB at h
 rw[ZAJ]at h
 have h:=h.2
 rw[al_if_neg (by rw[hk];decide),al_if_pos hk]at h
 simp only[ZAJ]at h
 have J:=(ZBk h.2.2.1).h
 simpa[devJ]using J
def ZY1{l:List Device}(h:RigP l){y:Place}(hy:isPl y=true):G330 (l,y,())=cond (shB y l) (some (l.map (shW y),true,())) (some (([]:List Device),false,())):=by
 have hlen:=h.len
 have hl:l.length<=1048576:=by omega
 have hR:G230 (l,())=some (true,()):=by rw[ZEh l hl (ZEs h),(ZDS l).2 h]
 have q2:G181 (y,())=some (isPl y,()):=ZDz y
 unfold G330 F330 G360 F360
 simp only[hR,q2,hy,al_bind_some,ZA4]
 have run:=ZDi (f:=s360_0 G355 G317 G372 G169) (K:=λt11=>some (t11.2.2.1,true,())) (λi=>((0:Int),y,(l.take i).map (shW y),l,Int.ofNat l.length,(i:Int),())) (λi=>((l[i]?).map λd=>devB (shW y d)).getD true) (some (([]:List Device),false,())) l.length (by omega)
  (by
   intro i hi rec K
   have hx:l[i]?=some l[i]:=by simp
   have e1:w64 ((i:Int)+1)=((i+1:Nat):Int):=ZAC
   have hm:l[i]∈l:=by simp
   have hdv:=h.dev _ hm
   have hnl:=ZEs h _ hm
   have hdS:G169 (shW y l[i],())=some (devB (shW y l[i]),()):=(ZC1 (shW y l[i]) (by rw[(ZJr y _).1];exact hnl.1) (by rw[(ZJr y _).2];exact hnl.2)).1
   have hcap:((l.take i).map (shW y)).length+1<=1099511627776:=by simp;omega
   rw[<-ZD2 (shW y) l i hi]
   simp only[s360_0]
   rw[ZA,ZAF hx,hx]
   simp only[Option.map_some,Option.getD_some]
   have ht: ∀p:Place,G355 (p,0,())=some (p,()):=λp=>ZI7 p 0
   have ha: ∀p q:Place,G317 (p,q,())=some (⟨w64 (p.X+q.X),w64 (p.Y+q.Y)⟩,()):=λp q=>rfl
   have hh: ∀x:Int,G372 (x,0,())=some (hd4 x 0,()):=λx=>thS x 0
   by_cases k1:l[i].Kind=1
   ·have es:shW y l[i]=l[i]:=by unfold shW;rw[al_if_pos k1]
    rw[es]at hdS⊢
    rw[ZAH k1]
    simp only[ZAG,al_cond_false]
    rw[ZAA,hdS,hdv]
    simp only[al_bind_some,ZAG,al_cond_false,al_cond_true]
    rw[ZAB (by simpa using hcap),e1]
   ·have ed:shW y l[i]=⟨l[i].Name,l[i].Kind,l[i].Line,⟨w64 (l[i].At.X+y.X),w64 (l[i].At.Y+y.Y)⟩,l[i].Heading,l[i].Tilt,l[i].Most⟩:=by unfold shW;rw[al_if_neg k1]
    rw[ZAE k1]
    simp only[ZAK,al_cond_true,ht,ha,al_bind_some]
    by_cases k2:l[i].Kind=2
    ·rw[ZA k2]
     simp only[hh,al_bind_some,ZY0 (ZSF hdv k2)]
     rw[<-ed,hdS]
     simp only[al_bind_some]
     cases devB (shW y l[i])
     ·rfl
     ·simp only[ZAG,al_cond_false,al_cond_true]
      rw[ZAB (by simpa using hcap),e1]
    ·rw[ZAA k2]
     rw[<-ed,hdS]
     simp only[al_bind_some]
     cases devB (shW y l[i])
     ·rfl
     ·simp only[ZAG,al_cond_false,al_cond_true]
      rw[ZAB (by simpa using hcap),e1])
  (by
   intro rec K
   simp only[s360_0]
   rw[ZAA])
 have run:ZAD (s360_0 G355 G317 G372 G169) fuel ((0:Int),y,([]:List Device),l,Int.ofNat l.length,0,()) (λt11=>some (t11.2.2.1,true,()))=_:=run
 rw[run]
 unfold shB
 cases (List.range l.length).all λi=>((l[i]?).map λd=>devB (shW y d)).getD true
 ·rfl
 ·simp only[List.take_length,al_cond_true,al_bind_some]
def ZY2(l:List Device)(hl:l.length<=1048576)(hn:ZCc l)(y:Place): ∃R b,G330 (l,y,())=some (R,b,())/\G207 (l,y,())=some (R,b,())/\R.length<=l.length:=by
 cases hr:rigB l
 ·refine⟨[],false,?_,?_,by simp⟩
  ·unfold G330 F330
   simp only[ZEh l hl hn,hr,al_bind_some]
   rfl
  ·unfold G207 F207
   simp only[ZDl l hl hn,hr,al_bind_some]
   rfl
 ·cases hp:isPl y
  ·have q2:G181 (y,())=some (isPl y,()):=ZDz y
   have q3:G124 (y,())=some (isPl y,()):=ZB1 y
   refine⟨[],false,?_,?_,by simp⟩
   ·unfold G330 F330
    simp only[ZEh l hl hn,hr,q2,hp,al_bind_some]
    rfl
   ·unfold G207 F207
    simp only[ZDl l hl hn,hr,q3,hp,al_bind_some]
    rfl
  ·have h:=(ZDS l).1 hr
   rw[ZSE h hp,ZY1 h hp]
   cases shB y l
   ·exact⟨[],false,rfl,rfl,by simp⟩
   ·exact⟨l.map (shW y),true,rfl,rfl,by simp⟩
def ZY3(l:List Device)(hl:l.length<=1048576):G228 (l,())=some (l,()):=by
 unfold G228 F228
 rw[ZAB];rfl
def ZY4(s:ZAM)(h:ShowOK s):G139 (s,())=some (s,()):=by
 have h1:=ZY3 s.1 h.rig
 have h2:G229 (s.2.1,())=some (s.2.1,()):=ZLl s.2.1 h.score
 have h3:=h.wind
 unfold G139 F139
 simp only[h1,h2,al_bind_some]
 rw[ZAB]
 rfl
def ZSG(s:ZAM)(h:ShowOK s):G94 (s,())=some (s,()):=by
 have c1:=ZSC s.1 h.rig
 have c2:G185 (s.2.1,())=some (s.2.1,()):=ZI8 s.2.1 h.score
 have c3:=ZYy s.2.2.1 h.wind
 unfold G94 F94
 simp only[c1,c2,c3,al_bind_some]
def ZY5(s:ZAM)(h:ShowOK s)(y:Place): ∃(x:ZAM) (b:Bool),G258 (s,y,())=some (x,b,())/\G108 (s,y,())=some (x,b,())/\x.1.length<=1048576/\x.2.1.length<=1048576/\x.2.2.1.length<=1048576:=by
 obtain⟨R,b,g1,g2,hR⟩:=ZY2 s.1 h.rig h.devs y
 have hlen:=h.rig
 unfold G258 F258 G108 F108
 simp only[ZBI,g1,g2,ZCd s h,ZDT s h,ZY4 s h,ZSG s h,al_bind_some]
 cases ZA5 s
 ·exact⟨([],[],[],0,()),false,rfl,rfl,by simp,by simp,by simp⟩
 ·cases b
  ·exact⟨([],[],[],0,()),false,rfl,rfl,by simp,by simp,by simp⟩
  ·exact⟨(R,s.2.1,s.2.2.1,s.2.2.2.1,()),true,rfl,rfl,by simp only;omega,h.score,h.wind⟩
end Ev
end
noncomputable section
namespace Ev
open Go
structure DeskV(x:ZAP):Prop where
 ok:DeskOK x
 shw:ShowV x.shw
 ros:RoseV x.ros
 box:isBx x.bas=true
def ZMy{x:ZAP}(h:DeskOK x)(hb:ZCN x=true):DeskV x:=by
 unfold ZCN at hb
 simp only[ZAJ]at hb
 have hr:=ZGh x.ros h.ros
 rw[hb.2.1]at hr
 exact⟨h,ZD3 h.shw hb.1,ZMq h.ros hr,hb.2.2⟩
def ZSH{r:List Place}(h:RoseV r):rosB r=true:=by unfold rosB;rw[h.isI];rfl
def ZDp{x:ZAP}(h:DeskV x):ZCN x=true:=by
 unfold ZCN;rw[ZEi h.shw,ZSH h.ros,h.box];rfl
def yesT:Str:=[111,107]
def noT2:Str:=[110,111]
def ZBL:Str:=[119,104,97,116]
def ZJs(b:Bool):Str:=if b=true then [121,101,115]else [110,111]
def ZB2(x:ZAP)(s:ZAM):ZAP:=(s.1,s.2.1,s.2.2.1,s.2.2.2.1,x.2.2.2.2)
def ZH0(x:ZAP)(r:List Place):ZAP:=(x.1,x.2.1,x.2.2.1,x.2.2.2.1,r,x.2.2.2.2.2)
def ZH1(x:ZAP)(p q:Place):ZAP:=(x.1,x.2.1,x.2.2.1,x.2.2.2.1,x.2.2.2.2.1,p.X,p.Y,q.X,q.Y,())
def ZCW(s:ZAM)(n:Int):ZAM:=((G107 (s,n,())).map λx=>x.1).getD s
def ZBR(s:ZAM)(p:Place):ZAM×Bool:=((G108 (s,p,())).map λx=>(x.1,x.2.1)).getD (s,false)
def ZBc(s:ZAM)(r:List Place):Box×Bool:=((G117 (s,r,())).map λx=>(x.1,x.2.1)).getD (⟨⟨0,0⟩,⟨0,0⟩⟩,false)
def dryV(s:ZAM)(c:Box):Bool:=((G20 (s,c,())).map λx=>x.1).getD false
def ZDA(s:ZAM)(t:Int):Int:=((G116 (s,t,())).map λx=>x.1).getD 0
def ZDB(s:ZAM)(t:Int):Int:=((G115 (s,t,())).map λx=>x.1).getD 0
def ZMz(s:ZAM)(h:ShowOK s)(n:Int):G107 (s,n,())=some (ZCW s n,())/\G252 (s,n,())=some (ZCW s n,())/\(ZCW s n).1.length<=1048576/\(ZCW s n).2.1.length<=1048576/\(ZCW s n).2.2.1.length<=1048576:=by
 obtain⟨r,h1,h2,h3⟩:=ZV3 s h n
 have h1:G252 (s,n,())=some (r,()):=h1
 have h2:G107 (s,n,())=some (r,()):=h2
 have e:ZCW s n=r:=by unfold ZCW;rw[h2];rfl
 rw[e]
 exact⟨h2,h1,h3⟩
def ZM0(s:ZAM)(h:ShowOK s)(p:Place):G108 (s,p,())=some ((ZBR s p).1,(ZBR s p).2,())/\G258 (s,p,())=some ((ZBR s p).1,(ZBR s p).2,())/\(ZBR s p).1.1.length<=1048576/\(ZBR s p).1.2.1.length<=1048576/\(ZBR s p).1.2.2.1.length<=1048576:=by
 obtain⟨r,b,h1,h2,h3⟩:=ZY5 s h p
 have e:ZBR s p=(r,b):=by unfold ZBR;rw[h2];rfl
 rw[e]
 exact⟨h2,h1,h3⟩
def ZSI(s:ZAM)(h:ShowOK s)(r:List Place)(hr:r.length<=1048576):G117 (s,r,())=some ((ZBc s r).1,(ZBc s r).2,())/\G241 (s,r,())=some ((ZBc s r).1,(ZBc s r).2,()):=by
 obtain⟨B,b,h1,h2⟩:=ZWo s h r hr
 have e:ZBc s r=(B,b):=by unfold ZBc;rw[h2];rfl
 rw[e];exact⟨h2,h1⟩
def ZM1(s:ZAM)(h:ShowOK s)(c:Box):G20 (s,c,())=some (dryV s c,())/\G242 (s,c,())=some (dryV s c,()):=by
 obtain⟨L,_,h1,h2⟩:=ZYA s h c
 have e:dryV s c=(ZA5 s && (isBx c && dryB c L)):=by unfold dryV;rw[h2];rfl
 rw[e];exact⟨h2,h1⟩
def ZSJ{s:ZAM}(h:ShowV s)(t:Int):G116 (s,t,())=some (ZDA s t,())/\G257 (s,t,())=some (ZDA s t,())/\0<=ZDA s t/\ZDA s t<=512:=by
 obtain⟨v,h1,h2⟩:=ZWR s h.ok t
 have e:ZDA s t=v:=by unfold ZDA;rw[h2];rfl
 rw[ZRo h t]at h2
 cases h2
 rw[e]
 refine⟨ZRo h t,h1,by omega,?_⟩
 have:=List.countP_le_length (p:=ZHw t) (l:=ZAO s)
 have:=ZB5 h
 omega
def ZSK{s:ZAM}(h:ShowV s)(t:Int):G115 (s,t,())=some (ZDB s t,())/\G256 (s,t,())=some (ZDB s t,())/\0<=ZDB s t/\ZDB s t<=512:=by
 have h2:=ZRn h t
 have e:ZDB s t=(((ZAO s).countP (ZFe t):Nat):Int):=by unfold ZDB;rw[h2];rfl
 rw[e]
 refine⟨h2,ZYD h t,by omega,?_⟩
 have:=List.countP_le_length (p:=ZFe t) (l:=ZAO s)
 have:=ZB5 h
 omega
def ZSL{s:ZAM}(h:ShowV s)(t:Int):G111 (s,t,())=some (ZA1 s t,())/\G253 (s,t,())=some (ZA1 s t,()):=by
 obtain⟨L,h1,h2,_⟩:=ZWK s h.ok t
 have h3:=ZLz h t
 rw[h3]at h2
 cases h2
 exact⟨h3,h1⟩
def ZSM{x:ZAP}(h:DeskV x):G109 (x.shw,x.ros,x.bas,())=some (lmS x.ros x.bas x.shw,true,())/\G236 (x.shw,x.ros,x.bas,())=some (lmS x.ros x.bas x.shw,true,()):=by
 have h1:=ZYX h.shw h.ros h.box
 obtain⟨y,b,h2,h3,_⟩:=ZX x.shw h.ok.shw x.ros h.ok.ros x.bas
 rw[h1]at h3
 cases h3
 exact⟨h1,h2⟩
def ZBi(x:ZAP)(p:Str)(n:Int):ZAP×Str:=
 if p=ZAv then(if n<=64 then((x.1,x.2.1,x.2.2.1,n,x.2.2.2.2),yesT)else(x,noT2))
 else if p=ZAn then(ZB2 x (ZCW x.shw n),yesT)
 else if p=ZAt then(x,ZBt (ZJo x.shw (ZA1 x.shw n)))
 else if p=ZAu then(x,ZBt ((nowL x.shw n).map (ZBQ true)))
 else(x,(Go.Lib.itoa (ZDB x.shw n)++[32])++Go.Lib.itoa (ZDA x.shw n))
def ZA0(x:ZAP)(p r:Str):ZAP×Str:=
 if p=devW then(if((devP r).2 && addB x.1 (devP r).1)=true then((addD x.1 (devP r).1,x.2),yesT)else(x,noT2))
 else if p=cueW then(if((cueP r).2 && ZBs x.2.1 (cueP r).1)=true then((x.1,ZCr x.2.1 (cueP r).1,x.2.2),yesT)else(x,noT2))
 else if p=remW then(if(splC 32 r).length=1 then(if remB x.1 r=true then((remD x.1 r,x.2),yesT)else(x,noT2))else(x,ZBL))
 else if p=ZAd then(if(splC 32 r).length=2/\(numP (wAt (splC 32 r) 1)).2=true then(x,ZAQ (lvl x.2.1 (wAt (splC 32 r) 0) (numP (wAt (splC 32 r) 1)).1))else(x,ZBL))
 else if p=ZAc then(if(splC 32 r).length=2/\(numP (wAt (splC 32 r) 0)).2=true/\(ZAR (wAt (splC 32 r) 1)).2=true then
  (if jnB x.2.2.1 (ZAR (wAt (splC 32 r) 1)).1 (numP (wAt (splC 32 r) 0)).1=true then((x.1,x.2.1,jnD x.2.2.1 (ZAR (wAt (splC 32 r) 1)).1 (numP (wAt (splC 32 r) 0)).1,x.2.2.2),yesT)else(x,noT2))else(x,ZBL))
 else if p∈ZBu then(if(splC 32 r).length=1/\(numP r).2=true then ZBi x p (numP r).1 else(x,ZBL))
 else if p=ZAa then(if ZAe (splC 32 r)=true then(if rosB (ZA7 (splC 32 r))=true then(ZH0 x (ZA7 (splC 32 r)),yesT)else(x,noT2))else(x,ZBL))
 else if p=ZAh then(if(splC 32 r).length=2/\ZAe (splC 32 r)=true then(if isBx ⟨(ZAR (wAt (splC 32 r) 0)).1,(ZAR (wAt (splC 32 r) 1)).1⟩=true then(ZH1 x (ZAR (wAt (splC 32 r) 0)).1 (ZAR (wAt (splC 32 r) 1)).1,yesT)else(x,noT2))else(x,ZBL))
 else if p=ZAi then(if(splC 32 r).length=1/\ZAe (splC 32 r)=true then(if(ZBR x.shw (ZAR r).1).2=true then(ZB2 x (ZBR x.shw (ZAR r).1).1,yesT)else(x,noT2))else(x,ZBL))
 else(x,ZBL)
def oneR(x:ZAP)(line:Str):ZAP×Str:=
 if line=ZAw then(ZB2 x (lmS x.ros x.bas x.shw),yesT)
 else if line=ZAo then(x,ZBt ((ZDV x.shw).map (ZBQ false)))
 else if line=ZAp then(x,ZAQ (ZEA x.shw))
 else if line=ZAq then(x,ZCV x.shw x.ros (rosB x.ros) x.bas)
 else if line=ZAr then(x,if(ZBc x.shw x.ros).2=true then(ZAm (ZBc x.shw x.ros).1.Low++[32])++ZAm (ZBc x.shw x.ros).1.High else ZJn)
 else if line=dryW then(x,ZJs (dryV x.shw x.bas))
 else(x,ZBL)
def ZBd(x:ZAP)(line:Str):ZAP×Str:=if(splC 32 line).length=1 then oneR x line else ZA0 x (wAt (splC 32 line) 0) (Go.Lib.cut line [32]).2.1
def ZJt(x:ZAP){line:Str}(h: ∀c∈line,c≠32):ZBd x line=oneR x line:=by
 unfold ZBd
 rw[ZGS h]
 exact al_if_pos rfl
def ZJu(x:ZAP){p r:Str}(h: ∀c∈p,c≠32):ZBd x (p++32::r)=ZA0 x p r:=by
 unfold ZBd
 rw[ZHo h,al_if_neg (by have:=List.length_pos_iff.mpr (ZCJ 32 r);simp;exact ZCJ 32 r)]
 unfold Go.Lib.cut
 rw[ZGT h,al_if_pos]
 simp[wAt]
def ZY6(l:List Device)(hl:l.length<=1048576):G184 (l,())=some (l,()):=ZPQ l hl
def ZY7(l:List Gust)(hl:l.length<=1048576):G186 (l,())=some (l,()):=by
 unfold G186 F186 ZBm
 cases l with
 | nil=>rw[ZAB];exact ZHP
 | cons x l=>rw[ZAB (by simp at hl⊢;omega)];rfl
def ZY8(l:List Place)(hl:l.length<=1048576):G95 (l,())=some (l,()):=by
 unfold G95 F95 ZBm
 cases l with
 | nil=>rw[ZAB];exact ZHP
 | cons x l=>rw[ZAB (by simp at hl⊢;omega)];rfl
structure DeskZ(x:ZAP):Prop where
 r:x.1.length<=1048576
 s:x.2.1.length<=1048576
 w:x.2.2.1.length<=1048576
 p:x.2.2.2.2.1.length<=1048576
def ZBa{x:ZAP}(h:DeskOK x):DeskZ x:=⟨h.shw.rig,h.shw.score,h.shw.wind,h.ros⟩
def ZB3{x:ZAP}(h:DeskZ x):G46 (x,())=some (x,()):=by
 unfold G46 F46 G94 F94
 have e2:G185 (x.2.1,())=some (x.2.1,()):=ZPZ x.2.1 h.s
 simp only[ZY6 _ h.r,e2,ZY7 _ h.w,ZY8 _ h.p,al_bind_some]
def ZH2{x:ZAP}(h:DeskZ x):G63 (x,())=some (x,()):=by
 unfold G63 F63 G139 F139
 have:=h.w;have:=h.p
 simp only[ZJi _ h.r,ZJk _ h.s,al_bind_some]
 rw[ZAB]
 simp only[al_bind_some]
 rw[ZAB]
 rfl
end Ev
end
noncomputable section
namespace Ev
open Go
theorem ZSN(r:Str):(devP r).1.Name.length<=1048576/\(devP r).1.Line.length<=1048576:=by
 unfold devP
 split
 ·rename_i h
  have hb:devB (ZBK (splC 32 r))=true:=by
   cases e:devB (ZBK (splC 32 r))with
   | true=>rfl
   | false=>exact absurd h.2 (by unfold ZBY;rw[e];exact λq=>h.1 q.symm)
  have hk:=ZC7 hb
  have:=ZBP hk.nm
  refine⟨by show(ZBK _).Name.length<=_;omega,?_⟩
  show(ZBK _).Line.length<=_
  rcases hk.k with ⟨_,e,_⟩ | ⟨_,e,_⟩ | ⟨_,e,_⟩
  ·rw[e];simp
  ·have:=ZBP e;omega
  ·have:=ZBP e;omega
 ·exact⟨by simp,by simp⟩
theorem ZSO(r:Str):(cueP r).1.Name.length<=1048576:=by
 unfold cueP
 split
 ·rename_i h
  have hb:ZAz (ZCg (splC 32 r))=true:=by
   cases e:ZAz (ZCg (splC 32 r))with
   | true=>rfl
   | false=>
    have:=h.2
    unfold ZBO at this
    rw[e]at this
    rw[<-this]at h
    exact absurd h.1 ZJb
  have:=ZBP (ZEp hb).nm
  show(ZCg _).Name.length<=_;omega
 ·simp
theorem rd1{R α:Type}{x y:α}{r:List α}{K:α->Option R} :rdL (x::y::r) 1 K=K y:=ZAF (i:=1) rfl
theorem ZJv{n:Int}(h0:0<=n)(h1:n<=512):(Go.Lib.itoa n).length<=20:=ZCp (by omega) (by omega)
section
variable {x:ZAP} (h:DeskV x) (r:Str) (n:Int) (ps:List Place)
include h
theorem ZY9:G49 (x,(ZAd,r,n,ps,()),())=some (ZAQ (lvl x.2.1 r n),()):=by
 unfold G49 F49
 simp (config:= {decide:=true})only[devW,remW,cueW,ZAc,ZAv,ZAa,ZAh,ZAn,ZAi,ZAw,ZAd,ZAt,ZAu,ZAo,ZAx,ZAp,ZAq,ZAr,dryW,if_true,if_false,al_cond_true,al_cond_false,decide_true,decide_false,ZAG,ZAK,al_bind_some]
 have e:G110 (x.2.1,r,n,())=some (lvl x.2.1 r n,()):=ZLw h.ok.shw.names h.ok.shw.score r n
 rw[e]
 simp only[al_bind_some,fmI]
theorem ZZ:G49 (x,(ZAt,r,n,ps,()),())=some (ZBt (ZJo x.shw (ZA1 x.shw n)),()):=by
 unfold G49 F49
 simp (config:= {decide:=true})only[devW,remW,cueW,ZAc,ZAv,ZAa,ZAh,ZAn,ZAi,ZAw,ZAd,ZAt,ZAu,ZAo,ZAx,ZAp,ZAq,ZAr,dryW,if_true,if_false,al_cond_true,al_cond_false,decide_true,decide_false,ZAG,ZAK,al_bind_some]
 have e:G111 ((x.1,x.2.1,x.2.2.1,x.2.2.2.1,()),n,())=some (ZA1 x.shw n,()):=(ZSL h.shw n).1
 rw[e]
 simp only[al_bind_some]
 exact ZYf _ _ _ _ _ _ _ _ _ _ x.shw (λd hd=>ZBP (ZC7 (h.shw.rig.dev d hd)).nm) _ (ZEj _ _) (by rw[ZEj];exact h.shw.rig.len)
theorem ZZA:G49 (x,(ZAu,r,n,ps,()),())=some (ZBt ((nowL x.shw n).map (ZBQ true)),()):=by
 unfold G49 F49
 simp (config:= {decide:=true})only[devW,remW,cueW,ZAc,ZAv,ZAa,ZAh,ZAn,ZAi,ZAw,ZAd,ZAt,ZAu,ZAo,ZAx,ZAp,ZAq,ZAr,dryW,if_true,if_false,al_cond_true,al_cond_false,decide_true,decide_false,ZAG,ZAK,al_bind_some]
 have e:G113 ((x.1,x.2.1,x.2.2.1,x.2.2.2.1,()),n,())=some (nowL x.shw n,()):=ZWe h.shw n
 rw[e]
 simp only[al_bind_some]
 exact ZYd _ _ _ _ _ _ _ _ _ _ _ (ZQk h.shw n) (ZR7 h.shw n)
theorem ZZB:G49 (x,(ZAo,r,n,ps,()),())=some (ZBt ((ZDV x.shw).map (ZBQ false)),()):=by
 unfold G49 F49
 simp (config:= {decide:=true})only[devW,remW,cueW,ZAc,ZAv,ZAa,ZAh,ZAn,ZAi,ZAw,ZAd,ZAt,ZAu,ZAo,ZAx,ZAp,ZAq,ZAr,dryW,if_true,if_false,al_cond_true,al_cond_false,decide_true,decide_false,ZAG,ZAK,al_bind_some]
 have e:G114 ((x.1,x.2.1,x.2.2.1,x.2.2.2.1,()),())=some (ZDV x.shw,()):=ZQm h.shw
 rw[e]
 simp only[al_bind_some]
 exact ZYe _ _ _ _ _ _ _ _ _ _ _ (by rw[ZL9];exact ZB5 h.shw) (ZR8 h.shw)
theorem ZZC:G49 (x,(ZAx,r,n,ps,()),())=some ((Go.Lib.itoa (ZDB x.shw n)++[32])++Go.Lib.itoa (ZDA x.shw n),()):=by
 unfold G49 F49
 simp (config:= {decide:=true})only[devW,remW,cueW,ZAc,ZAv,ZAa,ZAh,ZAn,ZAi,ZAw,ZAd,ZAt,ZAu,ZAo,ZAx,ZAp,ZAq,ZAr,dryW,if_true,if_false,al_cond_true,al_cond_false,decide_true,decide_false,ZAG,ZAK,al_bind_some]
 obtain⟨t1,_,t2,t3⟩:=ZSK h.shw n
 obtain⟨l1,_,l2,l3⟩:=ZSJ h.shw n
 have e1:G115 ((x.1,x.2.1,x.2.2.1,x.2.2.2.1,()),n,())=some (ZDB x.shw n,()):=t1
 have e2:G116 ((x.1,x.2.1,x.2.2.1,x.2.2.2.1,()),n,())=some (ZDA x.shw n,()):=l1
 have:=ZJv t2 t3;have:=ZJv l2 l3
 rw[e1,e2]
 simp only[al_bind_some,numI (n:=ZDB x.shw n) (by omega) (by omega),numI (n:=ZDA x.shw n) (by omega) (by omega),al_len_append,al_len_cons,al_len_nil]
 rw[ZAB,ZAB]
theorem ZZD:G49 (x,(ZAp,r,n,ps,()),())=some (ZAQ (ZEA x.shw),()):=by
 unfold G49 F49
 simp (config:= {decide:=true})only[devW,remW,cueW,ZAc,ZAv,ZAa,ZAh,ZAn,ZAi,ZAw,ZAd,ZAt,ZAu,ZAo,ZAx,ZAp,ZAq,ZAr,dryW,if_true,if_false,al_cond_true,al_cond_false,decide_true,decide_false,ZAG,ZAK,al_bind_some]
 have e:G22 ((x.1,x.2.1,x.2.2.1,x.2.2.2.1,()),())=some (ZEA x.shw,()):=ZMn h.shw
 rw[e]
 simp only[al_bind_some,fmI]
theorem ZZE:G49 (x,(ZAq,r,n,ps,()),())=some (ZCV x.shw x.ros (rosB x.ros) x.bas,()):=by
 unfold G49 F49
 simp (config:= {decide:=true})only[devW,remW,cueW,ZAc,ZAv,ZAa,ZAh,ZAn,ZAi,ZAw,ZAd,ZAt,ZAu,ZAo,ZAx,ZAp,ZAq,ZAr,dryW,if_true,if_false,al_cond_true,al_cond_false,decide_true,decide_false,ZAG,ZAK,al_bind_some]
 have e:=ZRm x.shw h.ok.shw x.ros h.ok.ros x.bas (rosB x.ros) (ZGh _ h.ok.ros)
 have e:G19 ((x.1,x.2.1,x.2.2.1,x.2.2.2.1,()),x.2.2.2.2.1,(⟨⟨x.2.2.2.2.2.1,x.2.2.2.2.2.2.1⟩,⟨x.2.2.2.2.2.2.2.1,x.2.2.2.2.2.2.2.2.1⟩⟩:Box),())=some (ZCV x.shw x.ros (rosB x.ros) x.bas,()):=e
 rw[e]
 rfl
theorem ZZF:G49 (x,(ZAr,r,n,ps,()),())=some (if(ZBc x.shw x.ros).2=true then(ZAm (ZBc x.shw x.ros).1.Low++[32])++ZAm (ZBc x.shw x.ros).1.High else ZJn,()):=by
 unfold G49 F49
 simp (config:= {decide:=true})only[devW,remW,cueW,ZAc,ZAv,ZAa,ZAh,ZAn,ZAi,ZAw,ZAd,ZAt,ZAu,ZAo,ZAx,ZAp,ZAq,ZAr,dryW,if_true,if_false,al_cond_true,al_cond_false,decide_true,decide_false,ZAG,ZAK,al_bind_some]
 have e:G117 ((x.1,x.2.1,x.2.2.1,x.2.2.2.1,()),x.2.2.2.2.1,())=some ((ZBc x.shw x.ros).1,(ZBc x.shw x.ros).2,()):=(ZSI x.shw h.ok.shw x.ros h.ok.ros).1
 rw[e]
 have:=ZCI (ZBc x.shw x.ros).1.Low
 have:=ZCI (ZBc x.shw x.ros).1.High
 simp only[al_bind_some,fpI,al_len_append,al_len_cons,al_len_nil]
 cases (ZBc x.shw x.ros).2
 ·rfl
 ·simp only[ZAG,al_cond_false,if_true]
  rw[ZAB,ZAB]
theorem ZZG:G49 (x,(dryW,r,n,ps,()),())=some (ZJs (dryV x.shw x.bas),()):=by
 unfold G49 F49
 simp (config:= {decide:=true})only[devW,remW,cueW,ZAc,ZAv,ZAa,ZAh,ZAn,ZAi,ZAw,ZAd,ZAt,ZAu,ZAo,ZAx,ZAp,ZAq,ZAr,dryW,if_true,if_false,al_cond_true,al_cond_false,decide_true,decide_false,ZAG,ZAK,al_bind_some]
 have e:G20 ((x.1,x.2.1,x.2.2.1,x.2.2.2.1,()),(⟨⟨x.2.2.2.2.2.1,x.2.2.2.2.2.2.1⟩,⟨x.2.2.2.2.2.2.2.1,x.2.2.2.2.2.2.2.2.1⟩⟩:Box),())=some (dryV x.shw x.bas,()):=(ZM1 x.shw h.ok.shw x.bas).1
 rw[e]
 cases dryV x.shw x.bas<;>rfl
end
section
variable {x:ZAP} (h:DeskV x) (r:Str) (n:Int) (ps:List Place)
include h
theorem ZZH(hr:r.length<=1048576):G48.1 (x,(devW,r,n,ps,()),())=some (ps,if(devP r).2=true then(addD x.1 (devP r).1,x.2)else x,(devP r).2 && addB x.1 (devP r).1,true,()):=by
 unfold G48 F48
 simp only[ZB3 (ZBa h.ok),ZXg r hr,al_bind_some]
 simp (config:= {decide:=true})only[devW,remW,cueW,ZAc,ZAv,ZAa,ZAh,ZAn,ZAi,ZAw,ZAd,ZAt,ZAu,ZAo,ZAx,ZAp,ZAq,ZAr,dryW,if_true,if_false,al_cond_true,al_cond_false,decide_true,decide_false,ZAG,ZAK,al_bind_some]
 have hk:(devP r).1.Name.length<=1048576/\(devP r).1.Line.length<=1048576:=ZSN r
 have e:=ZXq x.1 h.ok.shw.rig h.ok.shw.devs (devP r).1 hk.1 hk.2
 cases (devP r).2
 ·rfl
 ·simp only[al_cond_true,e,al_bind_some];rfl
theorem ZZI:G48.1 (x,(remW,r,n,ps,()),())=some (ps,(remD x.1 r,x.2),remB x.1 r,true,()):=by
 unfold G48 F48
 simp only[ZB3 (ZBa h.ok),al_bind_some]
 simp (config:= {decide:=true})only[devW,remW,cueW,ZAc,ZAv,ZAa,ZAh,ZAn,ZAi,ZAw,ZAd,ZAt,ZAu,ZAo,ZAx,ZAp,ZAq,ZAr,dryW,if_true,if_false,al_cond_true,al_cond_false,decide_true,decide_false,ZAG,ZAK,al_bind_some]
 simp only[ZXv x.1 h.ok.shw.rig h.ok.shw.devs r,al_bind_some]
theorem ZZJ(hr:r.length<=1048576):G48.1 (x,(cueW,r,n,ps,()),())=some (ps,if(cueP r).2=true then(x.1,ZCr x.2.1 (cueP r).1,x.2.2)else x,(cueP r).2 && ZBs x.2.1 (cueP r).1,true,()):=by
 unfold G48 F48
 simp only[ZB3 (ZBa h.ok),ZXl r hr,al_bind_some]
 simp (config:= {decide:=true})only[devW,remW,cueW,ZAc,ZAv,ZAa,ZAh,ZAn,ZAi,ZAw,ZAd,ZAt,ZAu,ZAo,ZAx,ZAp,ZAq,ZAr,dryW,if_true,if_false,al_cond_true,al_cond_false,decide_true,decide_false,ZAG,ZAK,al_bind_some]
 have e:G105 (x.2.1,(cueP r).1,())=some (ZCr x.2.1 (cueP r).1,ZBs x.2.1 (cueP r).1,()):=ZXz x.2.1 h.ok.shw.score h.ok.shw.names (cueP r).1 (ZSO r)
 cases (cueP r).2
 ·rfl
 ·simp only[al_cond_true,e,al_bind_some];rfl
theorem ZZK(p:Place):G48.1 (x,(ZAc,r,n,[p],()),())=some ([p],(x.1,x.2.1,jnD x.2.2.1 p n,x.2.2.2),jnB x.2.2.1 p n,true,()):=by
 unfold G48 F48
 simp only[ZB3 (ZBa h.ok),al_bind_some]
 simp (config:= {decide:=true})only[devW,remW,cueW,ZAc,ZAv,ZAa,ZAh,ZAn,ZAi,ZAw,ZAd,ZAt,ZAu,ZAo,ZAx,ZAp,ZAq,ZAr,dryW,if_true,if_false,al_cond_true,al_cond_false,decide_true,decide_false,ZAG,ZAK,al_bind_some]
 have e:G106 (x.2.2.1,[⟨0,⟨p.X,p.Y⟩⟩],n,())=some (jnD x.2.2.1 p n,jnB x.2.2.1 p n,()):=ZX5 x.2.2.1 h.ok.shw.wind p n
 simp only[rd0,show([p]:List Place)[Int.toNat 0]?=some p from rfl,al_bind_some,e]
theorem ZZL:G48.1 (x,(ZAv,r,n,ps,()),())=some (ps,(x.1,x.2.1,x.2.2.1,n,x.2.2.2.2),decide (n<=64),true,()):=by
 unfold G48 F48
 simp only[ZB3 (ZBa h.ok),al_bind_some]
 simp (config:= {decide:=true})only[devW,remW,cueW,ZAc,ZAv,ZAa,ZAh,ZAn,ZAi,ZAw,ZAd,ZAt,ZAu,ZAo,ZAx,ZAp,ZAq,ZAr,dryW,if_true,if_false,al_cond_true,al_cond_false,decide_true,decide_false,ZAG,ZAK,al_bind_some]
theorem ZZM(p q:Place):G48.1 (x,(ZAh,r,n,[p,q],()),())=some ([p,q],ZH1 x p q,isBx ⟨p,q⟩,true,()):=by
 unfold G48 F48
 simp only[ZB3 (ZBa h.ok),al_bind_some]
 simp (config:= {decide:=true})only[devW,remW,cueW,ZAc,ZAv,ZAa,ZAh,ZAn,ZAi,ZAw,ZAd,ZAt,ZAu,ZAo,ZAx,ZAp,ZAq,ZAr,dryW,if_true,if_false,al_cond_true,al_cond_false,decide_true,decide_false,ZAG,ZAK,al_bind_some]
 have e:G52 ((⟨⟨p.X,p.Y⟩,⟨q.X,q.Y⟩⟩:Box),())=some (isBx ⟨p,q⟩,()):=ZEk _
 simp only[rd0,rd1,show([p,q]:List Place)[Int.toNat 0]?=some p from rfl,show([p,q]:List Place)[Int.toNat 1]?=some q from rfl,al_bind_some,e]
 rfl
theorem ZZN:G48.1 (x,(ZAn,r,n,ps,()),())=some (ps,ZB2 x (ZCW x.shw n),true,true,()):=by
 unfold G48 F48
 simp only[ZB3 (ZBa h.ok),al_bind_some]
 simp (config:= {decide:=true})only[devW,remW,cueW,ZAc,ZAv,ZAa,ZAh,ZAn,ZAi,ZAw,ZAd,ZAt,ZAu,ZAo,ZAx,ZAp,ZAq,ZAr,dryW,if_true,if_false,al_cond_true,al_cond_false,decide_true,decide_false,ZAG,ZAK,al_bind_some]
 have e:G107 ((x.1,x.2.1,x.2.2.1,x.2.2.2.1,()),n,())=some (ZCW x.shw n,()):=(ZMz x.shw h.ok.shw n).1
 rw[e];rfl
theorem ZZO(p:Place):G48.1 (x,(ZAi,r,n,[p],()),())=some ([p],ZB2 x (ZBR x.shw p).1,(ZBR x.shw p).2,true,()):=by
 unfold G48 F48
 simp only[ZB3 (ZBa h.ok),al_bind_some]
 simp (config:= {decide:=true})only[devW,remW,cueW,ZAc,ZAv,ZAa,ZAh,ZAn,ZAi,ZAw,ZAd,ZAt,ZAu,ZAo,ZAx,ZAp,ZAq,ZAr,dryW,if_true,if_false,al_cond_true,al_cond_false,decide_true,decide_false,ZAG,ZAK,al_bind_some]
 have e:G108 ((x.1,x.2.1,x.2.2.1,x.2.2.2.1,()),p,())=some ((ZBR x.shw p).1,(ZBR x.shw p).2,()):=(ZM0 x.shw h.ok.shw p).1
 simp only[rd0,show([p]:List Place)[Int.toNat 0]?=some p from rfl,al_bind_some,e]
 rfl
theorem ZZP:G48.1 (x,(ZAw,r,n,ps,()),())=some (ps,ZB2 x (lmS x.ros x.bas x.shw),true,true,()):=by
 unfold G48 F48
 simp only[ZB3 (ZBa h.ok),al_bind_some]
 simp (config:= {decide:=true})only[devW,remW,cueW,ZAc,ZAv,ZAa,ZAh,ZAn,ZAi,ZAw,ZAd,ZAt,ZAu,ZAo,ZAx,ZAp,ZAq,ZAr,dryW,if_true,if_false,al_cond_true,al_cond_false,decide_true,decide_false,ZAG,ZAK,al_bind_some]
 have e:G109 ((x.1,x.2.1,x.2.2.1,x.2.2.2.1,()),x.2.2.2.2.1,(⟨⟨x.2.2.2.2.2.1,x.2.2.2.2.2.2.1⟩,⟨x.2.2.2.2.2.2.2.1,x.2.2.2.2.2.2.2.2.1⟩⟩:Box),())=some (lmS x.ros x.bas x.shw,true,()):=(ZSM h).1
 rw[e];rfl
theorem ZZQ(hp:ps.length<=1048576):G48.2 (x,(ZAa,r,n,ps,()),())=some (ps,(x.1,x.2.1,x.2.2.1,x.2.2.2.1,(),x.2.2.2.2.2),rosB ps,true,()):=by
 unfold G48 F48
 simp only[ZB3 (ZBa h.ok),al_bind_some]
 simp (config:= {decide:=true})only[devW,remW,cueW,ZAc,ZAv,ZAa,ZAh,ZAn,ZAi,ZAw,ZAd,ZAt,ZAu,ZAo,ZAx,ZAp,ZAq,ZAr,dryW,if_true,if_false,al_cond_true,al_cond_false,decide_true,decide_false,ZAG,ZAK,al_bind_some]
 rw[ZGh ps hp];rfl
theorem ZED{w:Str}(hw:w=ZAd\/w=ZAt\/w=ZAu\/w=ZAo\/w=ZAx\/w=ZAp\/w=ZAq\/w=ZAr\/w=dryW):G48.1 (x,(w,r,n,ps,()),())=some (ps,x,false,false,()):=by
 unfold G48 F48
 simp only[ZB3 (ZBa h.ok),al_bind_some]
 rcases hw with rfl | rfl | rfl | rfl | rfl | rfl | rfl | rfl | rfl<;>simp (config:= {decide:=true})only[devW,remW,cueW,ZAc,ZAv,ZAa,ZAh,ZAn,ZAi,ZAw,ZAd,ZAt,ZAu,ZAo,ZAx,ZAp,ZAq,ZAr,dryW,if_true,if_false,al_cond_true,al_cond_false,decide_true,decide_false,ZAG,ZAK,al_bind_some]
end
section
variable {x:ZAP} (h:DeskV x) {c:UInt8} {l:Str} (hc:c.toNat≠35)
include h hc
theorem ZSP{y:PT}(h47:G47 (c::l,())=some (y,false,())):G18 (x,c::l,())=some (x,ZBL,()):=by
 unfold G18 F18
 rw[ZEC x h.ok,ZDp h]
 simp only[al_bind_some,ZAG,ZAK,al_cond_true,rd0,h47,ZB3 (ZBa h.ok)]
 rw[ZAE (by simp),ZAA (by simp only[ZAT];omega)]
 rfl
theorem ZEE{w r:Str}{n:Int}{ps ps':List Place}{y:ZAP}{ok:Bool}(h47:G47 (c::l,())=some ((w,r,n,ps,()),true,()))(hw:w≠ZAa)(h48:G48.1 (x,(w,r,n,ps,()),())=some (ps',y,ok,true,())):
  G18 (x,c::l,())=some (if ok=true then(y,yesT,())else(x,noT2,())):=by
 unfold G18 F18
 rw[ZEC x h.ok,ZDp h]
 simp only[al_bind_some,ZA4,rd0,h47,h48,ZB3 (ZBa h.ok)]
 rw[ZAE (by simp),ZAA (by simp only[ZAT];omega),ZAA (show¬w=[114,111,115,101]from hw)]
 cases ok<;>rfl
theorem ZEF{w r:Str}{n:Int}{ps ps':List Place}{y:ZAP}{ok:Bool}{t:Str}(h47:G47 (c::l,())=some ((w,r,n,ps,()),true,()))(hw:w≠ZAa)(h48:G48.1 (x,(w,r,n,ps,()),())=some (ps',y,ok,false,()))(h49:G49 (x,(w,r,n,ps',()),())=some (t,())):
  G18 (x,c::l,())=some (x,t,()):=by
 unfold G18 F18
 rw[ZEC x h.ok,ZDp h]
 simp only[al_bind_some,ZA4,rd0,h47,h48,h49,ZB3 (ZBa h.ok)]
 rw[ZAE (by simp),ZAA (by simp only[ZAT];omega),ZAA (show¬w=[114,111,115,101]from hw)]
 rfl
theorem ZZR{r:Str}{n:Int}{ps:List Place}(hp:ps.length<=1048576)(h47:G47 (c::l,())=some ((ZAa,r,n,ps,()),true,())):
  G18 (x,c::l,())=some (if rosB ps=true then(ZH0 x ps,yesT,())else(x,noT2,())):=by
 have h48:=ZZQ h r n ps hp
 unfold G18 F18
 rw[ZEC x h.ok,ZDp h]
 simp only[al_bind_some,ZA4,rd0,h47,h48,ZB3 (ZBa h.ok)]
 rw[ZAE (by simp),ZAA (by simp only[ZAT];omega),ZA (show ZAa=[114,111,115,101]from rfl)]
 cases rosB ps<;>rfl
end
theorem ZFg{r:Str}(h:(splC 32 r).length=1):splC 32 r=[r]:=by
 rcases ZFV 32 r with ⟨_,e⟩ | ⟨p,q,_,_,e2⟩
 ·exact e
 ·rw[e2]at h
  have:=List.length_pos_iff.mpr (ZCJ 32 q)
  simp at h;exact absurd h (ZCJ 32 q)
theorem ZH3{r:Str}(h:(splC 32 r).length=2):splC 32 r=[wAt (splC 32 r) 0,wAt (splC 32 r) 1]:=by
 generalize splC 32 r=l at h
 match l,h with
 | [a,b],_=>rfl
section
variable {p r:Str} (hl:(p++32::r).length<=1048576) (h: ∀x∈p,x≠32)
include hl h
theorem rd_n(hs:G97 (p,())=some ([110],true,()))(h1:(splC 32 r).length=1):G47 (p++32::r,())=some ((p,r,0,[],()),true,()):=by
 obtain⟨m,hm⟩:=ZB0 3 (by omega)
 rw[ZFf hl h hs (by decide),al_if_pos (show(splC 32 r).length=([110]:Str).length from h1),ZFg h1,hm]
 refine(ZYo _ _ _ _ _ (m+1)).trans ?_
 rfl
theorem ZGi{c:Str}(hs:G97 (p,())=some (c,true,()))(hc:c≠[]/\c≠[84]/\c≠[42])(h1:(splC 32 r).length≠c.length): ∃y:PT,G47 (p++32::r,())=some (y,false,()):=by
 rw[ZFf hl h hs hc,al_if_neg h1]
 exact⟨_,rfl⟩
theorem rd_N(hs:G97 (p,())=some ([78],true,()))(h1:(splC 32 r).length=1):G47 (p++32::r,())=some ((p,r,(numP r).1,[],()),(numP r).2,()):=by
 obtain⟨m,hm⟩:=ZB0 3 (by omega)
 rw[ZFf hl h hs (by decide),al_if_pos (show(splC 32 r).length=([78]:Str).length from h1),ZFg h1,hm]
 refine(ZYn _ _ _ _ _ (m+1)).trans ?_
 rw[ZGe r (rlen hl)]
 simp only[al_bind_some]
 cases (numP r).2<;>rfl
theorem rd_P(hs:G97 (p,())=some ([80],true,()))(h1:(splC 32 r).length=1):G47 (p++32::r,())=some ((p,r,0,[(ZAR r).1],()),(ZAR r).2,()):=by
 obtain⟨m,hm⟩:=ZB0 3 (by omega)
 rw[ZFf hl h hs (by decide),al_if_pos (show(splC 32 r).length=([80]:Str).length from h1),ZFg h1,hm]
 refine(ZYp _ _ _ _ _ (m+1)).trans ?_
 rw[ZGf r (rlen hl)]
 simp only[al_bind_some]
 rw[ZAB]
 cases (ZAR r).2<;>rfl
theorem ZZS(hs:G97 (p,())=some ([78,80],true,()))(h1:(splC 32 r).length=2):
  if(numP (wAt (splC 32 r) 0)).2=true/\(ZAR (wAt (splC 32 r) 1)).2=true then G47 (p++32::r,())=some ((p,r,(numP (wAt (splC 32 r) 0)).1,[(ZAR (wAt (splC 32 r) 1)).1],()),true,())else∃y:PT,G47 (p++32::r,())=some (y,false,()):=by
 obtain⟨m,hm⟩:=ZB0 3 (by omega)
 have l0:(wAt (splC 32 r) 0).length<=1048576:=Nat.le_trans ZC8 (rlen hl)
 have l1:(wAt (splC 32 r) 1).length<=1048576:=Nat.le_trans ZC8 (rlen hl)
 have e:=ZH3 h1
 rw[ZFf hl h hs (by decide),al_if_pos (show(splC 32 r).length=([78,80]:Str).length from h1),hm]
 generalize wAt (splC 32 r) 0=a at e l0
 generalize wAt (splC 32 r) 1=b at e l1
 rw[e]
 have ep:=ZYq ([],[],0,[],()) (p,r,0,[],()) true a b (λx4=>some (x4.2.2.2.1,true,())) m
 have ep':=ep
 simp only[ZGe a l0,ZGf b l1,al_bind_some]at ep'
 rw[ZAB]at ep'
 split
 ·rename_i hh
  refine ep'.trans ?_
  rw[hh.1,hh.2];rfl
 ·rename_i hh
  cases q1:(numP a).2 with
  | false=>rw[q1]at ep';exact⟨_,ep'⟩
  | true=>
   cases q2:(ZAR b).2 with
   | false=>rw[q1,q2]at ep';exact⟨_,ep'⟩
   | true=>exact absurd ⟨q1,q2⟩ hh
theorem ZZT(hs:G97 (p,())=some ([80,80],true,()))(h1:(splC 32 r).length=2):
  if(ZAR (wAt (splC 32 r) 0)).2=true/\(ZAR (wAt (splC 32 r) 1)).2=true then G47 (p++32::r,())=some ((p,r,0,[(ZAR (wAt (splC 32 r) 0)).1,(ZAR (wAt (splC 32 r) 1)).1],()),true,())else∃y:PT,G47 (p++32::r,())=some (y,false,()):=by
 obtain⟨m,hm⟩:=ZB0 3 (by omega)
 have l0:(wAt (splC 32 r) 0).length<=1048576:=Nat.le_trans ZC8 (rlen hl)
 have l1:(wAt (splC 32 r) 1).length<=1048576:=Nat.le_trans ZC8 (rlen hl)
 have e:=ZH3 h1
 rw[ZFf hl h hs (by decide),al_if_pos (show(splC 32 r).length=([80,80]:Str).length from h1),hm]
 generalize wAt (splC 32 r) 0=a at e l0
 generalize wAt (splC 32 r) 1=b at e l1
 rw[e]
 have ep:=ZYr ([],[],0,[],()) (p,r,0,[],()) true a b (λx4=>some (x4.2.2.2.1,true,())) m
 have ep':=ep
 simp only[ZGf a l0,ZGf b l1,al_bind_some]at ep'
 rw[ZAB,ZAB]at ep'
 split
 ·rename_i hh
  refine ep'.trans ?_
  rw[hh.1,hh.2];rfl
 ·rename_i hh
  cases q1:(ZAR a).2 with
  | false=>rw[q1]at ep';exact⟨_,ep'⟩
  | true=>
   cases q2:(ZAR b).2 with
   | false=>rw[q1,q2]at ep';exact⟨_,ep'⟩
   | true=>exact absurd ⟨q1,q2⟩ hh
theorem ZZU(hs:G97 (p,())=some ([110,78],true,()))(h1:(splC 32 r).length=2):
  if(numP (wAt (splC 32 r) 1)).2=true then G47 (p++32::r,())=some ((p,wAt (splC 32 r) 0,(numP (wAt (splC 32 r) 1)).1,[],()),true,())else∃y:PT,G47 (p++32::r,())=some (y,false,()):=by
 obtain⟨m,hm⟩:=ZB0 3 (by omega)
 have l1:(wAt (splC 32 r) 1).length<=1048576:=Nat.le_trans ZC8 (rlen hl)
 have e:=ZH3 h1
 rw[ZFf hl h hs (by decide),al_if_pos (show(splC 32 r).length=([110,78]:Str).length from h1),hm]
 generalize wAt (splC 32 r) 0=a at e
 generalize wAt (splC 32 r) 1=b at e l1
 rw[e]
 have ep':=ZYs ([],[],0,[],()) (p,r,0,[],()) true a b (λx4=>some (x4.2.2.2.1,true,())) m
 simp only[ZGe b l1,al_bind_some]at ep'
 split
 ·rename_i hh
  refine ep'.trans ?_
  rw[hh];rfl
 ·rename_i hh
  have q1:(numP b).2=false:=by cases q:(numP b).2<;>simp_all
  rw[q1]at ep';exact⟨_,ep'⟩
end
end Ev
end
noncomputable section
namespace Ev
open Go
theorem ZSQ(x:ZAP){p r:Str}(h:p∉ZC9):ZA0 x p r=(x,ZBL):=by
 simp only[ZC9,List.mem_cons,List.mem_append,List.not_mem_nil,or_false,not_or]at h
 obtain⟨⟨⟨b1,b2,b3,b4⟩,b5⟩,b10,b11,b12,b13⟩:=h
 unfold ZA0
 rw[al_if_neg b1,al_if_neg b2,al_if_neg b3,al_if_neg b13,al_if_neg b4,al_if_neg b5,al_if_neg b10,al_if_neg b11,al_if_neg b12]
theorem ZZV(x:ZAP){l:Str}(h:l∉ZDY):oneR x l=(x,ZBL):=by
 simp only[ZDY,List.mem_cons,List.not_mem_nil,or_false,not_or]at h
 obtain⟨a1,a2,a3,a4,a5,a6⟩:=h
 unfold oneR
 rw[al_if_neg a1,al_if_neg a2,al_if_neg a3,al_if_neg a4,al_if_neg a5,al_if_neg a6]
section
variable (x:ZAP) (r:Str)
theorem ZSR:ZA0 x devW r=(if((devP r).2 && addB x.1 (devP r).1)=true then((addD x.1 (devP r).1,x.2),yesT)else(x,noT2)):=by
 rw[ZA0,al_if_pos rfl]
theorem ZSS:ZA0 x cueW r=(if((cueP r).2 && ZBs x.2.1 (cueP r).1)=true then((x.1,ZCr x.2.1 (cueP r).1,x.2.2),yesT)else(x,noT2)):=by
 rw[ZA0,al_if_neg,al_if_pos rfl]
theorem ZM2:ZA0 x remW r=(if(splC 32 r).length=1 then(if remB x.1 r=true then((remD x.1 r,x.2),yesT)else(x,noT2))else(x,ZBL)):=by
 rw[ZA0,al_if_neg,al_if_neg,al_if_pos rfl]
theorem ZST:ZA0 x ZAd r=(if(splC 32 r).length=2/\(numP (wAt (splC 32 r) 1)).2=true then(x,ZAQ (lvl x.2.1 (wAt (splC 32 r) 0) (numP (wAt (splC 32 r) 1)).1))else(x,ZBL)):=by
 rw[ZA0,al_if_neg,al_if_neg,al_if_neg,al_if_pos rfl]
theorem ZSU:ZA0 x ZAc r=(if(splC 32 r).length=2/\(numP (wAt (splC 32 r) 0)).2=true/\(ZAR (wAt (splC 32 r) 1)).2=true then
  (if jnB x.2.2.1 (ZAR (wAt (splC 32 r) 1)).1 (numP (wAt (splC 32 r) 0)).1=true then((x.1,x.2.1,jnD x.2.2.1 (ZAR (wAt (splC 32 r) 1)).1 (numP (wAt (splC 32 r) 0)).1,x.2.2.2),yesT)else(x,noT2))else(x,ZBL)):=by
 rw[ZA0,al_if_neg,al_if_neg,al_if_neg,al_if_neg,al_if_pos rfl]
theorem ZSV{w:Str}(h:w∈ZBu):w≠devW/\w≠cueW/\w≠remW/\w≠ZAd/\w≠ZAc/\w≠ZAa:=by
 simp only[ZBu,List.mem_cons,List.not_mem_nil,or_false]at h
 rcases h with rfl | rfl | rfl | rfl | rfl<;>decide
theorem ZSW{w:Str}(h:w∈ZBu):ZA0 x w r=(if(splC 32 r).length=1/\(numP r).2=true then ZBi x w (numP r).1 else(x,ZBL)):=by
 obtain⟨h1,h2,h3,h4,h5,_⟩:=ZSV h
 rw[ZA0,al_if_neg h1,al_if_neg h2,al_if_neg h3,al_if_neg h4,al_if_neg h5,al_if_pos h]
theorem ZSX:ZA0 x ZAa r=(if ZAe (splC 32 r)=true then(if rosB (ZA7 (splC 32 r))=true then(ZH0 x (ZA7 (splC 32 r)),yesT)else(x,noT2))else(x,ZBL)):=by
 rw[ZA0,al_if_neg,al_if_neg,al_if_neg,al_if_neg,al_if_neg,al_if_neg,al_if_pos rfl]
theorem ZSY:ZA0 x ZAh r=(if(splC 32 r).length=2/\ZAe (splC 32 r)=true then(if isBx ⟨(ZAR (wAt (splC 32 r) 0)).1,(ZAR (wAt (splC 32 r) 1)).1⟩=true then(ZH1 x (ZAR (wAt (splC 32 r) 0)).1 (ZAR (wAt (splC 32 r) 1)).1,yesT)else(x,noT2))else(x,ZBL)):=by
 rw[ZA0,al_if_neg,al_if_neg,al_if_neg,al_if_neg,al_if_neg,al_if_neg,al_if_neg,al_if_pos rfl]
theorem ZSZ:ZA0 x ZAi r=(if(splC 32 r).length=1/\ZAe (splC 32 r)=true then(if(ZBR x.shw (ZAR r).1).2=true then(ZB2 x (ZBR x.shw (ZAR r).1).1,yesT)else(x,noT2))else(x,ZBL)):=by
 rw[ZA0,al_if_neg,al_if_neg,al_if_neg,al_if_neg,al_if_neg,al_if_neg,al_if_neg,al_if_neg,al_if_pos rfl]
end
section
variable {x:ZAP} (h:DeskV x) {c:UInt8} {l:Str} (hc:c.toNat≠35) (hl:(c::l).length<=1048576)
include h hc hl
theorem ZZW(hn: ∀b∈c::l,b≠32):G18 (x,c::l,())=some ((oneR x (c::l)).1,(oneR x (c::l)).2,()):=by
 obtain⟨r1,r2⟩:=ZYi hl hn
 by_cases hm:c::l∈ZDY
 ·have h47:=r1 hm
  simp only[ZDY,List.mem_cons,List.not_mem_nil,or_false]at hm
  rcases hm with e | e | e | e | e | e
  ·have h48:=ZZP h [] 0 []
   rw[<-e]at h48
   exact(ZEE h hc h47 (by rw[e];decide) h48).trans (by rw[e];rfl)
  ·have h48:=ZED h [] 0 [] (w:=ZAo) (by simp)
   have h49:=ZZB h [] 0 []
   rw[<-e]at h48 h49
   exact(ZEF h hc h47 (by rw[e];decide) h48 h49).trans (by rw[e];rfl)
  ·have h48:=ZED h [] 0 [] (w:=ZAp) (by simp)
   have h49:=ZZD h [] 0 []
   rw[<-e]at h48 h49
   exact(ZEF h hc h47 (by rw[e];decide) h48 h49).trans (by rw[e];rfl)
  ·have h48:=ZED h [] 0 [] (w:=ZAq) (by simp)
   have h49:=ZZE h [] 0 []
   rw[<-e]at h48 h49
   exact(ZEF h hc h47 (by rw[e];decide) h48 h49).trans (by rw[e];rfl)
  ·have h48:=ZED h [] 0 [] (w:=ZAr) (by simp)
   have h49:=ZZF h [] 0 []
   rw[<-e]at h48 h49
   exact(ZEF h hc h47 (by rw[e];decide) h48 h49).trans (by rw[e];rfl)
  ·have h48:=ZED h [] 0 [] (w:=dryW) (by simp)
   have h49:=ZZG h [] 0 []
   rw[<-e]at h48 h49
   exact(ZEF h hc h47 (by rw[e];decide) h48 h49).trans (by rw[e];rfl)
 ·obtain⟨y,hy⟩:=r2 hm
  rw[ZSP h hc hy,ZZV x hm]
theorem ZZX{p r:Str}(e:c::l=p++32::r)(hp: ∀b∈p,b≠32):G18 (x,c::l,())=some ((ZA0 x p r).1,(ZA0 x p r).2,()):=by
 have hl':(p++32::r).length<=1048576:=by rw[<-e];exact hl
 have hrl:=rlen hl'
 have bad: ∀ {z:Str} ,(∃y:PT,G47 (p++32::r,())=some (y,false,()))->G18 (x,c::l,())=some (x,ZBL,()):=by
  intro _ ⟨y,hy⟩
  rw[<-e]at hy
  exact ZSP h hc hy
 by_cases hm:p∈ZC9
 ·simp only[ZC9,List.mem_cons,List.mem_append,List.not_mem_nil,or_false]at hm
  rcases hm with (((rfl | rfl | rfl | rfl) | hn) | (rfl | rfl | rfl | rfl))
  ·have h47:=ZSB hl' hp (Or.inl rfl)
   rw[<-e]at h47
   refine(ZEE h hc h47 (by decide) (ZZH h r 0 [] hrl)).trans ?_
   rw[ZSR]
   cases (devP r).2
   ·rfl
   ·cases addB x.1 (devP r).1<;>rfl
  ·have h47:=ZSB hl' hp (Or.inr rfl)
   rw[<-e]at h47
   refine(ZEE h hc h47 (by decide) (ZZJ h r 0 [] hrl)).trans ?_
   rw[ZSS]
   cases (cueP r).2
   ·rfl
   ·cases ZBs x.2.1 (cueP r).1<;>rfl
  ·rw[ZM2]
   by_cases h1:(splC 32 r).length=1
   ·have h47:=rd_n hl' hp rfl h1
    rw[<-e]at h47
    refine(ZEE h hc h47 (by decide) (ZZI h r 0 [])).trans ?_
    rw[al_if_pos h1]
    cases remB x.1 r<;>rfl
   ·rw[al_if_neg h1]
    exact bad (z:=[]) (ZGi hl' hp (c:=[110]) rfl (by decide) h1)
  ·rw[ZSU]
   by_cases h1:(splC 32 r).length=2
   ·have hh:=ZZS hl' hp rfl h1
    by_cases h2:(numP (wAt (splC 32 r) 0)).2=true/\(ZAR (wAt (splC 32 r) 1)).2=true
    ·rw[al_if_pos h2,<-e]at hh
     rw[al_if_pos ⟨h1,h2⟩]
     refine(ZEE h hc hh (by decide) (ZZK h r _ _)).trans ?_
     cases jnB x.2.2.1 (ZAR (wAt (splC 32 r) 1)).1 (numP (wAt (splC 32 r) 0)).1<;>rfl
    ·rw[al_if_neg h2]at hh
     rw[al_if_neg (λq=>h2 q.2)]
     exact bad (z:=[]) hh
   ·rw[al_if_neg (λq=>h1 q.1)]
    exact bad (z:=[]) (ZGi hl' hp (c:=[78,80]) rfl (by decide) h1)
  ·have hn':p∈ZBu:=hn
   simp only[ZBu,List.mem_cons,List.not_mem_nil,or_false]at hn
   have hs:=ZYh hn'
   rw[ZSW x r hn']
   by_cases h1:(splC 32 r).length=1
   ·have h47:=rd_N hl' hp hs h1
    cases hb:(numP r).2 with
    | false=>
     rw[hb]at h47
     rw[al_if_neg (by simp)]
     exact bad (z:=[]) ⟨_,h47⟩
    | true=>
     rw[hb,<-e]at h47
     rw[al_if_pos ⟨h1,rfl⟩]
     rcases hn with rfl | rfl | rfl | rfl | rfl
     ·refine(ZEE h hc h47 (by decide) (ZZL h r _ [])).trans ?_
      rw[ZBi,al_if_pos rfl]
      by_cases h6:(numP r).1<=64
      ·rw[ZAH h6,al_if_pos h6];rfl
      ·rw[ZAE h6,al_if_neg h6];rfl
     ·refine(ZEE h hc h47 (by decide) (ZZN h r _ [])).trans ?_
      rw[show ZBi x ZAn (numP r).1=(ZB2 x (ZCW x.shw (numP r).1),yesT)from by rw[ZBi,al_if_neg,al_if_pos rfl]];rfl
     ·refine(ZEF h hc h47 (by decide) (ZED h r _ [] (by simp)) (ZZ h r _ [])).trans ?_
      rw[ZBi,al_if_neg,al_if_neg,al_if_pos rfl]
     ·refine(ZEF h hc h47 (by decide) (ZED h r _ [] (by simp)) (ZZA h r _ [])).trans ?_
      rw[ZBi,al_if_neg,al_if_neg,al_if_neg,al_if_pos rfl]
     ·refine(ZEF h hc h47 (by decide) (ZED h r _ [] (by simp)) (ZZC h r _ [])).trans ?_
      rw[ZBi,al_if_neg,al_if_neg,al_if_neg,al_if_neg]
   ·rw[al_if_neg (λq=>h1 q.1)]
    exact bad (z:=[]) (ZGi hl' hp hs (by decide) h1)
  ·rw[ZSX]
   have hh:=ZYm hl' hp rfl
   cases hb:ZAe (splC 32 r)with
   | false=>
    rw[hb]at hh
    rw[al_if_neg (by simp)]
    exact bad (z:=[]) ⟨_,hh⟩
   | true=>
    rw[hb,al_if_pos rfl,<-e]at hh
    rw[al_if_pos rfl]
    have hlen:(ZA7 (splC 32 r)).length<=1048576:=by
     unfold ZA7
     rw[List.length_map]
     have:=ZGU 32 r
     simp at hl';omega
    refine(ZZR h hc hlen hh).trans ?_
    cases rosB (ZA7 (splC 32 r))<;>rfl
  ·rw[ZSY]
   by_cases h1:(splC 32 r).length=2
   ·have hh:=ZZT hl' hp rfl h1
    have e2:ZAe (splC 32 r)=true↔(ZAR (wAt (splC 32 r) 0)).2=true/\(ZAR (wAt (splC 32 r) 1)).2=true:=by
     rw[ZH3 h1]
     unfold ZAe
     simp[wAt]
    by_cases h2:(ZAR (wAt (splC 32 r) 0)).2=true/\(ZAR (wAt (splC 32 r) 1)).2=true
    ·rw[al_if_pos h2,<-e]at hh
     rw[al_if_pos ⟨h1,e2.2 h2⟩]
     refine(ZEE h hc hh (by decide) (ZZM h r 0 _ _)).trans ?_
     cases isBx ⟨(ZAR (wAt (splC 32 r) 0)).1,(ZAR (wAt (splC 32 r) 1)).1⟩<;>rfl
    ·rw[al_if_neg h2]at hh
     rw[al_if_neg (λq=>h2 (e2.1 q.2))]
     exact bad (z:=[]) hh
   ·rw[al_if_neg (λq=>h1 q.1)]
    exact bad (z:=[]) (ZGi hl' hp (c:=[80,80]) rfl (by decide) h1)
  ·rw[ZSZ]
   by_cases h1:(splC 32 r).length=1
   ·have h47:=rd_P hl' hp rfl h1
    have e2:ZAe (splC 32 r)=(ZAR r).2:=by rw[ZFg h1];unfold ZAe;simp
    rw[e2]
    cases hb:(ZAR r).2 with
    | false=>
     rw[hb]at h47
     rw[al_if_neg (by simp)]
     exact bad (z:=[]) ⟨_,h47⟩
    | true=>
     rw[hb,<-e]at h47
     rw[al_if_pos ⟨h1,rfl⟩]
     refine(ZEE h hc h47 (by decide) (ZZO h r 0 _)).trans ?_
     cases (ZBR x.shw (ZAR r).1).2<;>rfl
   ·rw[al_if_neg (λq=>h1 q.1)]
    exact bad (z:=[]) (ZGi hl' hp (c:=[80]) rfl (by decide) h1)
  ·rw[ZST]
   by_cases h1:(splC 32 r).length=2
   ·have hh:=ZZU hl' hp rfl h1
    by_cases h2:(numP (wAt (splC 32 r) 1)).2=true
    ·rw[al_if_pos h2,<-e]at hh
     rw[al_if_pos ⟨h1,h2⟩]
     exact ZEF h hc hh (by decide) (ZED h _ _ [] (by simp)) (ZY9 h _ _ [])
    ·rw[al_if_neg h2]at hh
     rw[al_if_neg (λq=>h2 q.2)]
     exact bad (z:=[]) hh
   ·rw[al_if_neg (λq=>h1 q.1)]
    exact bad (z:=[]) (ZGi hl' hp (c:=[110,78]) rfl (by decide) h1)
 ·rw[ZSQ x hm]
  exact bad (z:=[]) (ZYl hl' hp hm)
theorem ZZY:G18 (x,c::l,())=some ((ZBd x (c::l)).1,(ZBd x (c::l)).2,()):=by
 rcases ZFV 32 (c::l)with ⟨hn,_⟩ | ⟨p,r,e,hp,_⟩
 ·rw[ZJt x hn]
  exact ZZW h hc hl hn
 ·rw[show ZBd x (c::l)=ZA0 x p r from by rw[e];exact ZJu x hp]
  exact ZZX h hc hl e hp
end
end Ev
end
noncomputable section
namespace Ev
open Go
theorem ZFh(b:Bool):G247 (b,())=some (if b=true then yesT else noT2,()):=by cases b<;>rfl
theorem ZSa{l:List Device}{d:Device}(h:addB l d=false):addD l d=l:=by unfold addD;rw[h];rfl
theorem ZZZ{l:List Device}{s:Str}(h:remB l s=false):remD l s=l:=by unfold remD;rw[h];rfl
theorem ZSb{l:List Cue}{x:Cue}(h:ZBs l x=false):ZCr l x=l:=by unfold ZCr;rw[h];rfl
theorem ZZa{r:Str}(h:(devP r).2=false):(devP r).1=ZD:=by
 unfold devP at h⊢
 split
 ·rename_i hh;rw[al_if_pos hh]at h;cases h
 ·rfl
theorem ZZb{r:Str}(h:(cueP r).2=false):(cueP r).1=ZC:=by
 unfold cueP at h⊢
 split
 ·rename_i hh;rw[al_if_pos hh]at h;cases h
 ·rfl
theorem ZSc(l:List Device):addB l ZD=false:=by
 unfold addB
 rw[show devB ZD=false from rfl];cases rigB l<;>rfl
theorem ZSd(l:List Cue):ZBs l ZC=false:=by
 unfold ZBs
 rw[show ZAz ZC=false from rfl];cases scB l<;>rfl
theorem ZSe{r:Str}(h:(numP r).2=true):(ZAR r).2=false:=by
 rcases ZMM r with ⟨e,_⟩ | ⟨p,hp,e,_⟩
 ·rw[e]
 ·rcases ZFX r with q | ⟨m,hm,e2,_⟩
  ·rw[q]at h;cases h
  ·exfalso
   obtain⟨c,t,e3,_⟩:=ZGZ hp
   have hx:(105:UInt8)∈Go.Lib.itoa m:=by
    rw[<-e2,e,e3];simp
   have:=ZGX hm 105 hx
   exact absurd this (by decide)
section
variable {x:ZAP} (h:DeskV x)
include h
theorem ZZc(r:Str)(hr:r.length<=1048576):G146 (x,devW,r,())=some ((ZA0 x devW r).1,(ZA0 x devW r).2,()):=by
 have hk:=ZSN r
 unfold G146 F146
 simp (config:= {decide:=true})only[devW,remW,cueW,ZAc,ZAv,ZAa,ZAh,ZAn,ZAi,ZAw,ZAd,ZAt,ZAu,ZAo,ZAx,ZAp,ZAq,ZAr,dryW,if_true,if_false,al_cond_true,al_cond_false,decide_true,decide_false,ZAG,ZAK,al_bind_some]
 have e:G167 (x.1,(devP r).1,())=some (addD x.1 (devP r).1,addB x.1 (devP r).1,()):=ZXs x.1 h.ok.shw.rig h.ok.shw.devs (devP r).1 hk.1 hk.2
 simp only[ZXh r hr,al_bind_some,e,ZFh]
 rw[show([100,101,118,105,99,101]:Str)=devW from rfl,ZSR]
 cases hb:(devP r).2 with
 | false=>
  rw[ZZa hb,ZSc,ZSa (ZSc _)];rfl
 | true=>
  cases ha:addB x.1 (devP r).1 with
  | false=>rw[ZSa ha];rfl
  | true=>rfl
theorem ZZd(r:Str)(hr:r.length<=1048576):G146 (x,cueW,r,())=some ((ZA0 x cueW r).1,(ZA0 x cueW r).2,()):=by
 unfold G146 F146
 simp (config:= {decide:=true})only[devW,remW,cueW,ZAc,ZAv,ZAa,ZAh,ZAn,ZAi,ZAw,ZAd,ZAt,ZAu,ZAo,ZAx,ZAp,ZAq,ZAr,dryW,if_true,if_false,al_cond_true,al_cond_false,decide_true,decide_false,ZAG,ZAK,al_bind_some]
 have e:G246 (x.2.1,(cueP r).1,())=some (ZCr x.2.1 (cueP r).1,ZBs x.2.1 (cueP r).1,()):=ZX1 x.2.1 h.ok.shw.score h.ok.shw.names (cueP r).1 (ZSO r)
 simp only[ZXk r hr,al_bind_some,e,ZFh]
 rw[show([99,117,101]:Str)=cueW from rfl,ZSS]
 cases hb:(cueP r).2 with
 | false=>
  rw[ZZb hb,ZSd,ZSb (ZSd _)];rfl
 | true=>
  cases ha:ZBs x.2.1 (cueP r).1 with
  | false=>rw[ZSb ha];rfl
  | true=>rfl
theorem ZZe(r:Str)(h1:(splC 32 r).length=1):G146 (x,remW,r,())=some ((ZA0 x remW r).1,(ZA0 x remW r).2,()):=by
 unfold G146 F146
 simp (config:= {decide:=true})only[devW,remW,cueW,ZAc,ZAv,ZAa,ZAh,ZAn,ZAi,ZAw,ZAd,ZAt,ZAu,ZAo,ZAx,ZAp,ZAq,ZAr,dryW,if_true,if_false,al_cond_true,al_cond_false,decide_true,decide_false,ZAG,ZAK,al_bind_some]
 have e:G244 (x.1,r,())=some (remD x.1 r,remB x.1 r,()):=ZXw x.1 h.ok.shw.rig h.ok.shw.devs r
 simp only[al_bind_some,e,ZFh]
 rw[show([114,101,109,111,118,101]:Str)=remW from rfl,ZM2,al_if_pos h1]
 cases ha:remB x.1 r with
 | false=>rw[ZZZ ha];rfl
 | true=>rfl
theorem ZZf(p:Place)(n:Int):G150 (x,n,p,())=some (if jnB x.2.2.1 p n=true then((x.1,x.2.1,jnD x.2.2.1 p n,x.2.2.2),yesT,())else(x,noT2,())):=by
 unfold G150 F150
 have e:G251 (x.2.2.1,[⟨0,⟨p.X,p.Y⟩⟩],n,())=some (jnD x.2.2.1 p n,jnB x.2.2.1 p n,()):=ZX8 x.2.2.1 h.ok.shw.wind p n
 simp only[e,al_bind_some,ZFh]
 cases jnB x.2.2.1 p n<;>rfl
omit h in
theorem ZGj{w:Str}(n:Int)(hw:w∉ZBu):G151 (x,w,n,())=some (x,ZBL,()):=by
 simp only[ZBu,List.mem_cons,List.not_mem_nil,or_false,not_or]at hw
 obtain⟨h1,h2,h3,h4,h5⟩:=hw
 unfold G151 F151
 unfold ZAv at h1;unfold ZAn at h2;unfold ZAt at h3;unfold ZAu at h4;unfold ZAx at h5
 simp only[ZAE h1,ZAE h2,ZAE h3,ZAE h4,ZAE h5,al_cond_false]
 rfl
theorem ZZg{w:Str}(n:Int)(hw:w∈ZBu):G151 (x,w,n,())=some ((ZBi x w n).1,(ZBi x w n).2,()):=by
 simp only[ZBu,List.mem_cons,List.not_mem_nil,or_false]at hw
 unfold G151 F151
 rcases hw with rfl | rfl | rfl | rfl | rfl
 ·rw[ZBi,al_if_pos rfl]
  simp (config:= {decide:=true})only[devW,remW,cueW,ZAc,ZAv,ZAa,ZAh,ZAn,ZAi,ZAw,ZAd,ZAt,ZAu,ZAo,ZAx,ZAp,ZAq,ZAr,dryW,if_true,if_false,al_cond_true,al_cond_false,decide_true,decide_false,ZAG,ZAK,al_bind_some]
  by_cases h6:n<=64
  ·rw[ZAH h6,al_if_pos h6];rfl
  ·rw[ZAE h6,al_if_neg h6];rfl
 ·rw[show ZBi x ZAn n=(ZB2 x (ZCW x.shw n),yesT)from by rw[ZBi,al_if_neg,al_if_pos rfl]]
  simp (config:= {decide:=true})only[devW,remW,cueW,ZAc,ZAv,ZAa,ZAh,ZAn,ZAi,ZAw,ZAd,ZAt,ZAu,ZAo,ZAx,ZAp,ZAq,ZAr,dryW,if_true,if_false,al_cond_true,al_cond_false,decide_true,decide_false,ZAG,ZAK,al_bind_some]
  have e:G252 ((x.1,x.2.1,x.2.2.1,x.2.2.2.1,()),n,())=some (ZCW x.shw n,()):=(ZMz x.shw h.ok.shw n).2.1
  rw[e];rfl
 ·rw[ZBi,al_if_neg,al_if_neg,al_if_pos rfl]
  simp (config:= {decide:=true})only[devW,remW,cueW,ZAc,ZAv,ZAa,ZAh,ZAn,ZAi,ZAw,ZAd,ZAt,ZAu,ZAo,ZAx,ZAp,ZAq,ZAr,dryW,if_true,if_false,al_cond_true,al_cond_false,decide_true,decide_false,ZAG,ZAK,al_bind_some]
  have e:G253 ((x.1,x.2.1,x.2.2.1,x.2.2.2.1,()),n,())=some (ZA1 x.shw n,()):=(ZSL h.shw n).2
  rw[e]
  simp only[al_bind_some]
  refine ZYg x _ x.shw rfl (λd hd=>ZBP (ZC7 (h.shw.rig.dev d hd)).nm) _ (ZEj _ _) (by rw[ZEj];exact h.shw.rig.len) (λv hv=> ?_) _ _ _ _ _ _ _ _ _
  obtain⟨i,hi⟩:=List.mem_iff_getElem?.mp hv
  have hlt:=(al_get_iff.mp hi).1
  rw[ZEj]at hlt
  rcases ZQd h.shw n hi (al_get_get hlt)with q | q<;>omega
 ·rw[ZBi,al_if_neg,al_if_neg,al_if_neg,al_if_pos rfl]
  simp (config:= {decide:=true})only[devW,remW,cueW,ZAc,ZAv,ZAa,ZAh,ZAn,ZAi,ZAw,ZAd,ZAt,ZAu,ZAo,ZAx,ZAp,ZAq,ZAr,dryW,if_true,if_false,al_cond_true,al_cond_false,decide_true,decide_false,ZAG,ZAK,al_bind_some]
  have e:G255 ((x.1,x.2.1,x.2.2.1,x.2.2.2.1,()),n,())=some (nowL x.shw n,()):=ZWd h.shw n
  rw[e]
  simp only[al_bind_some,ZR6 _ (ZQk h.shw n) (ZR7 h.shw n) true]
 ·rw[ZBi,al_if_neg,al_if_neg,al_if_neg,al_if_neg]
  simp (config:= {decide:=true})only[devW,remW,cueW,ZAc,ZAv,ZAa,ZAh,ZAn,ZAi,ZAw,ZAd,ZAt,ZAu,ZAo,ZAx,ZAp,ZAq,ZAr,dryW,if_true,if_false,al_cond_true,al_cond_false,decide_true,decide_false,ZAG,ZAK,al_bind_some]
  obtain⟨_,t1,t2,t3⟩:=ZSK h.shw n
  obtain⟨_,l1,l2,l3⟩:=ZSJ h.shw n
  have e1:G256 ((x.1,x.2.1,x.2.2.1,x.2.2.2.1,()),n,())=some (ZDB x.shw n,()):=t1
  have e2:G257 ((x.1,x.2.1,x.2.2.1,x.2.2.2.1,()),n,())=some (ZDA x.shw n,()):=l1
  have:=ZJv t2 t3;have:=ZJv l2 l3
  rw[e1,e2]
  simp only[al_bind_some,numS (n:=ZDB x.shw n) (by omega) (by omega),numS (n:=ZDA x.shw n) (by omega) (by omega),al_len_append,al_len_cons,al_len_nil]
  rw[ZAB,ZAB]
omit h in
theorem ZEx{w:Str}(l:List Place)(h1:w≠ZAa)(h2:w=ZAh->l.length≠2)(h3:w=ZAi->l.length≠1):G152 (x,w,l,())=some (x,ZBL,()):=by
 unfold G152 F152
 have e1: ¬w=[114,111,115,101]:=h1
 rw[ZAE e1]
 simp only[al_cond_false]
 by_cases hb:w=ZAh
 ·have e2:decide (Int.ofNat l.length=2)=false:=ZAE (by have:=h2 hb;simp only[ZAT];omega)
  subst hb
  simp only[e2]
  simp (config:= {decide:=true})only[devW,remW,cueW,ZAc,ZAv,ZAa,ZAh,ZAn,ZAi,ZAw,ZAd,ZAt,ZAu,ZAo,ZAx,ZAp,ZAq,ZAr,dryW,if_true,if_false,al_cond_true,al_cond_false,decide_true,decide_false,ZAG,ZAK,al_bind_some]
  rfl
 ·have e3:decide (w=[98,97,115,105,110])=false:=ZAE hb
  rw[e3]
  simp only[al_cond_false]
  by_cases hs:w=ZAi
  ·have e2:decide (Int.ofNat l.length=1)=false:=ZAE (by have:=h3 hs;simp only[ZAT];omega)
   rw[e2,ZAH (show w=[115,104,105,102,116]from hs)];rfl
  ·rw[ZAE (show¬w=[115,104,105,102,116]from hs)];rfl
omit h in
theorem ZZh(l:List Place)(hl:l.length<=1048576):G152 (x,ZAa,l,())=some (if rosB l=true then(ZH0 x l,yesT,())else(x,noT2,())):=by
 unfold G152 F152
 simp (config:= {decide:=true})only[devW,remW,cueW,ZAc,ZAv,ZAa,ZAh,ZAn,ZAi,ZAw,ZAd,ZAt,ZAu,ZAo,ZAx,ZAp,ZAq,ZAr,dryW,if_true,if_false,al_cond_true,al_cond_false,decide_true,decide_false,ZAG,ZAK,al_bind_some]
 simp only[ZMx l hl,al_bind_some,ZFh]
 cases rosB l<;>rfl
omit h in
theorem ZZi(p q:Place):G152 (x,ZAh,[p,q],())=some (if isBx ⟨p,q⟩=true then(ZH1 x p q,yesT,())else(x,noT2,())):=by
 unfold G152 F152
 simp (config:= {decide:=true})only[devW,remW,cueW,ZAc,ZAv,ZAa,ZAh,ZAn,ZAi,ZAw,ZAd,ZAt,ZAu,ZAo,ZAx,ZAp,ZAq,ZAr,dryW,if_true,if_false,al_cond_true,al_cond_false,decide_true,decide_false,ZAG,ZAK,al_bind_some]
 have e:G142 ((⟨⟨p.X,p.Y⟩,⟨q.X,q.Y⟩⟩:Box),())=some (isBx ⟨p,q⟩,()):=ZHn _
 have el:decide (Int.ofNat ([p,q]:List Place).length=2)=true:=rfl
 simp only[el,al_cond_true,rd0,rd1,al_bind_some,e,ZFh]
 cases isBx ⟨p,q⟩<;>rfl
theorem ZZj(p:Place):G152 (x,ZAi,[p],())=some (if(ZBR x.shw p).2=true then(ZB2 x (ZBR x.shw p).1,yesT,())else(x,noT2,())):=by
 unfold G152 F152
 simp (config:= {decide:=true})only[devW,remW,cueW,ZAc,ZAv,ZAa,ZAh,ZAn,ZAi,ZAw,ZAd,ZAt,ZAu,ZAo,ZAx,ZAp,ZAq,ZAr,dryW,if_true,if_false,al_cond_true,al_cond_false,decide_true,decide_false,ZAG,ZAK,al_bind_some]
 have e:G258 ((x.1,x.2.1,x.2.2.1,x.2.2.2.1,()),p,())=some ((ZBR x.shw p).1,(ZBR x.shw p).2,()):=(ZM0 x.shw h.ok.shw p).2.1
 have el:decide (Int.ofNat ([p]:List Place).length=1)=true:=rfl
 simp only[el,al_cond_true,rd0,al_bind_some,e,ZFh]
 cases (ZBR x.shw p).2<;>rfl
theorem ZZk(w:Str){n:Int}(hn:0<=n):G148 (x.2.1,w,n,())=some (lvl x.2.1 w n,()):=by
 have hb:scB x.2.1=true:=h.shw.score
 unfold G148 F148
 simp only[ZLv x.2.1 h.ok.shw.names h.ok.shw.score,al_bind_some,hb,ZAG,ZAK,al_cond_true]
 have e:G249 (x.2.1,w,n,())=some (lvl x.2.1 w n,()):=ZQR h.ok.shw.names h.ok.shw.score hb w hn
 rw[ZAA,e];rfl
theorem ZZl(line:Str):G143 (x,line,())=some ((oneR x line).1,(oneR x line).2,()):=by
 unfold G143 F143 oneR
 by_cases h1:line=ZAw
 ·rw[al_if_pos h1,ZAH (show line=[108,105,109,105,116]from h1)]
  have e:G236 ((x.1,x.2.1,x.2.2.1,x.2.2.2.1,()),x.2.2.2.2.1,(⟨⟨x.2.2.2.2.2.1,x.2.2.2.2.2.2.1⟩,⟨x.2.2.2.2.2.2.2.1,x.2.2.2.2.2.2.2.2.1⟩⟩:Box),())=some (lmS x.ros x.bas x.shw,true,()):=(ZSM h).2
  rw[e];rfl
 rw[al_if_neg h1,ZAA (show¬line=[108,105,109,105,116]from h1)]
 by_cases h2:line=ZAo
 ·rw[al_if_pos h2,ZA (show line=[108,97,110,100,105,110,103,115]from h2)]
  have e:G238 ((x.1,x.2.1,x.2.2.1,x.2.2.2.1,()),())=some (ZDV x.shw,()):=ZQl h.shw
  rw[e]
  simp only[al_bind_some,ZR6 _ (by rw[ZL9];exact ZB5 h.shw) (ZR8 h.shw) false]
 rw[al_if_neg h2,ZAA (show¬line=[108,97,110,100,105,110,103,115]from h2)]
 by_cases h3:line=ZAp
 ·rw[al_if_pos h3,ZA (show line=[104,105,103,104]from h3)]
  have e:G239 ((x.1,x.2.1,x.2.2.1,x.2.2.2.1,()),())=some (ZEA x.shw,()):=ZYE h.shw
  rw[e]
  simp only[al_bind_some,fmS]
 rw[al_if_neg h3,ZAA (show¬line=[104,105,103,104]from h3)]
 by_cases h4:line=ZAq
 ·rw[al_if_pos h4,ZA (show line=[115,97,102,101]from h4)]
  have e:=ZX9 x.shw h.ok.shw x.ros h.ok.ros x.bas (rosB x.ros) (ZMx _ h.ok.ros)
  have e:G240 ((x.1,x.2.1,x.2.2.1,x.2.2.2.1,()),x.2.2.2.2.1,(⟨⟨x.2.2.2.2.2.1,x.2.2.2.2.2.2.1⟩,⟨x.2.2.2.2.2.2.2.1,x.2.2.2.2.2.2.2.2.1⟩⟩:Box),())=some (ZCV x.shw x.ros (rosB x.ros) x.bas,()):=e
  rw[e];rfl
 rw[al_if_neg h4,ZAA (show¬line=[115,97,102,101]from h4)]
 by_cases h5:line=ZAr
 ·rw[al_if_pos h5,ZA (show line=[108,101,97,115,116]from h5)]
  have e:G241 ((x.1,x.2.1,x.2.2.1,x.2.2.2.1,()),x.2.2.2.2.1,())=some ((ZBc x.shw x.ros).1,(ZBc x.shw x.ros).2,()):=(ZSI x.shw h.ok.shw x.ros h.ok.ros).2
  rw[e]
  have:=ZCI (ZBc x.shw x.ros).1.Low
  have:=ZCI (ZBc x.shw x.ros).1.High
  simp only[al_bind_some,fpS,al_len_append,al_len_cons,al_len_nil]
  cases (ZBc x.shw x.ros).2
  ·rfl
  ·simp only[ZAG,al_cond_false,if_true]
   rw[ZAB,ZAB]
 rw[al_if_neg h5,ZAA (show¬line=[108,101,97,115,116]from h5)]
 by_cases h6:line=dryW
 ·rw[al_if_pos h6,ZA (show line=[100,114,121]from h6)]
  have e:G242 ((x.1,x.2.1,x.2.2.1,x.2.2.2.1,()),(⟨⟨x.2.2.2.2.2.1,x.2.2.2.2.2.2.1⟩,⟨x.2.2.2.2.2.2.2.1,x.2.2.2.2.2.2.2.2.1⟩⟩:Box),())=some (dryV x.shw x.bas,()):=(ZM1 x.shw h.ok.shw x.bas).2
  rw[e]
  cases dryV x.shw x.bas<;>rfl
 rw[al_if_neg h6,ZAA (show¬line=[100,114,121]from h6)]
 rfl
end
end Ev
end
noncomputable section
namespace Ev
open Go
theorem ZZm{ws:List Str}(h:ws≠[])(p:Str):(p::ws)[ws.length]?=some (wAt ws (ws.length-1)):=by
 have:=List.length_pos_iff.mpr h
 rw[show ws.length=(ws.length-1)+1 by omega,List.getElem?_cons_succ,show ws.length-1+1-1=ws.length-1 by omega]
 exact ZBh (by omega)
abbrev OD:=ZAP×Str×Unit
def doV(x:ZAP)(p r:Str)(ws:List Str)(L:List Place):Option OD:=
 if p=devW\/p=cueW\/(p=remW/\ws.length=1)then G146 (x,p,r,())
 else if p=ZAd/\ws.length=2/\(numP (wAt ws 1)).2=true then(G148 (x.2.1,wAt ws 0,(numP (wAt ws 1)).1,())).bind λy=>(G147 (y.1,())).bind λz=>some (x,z.1,())
 else if p=ZAc/\ws.length=2/\(numP (wAt ws 0)).2=true then(if(ZAR (wAt ws 1)).2=true then G150 (x,(numP (wAt ws 0)).1,(ZAR (wAt ws 1)).1,())else some (x,ZBL,()))
 else if ws.length=1/\(numP (wAt ws 0)).2=true then G151 (x,p,(numP (wAt ws 0)).1,())
 else if ZAe ws=true then G152 (x,p,L,())else some (x,ZBL,())
theorem ZZn{α:Type}(o:Option α):(o.bind λx=>both (some x) (some x))=o:=by
 cases o with
 | none=>rfl
 | some x=>exact ZHP
theorem ZZo{α:Type}(o:Option α):(o.bind λx=>some x)=o:=by cases o<;>rfl
section
variable {x:ZAP} {p r:Str} (hp: ∀b∈p,b≠32) (hl:(p++32::r).length<=1048576)
include hp hl
theorem ZZp: ∃L,(ZAe (splC 32 r)=true->L=ZA7 (splC 32 r))/\G65 (x,p++32::r,())=doV x p r (splC 32 r) L:=by
 have hrl:=rlen hl
 have hpl:p.length<=1048576:=by simp at hl;omega
 have hne:=ZCJ 32 r
 have hpos:=List.length_pos_iff.mpr hne
 obtain⟨g1,g2⟩:=ZSA hl
 have w0:(wAt (splC 32 r) 0).length<=1048576:=Nat.le_trans ZC8 hrl
 have w1:(wAt (splC 32 r) 1).length<=1048576:=Nat.le_trans ZC8 hrl
 have wl:(wAt (splC 32 r) ((splC 32 r).length-1)).length<=1048576:=Nat.le_trans ZC8 hrl
 obtain⟨L,hL,hL2⟩:=ZYk (splC 32 r) g1 g2
 refine⟨L,hL2,?_⟩
 have hla:=ZZm hne p
 have h1a:(p::splC 32 r)[1]?=some (wAt (splC 32 r) 0):=by
  rw[List.getElem?_cons_succ];exact ZBh hpos
 have hsp:G41 (p++32::r,[32],())=some (p::splC 32 r,()):=by rw[ZHs _ 32 hl,ZHo hp]
 have h2a:2<=(splC 32 r).length->(p::splC 32 r)[2]?=some (wAt (splC 32 r) 1):=λq=>by
  rw[List.getElem?_cons_succ];exact ZBh (by omega)
 have e2:(splC 32 r).length=2->wAt (splC 32 r) ((splC 32 r).length-1)=wAt (splC 32 r) 1:=λq=>by rw[q]
 unfold doV
 generalize splC 32 r=ws at*
 have hwl:w64 ((Int.ofNat (p::ws).length) -1)=((ws.length:Nat):Int):=by
  simp only[al_len_cons,ZAT]
  rw[ZAC];omega
 have hpl2:w64 ((Int.ofNat p.length)+1)=((p.length+1:Nat):Int):=ZAC (by simp only[ZAT];omega) (by simp only[ZAT];omega)
 have hdr:List.drop (Int.toNat ((p.length+1:Nat):Int)) (p++32::r)=r:=by
  rw[ZAW,List.drop_append];simp
 have htk:List.drop (Int.toNat 1) (List.take (p::ws).length (p::ws))=ws:=by rw[List.take_length];rfl
 unfold G65 F65
 simp only[hsp,al_bind_some,rd0]
 rw[ZAA (by simp only[al_len_cons,ZAT];omega)]
 simp only[hwl,hpl2,ZAW]
 have t0:(p::ws)[Int.toNat 0]?=some p:=rfl
 have t1:(p::ws)[Int.toNat 1]?=some (wAt ws 0):=h1a
 have t2: ∀ {R:Type} {K:Str->Option R},rdL (p::ws) 1 K=K (wAt ws 0):=λ{R K} =>ZAF (i:=1) h1a
 simp only[t0,al_bind_some,ZAF hla,hla,t1,t2,hpl2,hdr]
 rw[ZBT ⟨by omega,by show((p.length+1:Nat):Int)<=((p++32::r).length:Nat);rw[al_len_append,al_len_cons];omega⟩,ZFZ _ wl]
 simp only[al_bind_some]
 rw[ZFZ _ w0]
 simp only[al_bind_some]
 rw[ZBT ⟨by decide,by simp only[al_len_cons];omega⟩]
 have k2:decide (Int.ofNat (p::ws).length=2)=decide (ws.length=1):=by rw[Bool.eq_iff_iff,ZAX,ZAX];simp only[al_len_cons,ZAT];omega
 have k3:decide (Int.ofNat (p::ws).length=3)=decide (ws.length=2):=by rw[Bool.eq_iff_iff,ZAX,ZAX];simp only[al_len_cons,ZAT];omega
 have kp:(ZAe ws && decide (0<ws.length))=ZAe ws:=by rw[ZAH hpos,Bool.and_true]
 simp only[show(Int.toNat 1)=1 from rfl,List.take_length,List.drop_succ_cons,List.drop_zero,hL,al_bind_some,ZZn,ZZo,k2,k3,kp]
 have kend:(bif ZAe ws then G152 (x,p,L,())else some (x,[119,104,97,116],()))=(if ZAe ws=true then G152 (x,p,L,())else some (x,ZBL,())):=by cases ZAe ws<;>rfl
 simp only[kend]
 generalize (if ZAe ws=true then G152 (x,p,L,())else some (x,ZBL,()))=M
 by_cases hd:p=devW
 ·rw[al_if_pos (Or.inl hd)]
  simp only[ZAH (show p=[100,101,118,105,99,101]from hd),al_cond_true]
 by_cases hc:p=cueW
 ·rw[al_if_pos (Or.inr (Or.inl hc))]
  simp only[ZAE (show¬p=[100,101,118,105,99,101]from hd),ZAH (show p=[99,117,101]from hc),al_cond_true,al_cond_false]
 simp only[ZAE (show¬p=[100,101,118,105,99,101]from hd),ZAE (show¬p=[99,117,101]from hc),al_cond_false]
 have tl: ∀ {R:Type} {K:Str->Option R},ws.length=2->rdL (p::ws) 2 K=K (wAt ws 1):=λ{R K} q=>ZAF (i:=2) (h2a (by omega))
 have pl: ∀K:Place×Bool×Unit->Option OD,((G149 (wAt ws 1,())).bind K)=K ((ZAR (wAt ws 1)).1,(ZAR (wAt ws 1)).2,()):=λK=>by rw[ZMY _ w1];rfl
 by_cases hr:p=remW
 ·have f1: ¬p=ZAd:=by rw[hr];decide
  have f2: ¬p=ZAc:=by rw[hr];decide
  simp only[ZAH (show p=[114,101,109,111,118,101]from hr),ZAE (show¬p=[108,101,118,101,108]from f1),ZAE (show¬p=[103,117,115,116]from f2),al_cond_true,al_cond_false]
  by_cases h1:ws.length=1
  ·rw[al_if_pos (Or.inr (Or.inr ⟨hr,h1⟩)),ZAH h1];rfl
  ·rw[al_if_neg (by rintro (q | q | q);exact hd q;exact hc q;exact h1 q.2),al_if_neg (λq=>f1 q.1),al_if_neg (λq=>f2 q.1),al_if_neg (λq=>h1 q.1),ZAE h1]
   rfl
 rw[al_if_neg (by rintro (q | q | q);exact hd q;exact hc q;exact hr q.1)]
 simp only[ZAE (show¬p=[114,101,109,111,118,101]from hr),al_cond_false]
 by_cases hle:p=ZAd
 ·have f2: ¬p=ZAc:=by rw[hle];decide
  simp only[ZAH (show p=[108,101,118,101,108]from hle),ZAE (show¬p=[103,117,115,116]from f2),al_cond_true,al_cond_false]
  rw[al_if_neg (c:=p=ZAc/\_) (λq=>f2 q.1)]
  by_cases h2:ws.length=2
  ·rw[e2 h2]
   simp only[ZAH h2,ZAE (show¬ws.length=1 by omega),al_cond_true,al_cond_false]
   cases hn:(numP (wAt ws 1)).2 with
   | true=>rw[al_if_pos ⟨hle,h2,rfl⟩];rfl
   | false=>rw[al_if_neg (by simp),al_if_neg];rfl
  ·simp only[ZAE h2,al_cond_false]
   rw[al_if_neg (λq=>h2 q.2.1)]
   by_cases h1:ws.length=1
   ·simp only[ZAH h1,al_cond_true]
    cases hn:(numP (wAt ws 0)).2 with
    | true=>rw[al_if_pos ⟨h1,rfl⟩];rfl
    | false=>rw[al_if_neg (by simp)];rfl
   ·simp only[ZAE h1,al_cond_false]
    rw[al_if_neg (λq=>h1 q.1)]
 rw[al_if_neg (λq=>hle q.1)]
 simp only[ZAE (show¬p=[108,101,118,101,108]from hle),al_cond_false]
 by_cases hg:p=ZAc
 ·simp only[ZAH (show p=[103,117,115,116]from hg),al_cond_true]
  by_cases h2:ws.length=2
  ·simp only[ZAH h2,ZAE (show¬ws.length=1 by omega),al_cond_true,al_cond_false,tl h2,pl]
   cases hn:(numP (wAt ws 0)).2 with
   | true=>
    rw[al_if_pos ⟨hg,h2,rfl⟩]
    cases (ZAR (wAt ws 1)).2<;>rfl
   | false=>rw[al_if_neg (by simp),al_if_neg];rfl
  ·simp only[ZAE h2,al_cond_false]
   rw[al_if_neg (λq=>h2 q.2.1)]
   by_cases h1:ws.length=1
   ·simp only[ZAH h1,al_cond_true]
    cases hn:(numP (wAt ws 0)).2 with
    | true=>rw[al_if_pos ⟨h1,rfl⟩];rfl
    | false=>rw[al_if_neg (by simp)];rfl
   ·simp only[ZAE h1,al_cond_false]
    rw[al_if_neg (λq=>h1 q.1)]
 rw[al_if_neg (λq=>hg q.1)]
 simp only[ZAE (show¬p=[103,117,115,116]from hg),al_cond_false]
 by_cases h1:ws.length=1
 ·simp only[ZAH h1,al_cond_true]
  cases hn:(numP (wAt ws 0)).2 with
  | true=>rw[al_if_pos ⟨h1,rfl⟩];rfl
  | false=>rw[al_if_neg (by simp)];rfl
 ·simp only[ZAE h1,al_cond_false]
  rw[al_if_neg (λq=>h1 q.1)]
end
end Ev
end
noncomputable section
namespace Ev
open Go
section
variable {x:ZAP} (h:DeskV x) {p r:Str} (hr:r.length<=1048576)
include h hr
theorem ZZq{L:List Place}(hL:ZAe (splC 32 r)=true->L=ZA7 (splC 32 r))(hws:(splC 32 r).length<=1048576):doV x p r (splC 32 r) L=some ((ZA0 x p r).1,(ZA0 x p r).2,()):=by
 unfold doV
 have hn1:(splC 32 r).length=1->wAt (splC 32 r) 0=r:=λq=>by rw[ZFg q];rfl
 have hL1:(splC 32 r).length=1->ZAe (splC 32 r)=true->L=[(ZAR r).1]:=λq b=>by rw[hL b,ZFg q];rfl
 have hb1:(splC 32 r).length=1->ZAe (splC 32 r)=(ZAR r).2:=λq=>by rw[ZFg q];unfold ZAe;simp
 have hL2:(splC 32 r).length=2->ZAe (splC 32 r)=true->L=[(ZAR (wAt (splC 32 r) 0)).1,(ZAR (wAt (splC 32 r) 1)).1]:=λq b=>by rw[hL b,ZH3 q];rfl
 have hLl:ZAe (splC 32 r)=true->L.length=(splC 32 r).length:=λb=>by rw[hL b];unfold ZA7;simp
 by_cases hm:p∈ZC9
 ·simp only[ZC9,List.mem_cons,List.mem_append,List.not_mem_nil,or_false]at hm
  rcases hm with (((rfl | rfl | rfl | rfl) | hn) | (rfl | rfl | rfl | rfl))
  ·rw[al_if_pos (Or.inl rfl)];exact ZZc h r hr
  ·rw[al_if_pos (Or.inr (Or.inl rfl))];exact ZZd h r hr
  ·by_cases h1:(splC 32 r).length=1
   ·rw[al_if_pos (Or.inr (Or.inr ⟨rfl,h1⟩))];exact ZZe h r h1
   ·rw[al_if_neg (by rintro (q | q | q);exact absurd q (by decide);exact absurd q (by decide);exact h1 q.2),al_if_neg (λq=>absurd q.1 (by decide)),al_if_neg (λq=>absurd q.1 (by decide)),al_if_neg (λq=>h1 q.1),ZM2,al_if_neg h1,ZEx L (by decide) (λq=>absurd q (by decide)) (λq=>absurd q (by decide))]
    split<;>rfl
  ·rw[al_if_neg (by rintro (q | q | q);exact absurd q (by decide);exact absurd q (by decide);exact absurd q.1 (by decide)),al_if_neg (λq=>absurd q.1 (by decide)),ZSU]
   by_cases h2:(splC 32 r).length=2
   ·by_cases n0:(numP (wAt (splC 32 r) 0)).2=true
    ·rw[al_if_pos ⟨rfl,h2,n0⟩]
     by_cases p1:(ZAR (wAt (splC 32 r) 1)).2=true
     ·rw[al_if_pos p1,al_if_pos ⟨h2,n0,p1⟩,ZZf h]
      split<;>rfl
     ·rw[al_if_neg p1,al_if_neg (λq=>p1 q.2.2)]
    ·rw[ZEx L (by decide) (λq=>absurd q (by decide)) (λq=>absurd q (by decide)),ite_self,al_if_neg (λq=>n0 q.2.2),al_if_neg (λq=>by omega),al_if_neg (λq=>n0 q.2.1)]
   ·rw[al_if_neg (λq=>h2 q.2.1),al_if_neg (c:=(splC 32 r).length=2/\_) (λq=>h2 q.1),ZEx L (by decide) (λq=>absurd q (by decide)) (λq=>absurd q (by decide)),ZGj _ (by decide)]
    split
    ·rfl
    ·split<;>rfl
  ·have hn':p∈ZBu:=hn
   obtain⟨q1,q2,q3,q4,q5,q6⟩:=ZSV hn'
   have q7:p≠ZAh/\p≠ZAi:=by
    simp only[ZBu,List.mem_cons,List.not_mem_nil,or_false]at hn
    rcases hn with rfl | rfl | rfl | rfl | rfl<;>decide
   rw[al_if_neg (by rintro (q | q | q);exact q1 q;exact q2 q;exact q3 q.1),al_if_neg (λq=>q4 q.1),al_if_neg (λq=>q5 q.1),ZSW x r hn',ZEx L q6 (λq=>absurd q q7.1) (λq=>absurd q q7.2),ite_self]
   by_cases h1:(splC 32 r).length=1
   ·rw[hn1 h1]
    by_cases n0:(numP r).2=true
    ·rw[al_if_pos ⟨h1,n0⟩,al_if_pos ⟨h1,n0⟩];exact ZZg h _ hn'
    ·rw[al_if_neg (λq=>n0 q.2),al_if_neg (λq=>n0 q.2)]
   ·rw[al_if_neg (λq=>h1 q.1),al_if_neg (λq=>h1 q.1)]
  ·rw[al_if_neg (by rintro (q | q | q);exact absurd q (by decide);exact absurd q (by decide);exact absurd q.1 (by decide)),al_if_neg (λq=>absurd q.1 (by decide)),al_if_neg (λq=>absurd q.1 (by decide)),ZSX,ZGj _ (by decide)]
   by_cases h1:(splC 32 r).length=1/\(numP (wAt (splC 32 r) 0)).2=true
   ·rw[al_if_pos h1]
    have hnr:(numP r).2=true:=by rw[<-hn1 h1.1];exact h1.2
    rw[hb1 h1.1,ZSe hnr];rfl
   ·rw[al_if_neg h1]
    by_cases b:ZAe (splC 32 r)=true
    ·rw[al_if_pos b,al_if_pos b,hL b,ZZh _ (by unfold ZA7;rw[List.length_map];exact hws)]
     split<;>rfl
    ·rw[al_if_neg b,al_if_neg b]
  ·rw[al_if_neg (by rintro (q | q | q);exact absurd q (by decide);exact absurd q (by decide);exact absurd q.1 (by decide)),al_if_neg (λq=>absurd q.1 (by decide)),al_if_neg (λq=>absurd q.1 (by decide)),ZSY,ZGj _ (by decide)]
   by_cases h2:(splC 32 r).length=2
   ·rw[al_if_neg (λq=>by omega)]
    by_cases b:ZAe (splC 32 r)=true
    ·rw[al_if_pos b,al_if_pos ⟨h2,b⟩,hL2 h2 b,ZZi]
     split<;>rfl
    ·rw[al_if_neg b,al_if_neg (λq=>b q.2)]
   ·rw[al_if_neg (c:=(splC 32 r).length=2/\_) (λq=>h2 q.1)]
    split
    ·rfl
    ·by_cases b:ZAe (splC 32 r)=true
     ·rw[al_if_pos b,ZEx L (by decide) (λ_=>by rw[hLl b];exact h2) (λq=>absurd q (by decide))]
     ·rw[al_if_neg b]
  ·rw[al_if_neg (by rintro (q | q | q);exact absurd q (by decide);exact absurd q (by decide);exact absurd q.1 (by decide)),al_if_neg (λq=>absurd q.1 (by decide)),al_if_neg (λq=>absurd q.1 (by decide)),ZSZ,ZGj _ (by decide)]
   by_cases h1:(splC 32 r).length=1
   ·by_cases n0:(numP r).2=true
    ·rw[al_if_pos ⟨h1,by rw[hn1 h1];exact n0⟩,al_if_neg (λq=>by have:=q.2;rw[hb1 h1,ZSe n0]at this;cases this)]
    ·rw[al_if_neg (λq=>n0 (by have:=q.2;rw[hn1 h1]at this;exact this))]
     by_cases b:ZAe (splC 32 r)=true
     ·rw[al_if_pos b,al_if_pos ⟨h1,b⟩,hL1 h1 b,ZZj h]
      split<;>rfl
     ·rw[al_if_neg b,al_if_neg (λq=>b q.2)]
   ·rw[al_if_neg (c:=(splC 32 r).length=1/\(numP _).2=true) (λq=>h1 q.1),al_if_neg (c:=(splC 32 r).length=1/\_) (λq=>h1 q.1)]
    by_cases b:ZAe (splC 32 r)=true
    ·rw[al_if_pos b,ZEx L (by decide) (λq=>absurd q (by decide)) (λ_=>by rw[hLl b];exact h1)]
    ·rw[al_if_neg b]
  ·rw[al_if_neg (by rintro (q | q | q);exact absurd q (by decide);exact absurd q (by decide);exact absurd q.1 (by decide)),ZST]
   by_cases h2:(splC 32 r).length=2/\(numP (wAt (splC 32 r) 1)).2=true
   ·rw[al_if_pos ⟨rfl,h2⟩,al_if_pos h2]
    have hn:0<=(numP (wAt (splC 32 r) 1)).1:=by
     rcases ZFX (wAt (splC 32 r) 1)with q | ⟨m,_,_,q⟩<;>rw[q]<;>simp
    rw[ZZk h _ hn]
    simp only[al_bind_some,fmS]
   ·rw[al_if_neg (λq=>h2 q.2),al_if_neg (c:=ZAd=ZAc/\_) (λq=>absurd q.1 (by decide)),al_if_neg h2,ZGj _ (by decide),ZEx L (by decide) (λq=>absurd q (by decide)) (λq=>absurd q (by decide))]
    split
    ·rfl
    ·split<;>rfl
 ·have hm':=hm
  simp only[ZC9,List.mem_cons,List.mem_append,List.not_mem_nil,or_false,not_or]at hm'
  obtain⟨⟨⟨b1,b2,b3,b4⟩,b5⟩,b10,b11,b12,b13⟩:=hm'
  rw[ZSQ x hm,al_if_neg (by rintro (q | q | q);exact b1 q;exact b2 q;exact b3 q.1),al_if_neg (λq=>b13 q.1),al_if_neg (λq=>b4 q.1),ZGj _ b5,ZEx L b10 (λq=>absurd q b11) (λq=>absurd q b12)]
  split
  ·rfl
  ·split<;>rfl
end
theorem ZZr{x:ZAP}(h:DeskV x){line:Str}(hl:line.length<=1048576):G65 (x,line,())=some ((ZBd x line).1,(ZBd x line).2,()):=by
 rcases ZFV 32 line with ⟨hn,e⟩ | ⟨p,r,e,hp,e2⟩
 ·rw[ZJt x hn]
  unfold G65 F65
  simp only[ZHs line 32 hl,e,al_bind_some]
  rw[ZA (by rfl),ZZl h line]
  rfl
 ·subst e
  rw[ZJu x hp]
  obtain⟨L,hL,he⟩:=ZZp hp hl (x:=x)
  rw[he]
  refine ZZq h (rlen hl) hL ?_
  have:=ZGU 32 r
  simp at hl;omega
theorem ZZs(x:ZAP)(line:Str)(hn:(ZBd x line).2=noT2):(ZBd x line).1=x:=by
 have hy:yesT≠noT2:=by decide
 have key: ∀(c:Prop) [Decidable c] (a b:ZAP×Str),(a.2=noT2->a.1=x)->(b.2=noT2->b.1=x)->(if c then a else b).2=noT2->(if c then a else b).1=x:=by
  intro c _ a b h1 h2 h3
  by_cases hc:c
  ·rw[al_if_pos hc]at h3⊢;exact h1 h3
  ·rw[al_if_neg hc]at h3⊢;exact h2 h3
 have ky: ∀y:ZAP,((y,yesT):ZAP×Str).2=noT2->y=x:=λy q=>absurd q hy
 have kx: ∀t:Str,((x,t):ZAP×Str).2=noT2->x=x:=λ_ _=>rfl
 revert hn
 unfold ZBd
 apply key
 ·unfold oneR
  refine key _ _ _ (ky _) ?_
  refine key _ _ _ (kx _) ?_
  refine key _ _ _ (kx _) ?_
  refine key _ _ _ (kx _) ?_
  refine key _ _ _ (kx _) ?_
  refine key _ _ _ (kx _) (kx _)
 ·unfold ZA0
  refine key _ _ _ (key _ _ _ (ky _) (kx _)) ?_
  refine key _ _ _ (key _ _ _ (ky _) (kx _)) ?_
  refine key _ _ _ (key _ _ _ (key _ _ _ (ky _) (kx _)) (kx _)) ?_
  refine key _ _ _ (key _ _ _ (kx _) (kx _)) ?_
  refine key _ _ _ (key _ _ _ (key _ _ _ (ky _) (kx _)) (kx _)) ?_
  refine key _ _ _ (key _ _ _ ?_ (kx _)) ?_
  ·unfold ZBi
   refine key _ _ _ (key _ _ _ (ky _) (kx _)) ?_
   refine key _ _ _ (ky _) ?_
   refine key _ _ _ (kx _) ?_
   refine key _ _ _ (kx _) (kx _)
  refine key _ _ _ (key _ _ _ (key _ _ _ (ky _) (kx _)) (kx _)) ?_
  refine key _ _ _ (key _ _ _ (key _ _ _ (ky _) (kx _)) (kx _)) ?_
  refine key _ _ _ (key _ _ _ (key _ _ _ (ky _) (kx _)) (kx _)) (kx _)
theorem ZZt{x:ZAP}(h:DeskV x){c:UInt8}{l:Str}(hc:c.toNat≠35)(hl:(c::l).length<=1048576)(hz:DeskZ (ZBd x (c::l)).1):G28 (x,c::l,())=some ((ZBd x (c::l)).1,(ZBd x (c::l)).2,()):=by
 unfold G28 F28
 simp only[ZH2 (ZBa h.ok),al_bind_some,ZJq x h.ok,ZDp h,ZAG,ZAK,al_cond_true,rd0,ZZr h hl,ZH2 hz]
 rw[ZAE (show¬(c::l=[])by simp),ZAA (by simp only[ZAT];omega)]
 simp only[ZAK,al_cond_true]
 by_cases hn:(ZBd x (c::l)).2=noT2
 ·rw[ZA (show(ZBd x (c::l)).2=[110,111]from hn)]
  have e:=ZZs x (c::l) hn
  rw[e]
  by_cases q:c::l=[100,114,121]
  ·rw[ZAH q];rfl
  ·rw[ZAE q];rfl
 ·rw[ZAA (show¬(ZBd x (c::l)).2=[110,111]from hn)]
end Ev
end
noncomputable section
namespace Ev
open Go
def ZSf(a:Int):0<=ZCZ .and .i64 a 255/\ZCZ .and .i64 a 255<=255:=by
 have h:(BitVec.ofInt IntKind.i64.bits a &&& BitVec.ofInt IntKind.i64.bits 255).toNat<=255:=by
  rw[BitVec.toNat_and];exact Nat.le_trans Nat.and_le_right (by decide)
 have e:ZCZ .and .i64 a 255=w64 ((BitVec.ofInt IntKind.i64.bits a &&& BitVec.ofInt IntKind.i64.bits 255).toNat:Int):=rfl
 rw[e,ZAC]
 omega
def ZZu(b:List Int)(hb:b.length<=1099511627776)(i h:Int)(hi:0<=i): ∃i' h' x,F170 ((b,i,h,()),())=some ((b,i',h',()),x,())/\0<=i'/\0<=x/\x<=255:=by
 unfold F170
 by_cases hc:i<Int.ofNat b.length
 ·rw[ZA hc]
  obtain⟨k,rfl⟩:=Int.eq_ofNat_of_zero_le hi
  have hk:k<b.length:=by simpa using hc
  have hx:b[k]?=some b[k]:=by simp
  simp only[]
  rw[ZAF hx]
  refine⟨_,_,_,rfl,?_,ZSf _⟩
  rw[ZAC];omega
 ·rw[ZAA hc]
  exact⟨_,_,_,rfl,hi,ZSf _⟩
def ZZv(b:List Int)(hb:b.length<=4096): ∃h,F33 (b,())=some ((b,0,h,()),()):=by
 unfold F33
 rcases ZHM (f:=s33_0) (K:=λt3=>some ((t3.1,0,t3.2.1,()),())) (t:=(b,w64 (620033+w64 (3*Int.ofNat b.length)),0,())) b.length
  (λi t=> ∃h,t=(b,h,(i:Int),())) (λ_=>False) (λt=> ∃h j,t=(b,h,j,())) (by omega) ⟨_,rfl⟩
  (by
   rintro i _ hi ⟨h,rfl⟩
   have hx:b[i]?=some b[i]:=by simp
   by_cases hc:(i:Int)<4000
   ·refine .inl ⟨(b,ZCZ .and .i64 (w64 ((w64 ((w64 (h*167))+(w64 b[i])))+29)) 1073741823,((i+1:Nat):Int),()),⟨_,rfl⟩,λrec K=> ?_⟩
    ·simp only[s33_0]
     rw[ZA,ZA hc,ZAF hx,ZAC (n:=(i:Int)+1) (by omega) (by omega)]
     rfl
   ·refine .inr (.inr ⟨(b,h,(i:Int),()),⟨_,_,rfl⟩,λrec K=> ?_⟩)
    ·simp only[s33_0]
     rw[ZA,ZAA hc])
  (by
   rintro _ ⟨h,rfl⟩
   refine .inr ⟨(b,h,(b.length:Int),()),⟨h,_,rfl⟩,λrec K=> ?_⟩
   simp only[s33_0]
   rw[ZAA])with ⟨r,h,_⟩ | ⟨t,⟨h,j,rfl⟩,e⟩
 ·exact h.elim
 ·exact⟨h,e⟩
end Ev
namespace Ev
open Go
def ZJw{b:List Int}(hb:b.length<=1099511627776){i h:Int}(hi:0<=i):wp (G170 ((b,i,h,()),())) (CurP b λx=>0<=x/\x<=255):=by
 obtain⟨i',h',x,e,p,q⟩:=ZZu b hb i h hi
 exact⟨_,e,i',h',rfl,p,q⟩
def ZBC{b:List Int}(hb:b.length<=1099511627776){i h n:Int}(hi:0<=i)(h0:0<n):wp (G79 ((b,i,h,()),n,())) (CurP b λx=>0<=x/\x<n):=by
 unfold G79 F79
 dsimp only
 refine ZCz (λh=>absurd h (by omega)) λ_=> ?_
 refine ZCz (λ_=> ?_) λ_=> ?_
 ·refine ZAN (ZJw hb hi) λi1 h1 x1 p1 q1=> ?_
  refine ZCz (λh=>absurd h (by omega)) λ_=> ?_
  exact wp_ret p1 ⟨Int.tmod_nonneg n q1.1,Int.tmod_lt_of_pos _ h0⟩
 ·refine ZAN (ZJw hb hi) λi1 h1 x1 p1 q1=> ?_
  refine ZAN (ZJw hb p1) λi2 h2 x2 p2 q2=> ?_
  refine ZAN (ZJw hb p2) λi3 h3 x3 p3 q3=> ?_
  refine ZCz (λh=>absurd h (by omega)) λ_=> ?_
  refine wp_ret p3 ⟨Int.tmod_nonneg n ?_,Int.tmod_lt_of_pos _ h0⟩
  dsimp only
  rw[ZAC (n:=x1*65536) (by omega) (by omega),ZAC (n:=x2*256) (by omega) (by omega),ZAC (n:=x1*65536+x2*256) (by omega) (by omega),ZAC]
  omega
def ZGk{b:List Int}(hb:b.length<=1099511627776){i h n:Int}(hi:0<=i)(h0:0<n):wp (G35 ((b,i,h,()),n,())) (CurP b λ_=>True):=by
 unfold G35 F35
 refine ZAN (ZBC hb hi h0) λi1 h1 x1 p1 q1=> ?_
 exact wp_ret p1 trivial
def ZFi{b:List Int}(hb:b.length<=1099511627776){i h:Int}{l:List Int}(hi:0<=i)(h0:0<l.length):wp (G36 ((b,i,h,()),l,())) (CurP b λx=>x∈l):=by
 unfold G36 F36
 refine ZAN (ZBC hb hi (by simp;omega)) λi1 h1 x1 p1 q1=> ?_
 exact ZPg q1.1 (by simpa using q1.2) λx hx _=>wp_ret p1 hx
def ZFj{b:List Int}(hb:b.length<=1099511627776){i h:Int}{l:List Str}(hi:0<=i)(h0:0<l.length):wp (G90 ((b,i,h,()),l,())) (CurP b λx=>x∈l):=by
 unfold G90 F90
 refine ZAN (ZBC hb hi (by simp;omega)) λi1 h1 x1 p1 q1=> ?_
 exact ZPg q1.1 (by simpa using q1.2) λx hx _=>wp_ret p1 hx
def ZM3{b:List Int}(hb:b.length<=1099511627776){i h:Int}(hi:0<=i):wp (G178 ((b,i,h,()),())) (CurP b λx=> -9223372036854775808<=x/\x<=9223372036854775807):=by
 unfold G178 F178
 refine ZAN (ZFi hb hi (by simp)) λi1 h1 x1 p1 q1=>wp_ret p1 ?_
 simp at q1
 show-9223372036854775808<=x1/\x1<=9223372036854775807
 omega
def ZGl{b:List Int}(hb:b.length<=1099511627776){i h m n:Int}(hi:0<=i)(h0:m<=n)(hm: -1000000<=m)(hn:n<=1000000):wp (G182 ((b,i,h,()),m,n,())) (CurP b λx=>m<=x/\x<=n):=by
 unfold G182 F182
 dsimp only
 rw[ZAC (n:=n-m) (by omega) (by omega),ZAC (n:=n-m+1) (by omega) (by omega)]
 refine ZAN (ZBC hb hi (by omega)) λi1 h1 x1 p1 q1=>wp_ret p1 ?_
 dsimp only
 rw[ZAC]
 omega
def ZJx{b:List Int}(hb:b.length<=1099511627776){i h:Int}(hi:0<=i):wp (G93 ((b,i,h,()),())) (CurP b λx=>x.length<=9):=by
 unfold G93 F93
 refine ZAN (ZFj hb hi (by simp)) λi1 h1 x1 p1 q1=>wp_ret p1 ?_
 have:=List.all_eq_true.mp (show List.all _ (λx:Str=>decide (x.length<=9))=true from by decide) x1 q1
 simpa using this
def ZZw{b:List Int}(hb:b.length<=1099511627776){i h:Int}(hi:0<=i):wp (G179 ((b,i,h,()),())) (CurP b λx=>x.length<=9):=by
 unfold G179 F179
 refine ZAN (ZFj hb hi (by simp)) λi1 h1 x1 p1 q1=>wp_ret p1 ?_
 have:=List.all_eq_true.mp (show List.all _ (λx:Str=>decide (x.length<=9))=true from by decide) x1 q1
 simpa using this
def ZH4{b:List Int}(hb:b.length<=1099511627776){i h:Int}(hi:0<=i):wp (G92 ((b,i,h,()),())) (CurP b λp=>(-64<=p.X/\p.X<=64)/\ -64<=p.Y/\p.Y<=64):=by
 unfold G92 F92
 refine ZAN (ZGl hb hi (by omega) (by omega) (by omega)) λi1 h1 x1 p1 q1=> ?_
 exact ZAN (ZGl hb p1 (by omega) (by omega) (by omega)) λi2 h2 x2 p2 q2=>wp_ret p2 ⟨q1,q2⟩
def ZSg{b:List Int}(hb:b.length<=1099511627776){i h:Int}(hi:0<=i):wp (G267 ((b,i,h,()),())) (CurP b λj=>((-64<=j.At.X/\j.At.X<=64)/\ -64<=j.At.Y/\j.At.Y<=64)/\(0<=j.Heading/\j.Heading<4)/\(0<=j.Tilt/\j.Tilt<17)/\(1<=j.Lift/\j.Lift<=32)):=by
 unfold G267 F267
 refine ZAN (ZH4 hb hi) λi1 h1 x1 p1 q1=> ?_
 refine ZAN (ZBC hb p1 (by omega)) λi2 h2 x2 p2 q2=> ?_
 refine ZAN (ZBC hb p2 (by omega)) λi3 h3 x3 p3 q3=> ?_
 exact ZAN (ZGl hb p3 (by omega) (by omega) (by omega)) λi4 h4 x4 p4 q4=>wp_ret p4 ⟨q1,q2,q3,q4⟩
def NozW(n l:Str)(d:Device):Prop:=d.Name=n/\d.Kind=2/\d.Line=l/\((-64<=d.At.X/\d.At.X<=64)/\ -64<=d.At.Y/\d.At.Y<=64)/\(0<=d.Heading/\d.Heading<4)/\(0<=d.Tilt/\d.Tilt<17)/\(0<=d.Most/\d.Most<=32)
def ZSh{b:List Int}(hb:b.length<=1099511627776){i h:Int}{n l:Str}(hi:0<=i):wp (G168 ((b,i,h,()),n,l,())) (CurP b (NozW n l)):=by
 unfold G168 F168
 refine ZAN (ZSg hb hi) λi1 h1 x1 p1 q1=> ?_
 exact ZAN (ZGl hb p1 (by omega) (by omega) (by omega)) λi2 h2 x2 p2 q2=>wp_ret p2 ⟨rfl,rfl,rfl,q1.1,q1.2.1,q1.2.2.1,q2⟩
def ZZx{b:List Int}(hb:b.length<=1099511627776){i h:Int}(hi:0<=i):wp (G89 ((b,i,h,()),())) (CurP b λp=>(-3<=p.X/\p.X<=3)/\ -3<=p.Y/\p.Y<=3):=by
 unfold G89 F89
 refine ZAN (ZGl hb hi (by omega) (by omega) (by omega)) λi1 h1 x1 p1 q1=> ?_
 exact ZAN (ZGl hb p1 (by omega) (by omega) (by omega)) λi2 h2 x2 p2 q2=>wp_ret p2 ⟨q1,q2⟩
def ZSi{α:Type}{l:List α}{k:Nat}(hk:k<=l.length)(d x:α):ZBZ l k d++[x]=ZBZ (l++[x]) k d:=by
 unfold ZBZ
 rw[List.take_append_of_le_length hk,List.drop_append_of_le_length hk,List.append_assoc];rfl
def ZSj{α:Type}(l:List α)(d:α):ZBZ l l.length d=l++[d]:=by
 unfold ZBZ;simp
def ZZy(l:List Device)(hl:l.length<=1048576):G228 (l,())=some (l,()):=by
 unfold G228 F228
 rw[ZAB];rfl
def ZM4{l:List Device}(h:RigP l){d:Device}(hn:d.Name.length<=1048576)(hl':d.Line.length<=1048576):
  wp (G167 (l,d,())) (λr=>RigP r.1/\l.length<=r.1.length/\(devB d=true->fnd l d.Name= -1->l.length≠8->ZBH l d=true->r.1.length=l.length+1)/\ ∀e∈r.1,e∈l\/e=d):=by
 have h8:=h.len
 have hl:l.length<=1048576:=by omega
 have hR:G230 (l,())=some (true,()):=by rw[ZEh l hl (ZEs h),(ZDS l).2 h]
 have hD:G169 (d,())=some (devB d,()):=(ZC1 d hn hl').1
 unfold G167 F167
 dsimp only
 rw[hR]
 simp only[al_bind_some,ZAG,ZAK,al_cond_true,hD,ZZy l hl]
 cases hd:devB d
 ·exact ZGG ⟨h,Nat.le_refl _,λe=>by(cases e),λe he=> .inl he⟩
 simp only[ZAG,ZAK,al_cond_true]
 rw[ZJ l hl]
 simp only[al_bind_some]
 rcases Or.symm (ZDk l d.Name)with ⟨k,x,e,_,_⟩ | ⟨e,hno⟩
 ·rw[ZAH (by omega)]
  exact ZGG ⟨h,Nat.le_refl _,λ_ e'=>by(rw[e']at e;omega),λe he=> .inl he⟩
 rw[ZAE (by omega)]
 simp only[ZAK,al_cond_true]
 by_cases h9:l.length=8
 ·rw[ZAH (by simp;omega)]
  exact ZGG ⟨h,Nat.le_refl _,(λ_ _ e'=>absurd h9 e'),λe he=> .inl he⟩
 rw[ZAE (by simp;omega)]
 simp only[ZAK,al_cond_true]
 rw[ZQE l hl d (ZHd hd)]
 simp only[al_bind_some]
 cases hh:ZBH l d
 ·exact ZGG ⟨h,Nat.le_refl _,λ_ _ _ e'=>by(cases e'),λe he=> .inl he⟩
 simp only[ZAG,al_cond_false]
 have good: ∀k,k<=l.length->(∀(i:Nat) e,i<k->l[i]?=some e->Op.bytesLess d.Name e.Name=false)->(∀e,l[k]?=some e->Op.bytesLess d.Name e.Name=true)->RigP (ZBZ l k d):=λk hk g1 g2=>
  ZXn h hk h9 hd hno hh g1 g2
 refine ZPh l.length (λj t=> ∃(i:Nat) (out:List Device) (done:Bool),t=(d,out,done,l,Int.ofNat l.length,(i:Int),())/\i+j=l.length/\
  ((
   done=false/\out=l.take i/\ ∀(m:Nat) e,m<i->l[m]?=some e->Op.bytesLess d.Name e.Name=false)\/
   (done=true/\ ∃k,k<i/\out=ZBZ (l.take i) k d/\(∀(m:Nat) e,m<k->l[m]?=some e->Op.bytesLess d.Name e.Name=false)/\ ∀e,l[k]?=some e->Op.bytesLess d.Name e.Name=true)))
  (by omega) ⟨0,[],false,rfl,by omega,.inl ⟨rfl,by simp,λm e hm=>by omega⟩⟩ ?_
 rintro j _ ⟨i,out,done,rfl,hij,hinv⟩ rec hrec
 simp only[s167_0]
 by_cases hi:i<l.length
 ·rw[ZA]
  have hx:l[i]?=some l[i]:=by simp
  have e1:w64 ((i:Int)+1)=((i+1:Nat):Int):=ZAC
  have hb:(!(Op.bytesLess l[i].Name d.Name || decide (l[i].Name=d.Name)))=Op.bytesLess d.Name l[i].Name:=by
   rw[<-ZGJ];simp
  have ho:out.length<=16:=by
   rcases hinv with ⟨_,rfl,_⟩ | ⟨_,k,_,rfl,_⟩
   ·simp;omega
   ·rw[ZJg];simp;omega
  rw[ZAF hx,e1,hb]
  rcases hinv with ⟨rfl,rfl,g1⟩ | ⟨rfl,k,hk,rfl,g1,g2⟩
  ·simp only[ZAK,al_cond_true]
   cases hc:Op.bytesLess d.Name l[i].Name
   ·simp only[al_cond_false]
    refine ZCR (by simp;omega) (hrec (j-1) _ (by omega) ⟨i+1,_,false,rfl,by omega,.inl ⟨rfl,(ZDm l i hi).symm,λm e hm he=> ?_⟩⟩)
    by_cases hmi:m=i
    ·subst hmi;rw[hx]at he;cases he;exact hc
    ·exact g1 m e (by omega) he
   ·simp only[al_cond_true]
    refine ZCR (by simp;omega) (ZCR (by simp;omega) (hrec (j-1) _ (by omega) ⟨i+1,_,true,rfl,by omega,.inr ⟨rfl,i,by omega,?_,g1,λe he=> ?_⟩⟩))
    ·rw[ZDm l i hi,<-ZSi (by simp;omega)]
     have:ZBZ (l.take i) i d=l.take i++[d]:=by
      have:=ZSj (l.take i) d
      rw[al_len_take,Nat.min_eq_left (by omega)]at this
      exact this
     rw[this]
    ·rw[hx]at he;cases he;exact hc
  ·simp only[ZAG,al_cond_false]
   refine ZCR (by simp;omega) (hrec (j-1) _ (by omega) ⟨i+1,_,true,rfl,by omega,.inr ⟨rfl,k,by omega,?_,g1,g2⟩⟩)
   rw[ZDm l i hi,<-ZSi (by simp;omega)]
 ·rw[ZAA]
  have hie:i=l.length:=by omega
  subst hie
  rcases hinv with ⟨rfl,rfl,g1⟩ | ⟨rfl,k,hk,rfl,g1,g2⟩
  ·simp only[ZAK,al_cond_true,List.take_length]
   refine ZCR (by simp;omega) (ZGG ⟨?_,by simp,λ_ _ _ _=>by simp,λe he=>by simpa using he⟩)
   rw[<-ZSj]
   exact good l.length (Nat.le_refl _) g1 (λe he=>by rw[List.getElem?_eq_none (by omega)]at he;cases he)
  ·simp only[ZAG,al_cond_false,List.take_length]
   refine ZGG ⟨good k (by omega) g1 g2,by(rw[ZJg];omega),(λ_ _ _ _=>ZJg _ _ _),λe he=>(ZHu.1 he).symm⟩
def ZJy(b:List Int)(c:Cur):Prop:= ∃i h,c=(b,i,h,())/\0<=i
def ZH5{l:List Str}{x:Str}(hx:x∈l)(h:l.all (λx=>decide (x.length<=9))=true):x.length<=1048576:=by
 have:=List.all_eq_true.mp h x hx
 have:x.length<=9:=by simpa using this
 omega
def ZFk(l:List Device):Prop:= ∀d∈l,d.Kind≠1->(-64<=d.At.X/\d.At.X<=64)/\ -64<=d.At.Y/\d.At.Y<=64
def ZM5{l r:List Device}{d:Device}(h:ZFk l)(hr: ∀e∈r,e∈l\/e=d)(hd:d.Kind≠1->(-64<=d.At.X/\d.At.X<=64)/\ -64<=d.At.Y/\d.At.Y<=64):ZFk r:=λe he hk=>by
 rcases hr e he with h1 | rfl
 ·exact h e h1 hk
 ·exact hd hk
def ZZz:RigP []:=⟨by simp,(λd hd=>by cases hd),(λi d e hd=>by simp at hd),(λd hd=>by cases hd)⟩
theorem ZZ0(s:Str):fnd [] s= -1:=rfl
def ZZ1{b:List Int}(hb:b.length<=1099511627776){i h:Int}(hi:0<=i):wp (G76 ((b,i,h,()),())) (CurP b λl=>RigP l/\1<=l.length/\ZFk l):=by
 unfold G76 F76
 refine ZAN (ZBC hb hi (by omega)) λi1 h1 x1 p1 q1=> ?_
 dsimp only
 rw[ZAC (n:=1+x1) (by omega) (by omega)]
 refine ZLS ⟨by omega,by simp;omega⟩ ?_
 obtain⟨n,hn⟩: ∃n:Nat,(1+x1).toNat=n/\1<=n/\n<=2:=⟨(1+x1).toNat,rfl,by omega,by omega⟩
 rw[hn.1]
 simp only[List.drop_zero,Nat.sub_zero]
 generalize hps:List.take n ([[112],[113]]:List Str)=ps
 have hpl:ps.length=n:=by rw[<-hps];simp;omega
 have hpm: ∀x∈ps,x∈([[112],[113]]:List Str):=λx hx=>by rw[<-hps]at hx;exact List.mem_of_mem_take hx
 have en:Int.ofNat n=Int.ofNat ps.length:=by rw[hpl]
 rw[en]
 refine ZFI ps.length (λj t=> ∃(k:Nat) (c:Cur) (l:List Device),t=(c,l,ps,ps,Int.ofNat ps.length,(k:Int),())/\k+j=ps.length/\ZJy b c/\RigP l/\(k=0->l=[])/\(1<=k->1<=l.length)/\ZFk l)
  (λt=> ∃(c:Cur) (l:List Device) (z:List Str) (n k:Int),t=(c,l,ps,z,n,k,())/\ZJy b c/\RigP l/\1<=l.length/\ZFk l)
  (by omega) ⟨0,_,[],rfl,by omega,⟨i1,h1,rfl,p1⟩,ZZz,(λ_=>rfl),(λh=>by omega),λd hd=>by cases hd⟩ ?_ ?_
 ·rintro j _ ⟨k,_,l,rfl,hkj,⟨i2,h2,rfl,p2⟩,hr,h0,hk1,hnr⟩ rec K hrec hK
  simp only[s76_0]
  by_cases hk:k<ps.length
  ·have hx:ps[k]?=some ps[k]:=by simp
   have e1:w64 ((k:Int)+1)=((k+1:Nat):Int):=ZAC
   rw[ZA,ZAF hx,e1]
   have hm:=hpm ps[k] (by simp)
   refine ZAN (ZBC hb p2 (by omega)) λi3 h3 x3 p3 q3=> ?_
   refine ZCn (ZM4 hr (d:=⟨ps[k],1,[],⟨0,0⟩,0,0,x3⟩) (ZH5 hm (by decide)) (by simp)) λr hrr=> ?_
   refine hrec (j-1) _ (by omega) ⟨k+1,_,r.1,rfl,by omega,⟨i3,h3,rfl,p3⟩,hrr.1,(λh=>by omega),(λ_=> ?_),ZM5 hnr hrr.2.2.2 λhk=>absurd rfl hk⟩
   by_cases hz:k=0
   ·have hl0:=h0 hz
    subst hl0
    have hdv:devB ⟨ps[k],1,[],⟨0,0⟩,0,0,x3⟩=true:=by
     have hnm:isNm ps[k]=true:=by
      rcases List.mem_cons.mp hm with e | e
      ·rw[e];decide
      ·rw[List.mem_singleton.mp e];decide
     unfold devB
     simp only[hnm,if_true,decide_true,Bool.true_and]
     exact ZAZ (by omega) (by omega)
    have:=hrr.2.2.1 hdv (ZZ0 _) (by simp) (by unfold ZBH;simp)
    rw[this];simp
   ·have:=hk1 (by omega)
    have:=hrr.2.1
    omega
  ·rw[ZAA]
   exact hK _ ⟨_,l,ps,_,_,rfl,⟨i2,h2,rfl,p2⟩,hr,hk1 (by omega),hnr⟩
 ·rintro _ ⟨_,l,z,n9,k9,rfl,⟨i2,h2,rfl,p2⟩,hr,hl1,hnr⟩
  dsimp only
  refine ZAN (ZBC hb p2 (by omega)) λi3 h3 x3 p3 q3=> ?_
  refine ZLS ⟨q3.1,by simp;omega⟩ ?_
  simp only[List.drop_zero,Nat.sub_zero]
  generalize hns:List.take x3.toNat ([[97],[98],[99],[114]]:List Str)=ns
  have hnl:ns.length=x3.toNat:=by rw[<-hns];simp;omega
  have hnm: ∀x∈ns,x∈([[97],[98],[99],[114]]:List Str):=λx hx=>by rw[<-hns]at hx;exact List.mem_of_mem_take hx
  have en2:Int.ofNat x3.toNat=Int.ofNat ns.length:=by rw[hnl]
  rw[en2]
  refine ZFI ns.length (λj t=> ∃(k:Nat) (c:Cur) (l:List Device),t=(c,l,ps,ns,ns,Int.ofNat ns.length,(k:Int),())/\k+j=ns.length/\ZJy b c/\RigP l/\1<=l.length/\ZFk l)
   (λt=> ∃(c:Cur) (l:List Device) (p z:List Str) (n k:Int),t=(c,l,p,ns,z,n,k,())/\ZJy b c/\RigP l/\1<=l.length/\ZFk l)
   (by omega) ⟨0,_,l,rfl,by omega,⟨i3,h3,rfl,p3⟩,hr,hl1,hnr⟩ ?_ ?_
  ·rintro j _ ⟨k,_,l,rfl,hkj,⟨i4,h4,rfl,p4⟩,hr,hl1,hnr⟩ rec K hrec hK
   simp only[s76_2]
   by_cases hk:k<ns.length
   ·have hx:ns[k]?=some ns[k]:=by simp
    have e1:w64 ((k:Int)+1)=((k+1:Nat):Int):=ZAC
    rw[ZA,ZAF hx,e1]
    have hm:=hnm ns[k] (by simp)
    refine ZAN (ZFj hb p4 (by omega)) λi5 h5 x5 p5 q5=> ?_
    refine ZAN (ZSh hb p5) λi6 h6 x6 p6 q6=> ?_
    refine ZCn (ZM4 hr (d:=x6) (by rw[q6.1];exact ZH5 hm (by decide)) (by rw[q6.2.2.1];exact ZH5 (hpm _ q5) (by decide))) λr hrr=> ?_
    exact hrec (j-1) _ (by omega) ⟨k+1,_,r.1,rfl,by omega,⟨i6,h6,rfl,p6⟩,hrr.1,by(have:=hrr.2.1;omega),ZM5 hnr hrr.2.2.2 λ_=>q6.2.2.2.1⟩
   ·rw[ZAA]
    exact hK _ ⟨_,l,ps,ns,_,_,rfl,⟨i4,h4,rfl,p4⟩,hr,hl1,hnr⟩
  ·rintro _ ⟨_,l,p,z,n8,k8,rfl,⟨i4,h4,rfl,p4⟩,hr,hl1,hnr⟩
   dsimp only
   refine ZCz (λhc=> ?_) λ_=>wp_ret p4 ⟨hr,hl1,hnr⟩
   have hns1:0<ns.length:=by simpa using hc
   refine ZAN (ZGk hb p4 (by omega)) λi5 h5 x5 p5 q5=> ?_
   refine wp_cond (λ_=> ?_) λ_=>wp_ret p5 ⟨hr,hl1,hnr⟩
   refine ZAN (ZFj hb p5 (by simp)) λi6 h6 x6 p6 q6=> ?_
   refine ZAN (ZFj hb p6 hns1) λi7 h7 x7 p7 q7=> ?_
   refine ZAN (ZH4 hb p7) λi8 h8 x8 p8 q8=> ?_
   refine ZCn (ZM4 hr (d:=⟨x6,3,x7,⟨x8.X,x8.Y⟩,0,0,0⟩) (ZH5 q6 (by decide)) (ZH5 (hnm _ q7) (by decide))) λr hrr=> ?_
   exact wp_ret p8 ⟨hrr.1,by(have:=hrr.2.1;omega),ZM5 hnr hrr.2.2.2 λ_=>q8⟩
def cueD(t:Int)(c:Cue):Prop:=(0<=c.Tick/\c.Tick<t)/\c.Name.length<=9/\(0<=c.Level/\c.Level<=32)/\0<=c.Ramp/\c.Ramp<=16
def ZM6{b:List Int}(hb:b.length<=1099511627776){i h:Int}(hi:0<=i):wp (G81 ((b,i,h,()),())) (CurP b λx=>x.length<=9):=by
 unfold G81 F81
 refine ZAN (ZFj hb hi (by simp)) λi1 h1 x1 p1 q1=>wp_ret p1 ?_
 have:=List.all_eq_true.mp (show List.all _ (λx:Str=>decide (x.length<=9))=true from by decide) x1 q1
 simpa using this
def ZZ2{b:List Int}(hb:b.length<=1099511627776){i h:Int}(hi:0<=i):wp (G87 ((b,i,h,()),())) (CurP b (cueD 14)):=by
 unfold G87 F87
 refine ZAN (ZBC hb hi (by omega)) λi1 h1 x1 p1 q1=> ?_
 refine ZAN (ZM6 hb p1) λi2 h2 x2 p2 q2=> ?_
 refine ZAN (ZBC hb p2 (by omega)) λi3 h3 x3 p3 q3=> ?_
 refine ZAN (ZFi hb p3 (by simp)) λi4 h4 x4 p4 q4=> ?_
 refine wp_ret p4 ⟨q1,q2,⟨q3.1,by simp only;omega⟩,?_⟩
 simp at q4
 simp only
 omega
def ZSk{b:List Int}(hb:b.length<=4096):wp (G33 (b,())) (λr=> ∃h,r=((b,0,h,()),())):=by
 obtain⟨h,e⟩:=ZZv b hb
 exact⟨_,e,h,rfl⟩
end Ev
end
noncomputable section
namespace Ev
open Go
def ZSl{s:ZAM}(h:ShowV s):G50 (s,())=some (true,()):=by rw[ZDT s h.ok,ZEi h]
def ZZ3{l:List Device}(h:RigP l)(n:Int):G205 (l,n,())=some (l.map (mvD n),()):=by
 have hlen:=h.len
 have hR:G118 (l,())=some (true,()):=by rw[ZDl l (by omega) (ZEs h),(ZDS l).2 h]
 have tI: ∀p,G220 (p,n,())=some (rotN (q4 n) p,()):=λp=>ZHb p n
 have hI: ∀x,G292 (x,n,())=some (hd4 x n,()):=λx=>thI x n
 unfold G205 F205
 simp only[hR,al_bind_some,ZAG,al_cond_false]
 have run:=ZAU (f:=s205_0 G118 G220 G292) (K:=λt6=>some (t6.2.1,())) (λi=>(n,(l.take i).map (mvD n),l,Int.ofNat l.length,(i:Int),())) l.length (by omega)
  (by
   intro i hi rec K
   have hx:l[i]?=some l[i]:=by simp
   have e1:w64 ((i:Int)+1)=((i+1:Nat):Int):=ZAC
   have hcap:((l.take i).map (mvD n)).length+1<=1099511627776:=by simp;omega
   rw[<-ZD2 (mvD n) l i hi]
   simp only[s205_0]
   rw[ZA,ZAF hx]
   simp only[tI,hI,al_bind_some]
   by_cases k2:l[i].Kind=2
   ·rw[ZA k2,ZAB (by simpa using hcap),e1]
    unfold mvD;rw[al_if_pos k2]
   ·rw[ZAA k2,ZAB (by simpa using hcap),e1]
    unfold mvD;rw[al_if_neg k2])
  (by
   intro rec K
   simp only[s205_0]
   rw[ZAA])
 rw[List.take_length]at run
 exact run
def ZZ4{l:List Gust}(h:WindP l)(n:Int):G206 (l,n,())=some (l.map (mvG n),()):=by
 have hlen:=h.len
 have hW:G120 (l,())=some (true,()):=by rw[ZFO l (by omega),(ZFc (by omega)).2 h]
 have tI: ∀p,G220 (p,n,())=some (rotN (q4 n) p,()):=λp=>ZHb p n
 unfold G206 F206
 simp only[hW,al_bind_some,ZAG,al_cond_false]
 have run:=ZAU (f:=s206_0 G120 G220) (K:=λt5=>some (t5.2.1,())) (λi=>(n,(l.take i).map (mvG n),l,Int.ofNat l.length,(i:Int),())) l.length (by omega)
  (by
   intro i hi rec K
   have hx:l[i]?=some l[i]:=by simp
   have e1:w64 ((i:Int)+1)=((i+1:Nat):Int):=ZAC
   have hcap:((l.take i).map (mvG n)).length+1<=1099511627776:=by simp;omega
   rw[<-ZD2 (mvG n) l i hi]
   simp only[s206_0]
   rw[ZA,ZAF hx]
   simp only[tI,al_bind_some]
   rw[ZAB (by simpa using hcap),e1]
   rfl)
  (by
   intro rec K
   simp only[s206_0]
   rw[ZAA])
 rw[List.take_length]at run
 exact run
def ZZ5{s:ZAM}(h:ShowV s)(n:Int):G107 (s,n,())=some (mvS n s,()):=by
 have c2:G185 (s.2.1,())=some (s.2.1,()):=ZI8 s.2.1 h.ok.score
 unfold G107 F107
 simp only[ZBI,ZSl h,ZZ3 h.rig n,c2,ZZ4 (ZEt h) n,al_bind_some,ZAG,al_cond_false]
 rfl
end Ev
end
noncomputable section
namespace Ev
open Go
def ZM7{α:Type}{R:α->α->Prop}{l:List α}(h:l.Pairwise R): ∀(i:Nat) (a b:α),l[i]?=some a->l[i+1]?=some b->R a b:=by
 intro i a b ha hb
 obtain⟨h1,rfl⟩:=al_get_iff.mp ha
 obtain⟨h2,rfl⟩:=al_get_iff.mp hb
 exact List.pairwise_iff_getElem.mp h i (i+1) h1 h2 (by omega)
def ZM8{α:Type}{R:α->α->Prop}{l:List α}(h: ∀(k i:Nat) (a b:α),l[i]?=some a->l[i+k+1]?=some b->R a b):l.Pairwise R:=by
 rw[List.pairwise_iff_getElem]
 intro i j hi hj hij
 exact h (j-i-1) i _ _ (by simp) (by rw[show i+(j-i-1)+1=j by omega];simp)
def ZH6{α:Type}{l:List α}{i:Nat}{x y:α} :y∈insL l i x↔y=x\/y∈l:=by
 unfold insL
 rw[List.mem_append,List.mem_cons]
 constructor
 ·rintro (h | h | h)
  ·exact .inr (List.mem_of_mem_take h)
  ·exact .inl h
  ·exact .inr (List.mem_of_mem_drop h)
 ·rintro (h | h)
  ·exact .inr (.inl h)
  ·rw[<-List.take_append_drop i l,List.mem_append]at h
   rcases h with h | h
   ·exact .inl h
   ·exact .inr (.inr h)
def ZSm{α:Type}{R:α->α->Prop}(tr: ∀a b c,R a b->R b c->R a c){l:List α}(h:l.Pairwise R){i:Nat}{x:α}(h1: ∀j,j<i-> ∀y,l[j]?=some y->R y x)(h2: ∀y,l[i]?=some y->R x y):(insL l i x).Pairwise R:=by
 unfold insL
 have hs:(l.take i++l.drop i).Pairwise R:=by rw[List.take_append_drop];exact h
 rw[List.pairwise_append]at hs
 have hb: ∀b∈l.drop i,R x b:=by
  intro b hb
  cases hd:l.drop i with
  | nil=>rw[hd]at hb;cases hb
  | cons y r=>
   have hy:R x y:=h2 y (by have:=congrArg (λq=>q[0]?) hd;simpa using this)
   rw[hd]at hb
   rcases List.mem_cons.mp hb with rfl | hb
   ·exact hy
   ·have:=hs.2.1
    rw[hd,List.pairwise_cons]at this
    exact tr _ _ _ hy (this.1 b hb)
 have ha: ∀a∈l.take i,R a x:=by
  intro a ha
  obtain⟨j,hj⟩:=List.mem_iff_getElem?.mp ha
  have hlt:=(al_get_iff.mp hj).1
  rw[al_len_take]at hlt
  refine h1 j (by omega) a ?_
  rw[List.getElem?_take_of_lt (by omega)]at hj
  exact hj
 rw[List.pairwise_append]
 refine⟨hs.1,List.pairwise_cons.mpr ⟨hb,hs.2.1⟩,λa hma b hmb=> ?_⟩
 rcases List.mem_cons.mp hmb with rfl | hmb
 ·exact ha a hma
 ·exact hs.2.2 a hma b hmb
def ZM9{l:List Device}(hp:l.Pairwise λa b=>Op.bytesLess a.Name b.Name=true)(d:Device):ZBH l d=true↔d.Kind=1\/ ∃x∈l,x.Name=d.Line/\x.Kind=d.Kind-1:=by
 unfold ZBH
 rw[Bool.or_eq_true,ZAX,ZAJ,ZAX,ZAX]
 refine or_congr Iff.rfl ?_
 rcases ZDk l d.Line with ⟨e,hn⟩ | ⟨k,x,e,h1,h2⟩
 ·rw[e]
  constructor
  ·rintro ⟨h,_⟩;omega
  ·rintro ⟨x,hx,hq,_⟩;exact absurd hq (hn x hx)
 ·rw[e,ZAW]
  unfold ZFN
  rw[h1]
  simp only[Option.map_some,Option.getD_some]
  constructor
  ·rintro ⟨_,h⟩;exact⟨x,al_mem_get h1,h2,h⟩
  ·rintro ⟨y,hy,hq,hk⟩
   refine⟨by omega,?_⟩
   obtain⟨j,hj⟩:=List.mem_iff_getElem?.mp hy
   have hkj:k=j:=by
    obtain⟨b1,e1⟩:=al_get_iff.mp h1
    obtain⟨b2,e2⟩:=al_get_iff.mp hj
    rcases Nat.lt_trichotomy k j with q | q | q
    ·have:=List.pairwise_iff_getElem.mp hp k j b1 b2 q
     rw[e1,e2,h2,hq,ZGK]at this;cases this
    ·exact q
    ·have:=List.pairwise_iff_getElem.mp hp j k b2 b1 q
     rw[e1,e2,h2,hq,ZGK]at this;cases this
   subst hkj
   rw[h1]at hj;cases hj;exact hk
def ZN{l:List Device}(h:RigP l):l.Pairwise λa b=>Op.bytesLess a.Name b.Name=true:=ZM8 (ZLo h)
def ZSn{l:List Device}(h8:l.length<=8)(hd: ∀d∈l,devB d=true)(hp:l.Pairwise λa b=>Op.bytesLess a.Name b.Name=true)(hh: ∀d∈l,d.Kind=1\/ ∃x∈l,x.Name=d.Line/\x.Kind=d.Kind-1):RigP l:=
 ⟨h8,hd,ZM7 hp,λd hm=>(ZM9 hp d).2 (hh d hm)⟩
def ZSo{l:List Device}(h:RigP l): ∀d∈l,d.Kind=1\/ ∃x∈l,x.Name=d.Line/\x.Kind=d.Kind-1:=λd hd=>(ZM9 (ZN h) d).1 (h.hung d hd)
def ZZ6{l:List Device}{d:Device}(hb:addB l d=true):RigP (addD l d):=by
 unfold addD
 rw[al_if_pos hb]
 unfold addB at hb
 simp only[ZAJ,Bool.not_eq_true',decide_eq_false_iff_not]at hb
 obtain⟨hr,hd,hf,h8,hh⟩:=hb
 have h:=(ZDS l).1 hr
 have hno: ∀x∈l,x.Name≠d.Name:=by
  rcases ZDk l d.Name with ⟨_,hn⟩ | ⟨k,x,e,_,_⟩
  ·exact hn
  ·omega
 have hp:=ZN h
 obtain⟨l1,l2⟩:=ZMb d.Name l
 refine ZSn ?_ ?_ (ZSm (R:=λa b:Device=>Op.bytesLess a.Name b.Name=true) (λa b c=>ZHc _ _ _) hp l1 λy hy=> ?_) ?_
 ·rw[ZDQ _ _ _ (ZLM _ _)];omega
 ·intro x hx
  rcases ZH6.mp hx with rfl | hx
  ·exact hd
  ·exact h.dev x hx
 ·rcases ZJh y.Name d.Name with ⟨q,_⟩ | ⟨q,_⟩ | ⟨q,_⟩
  ·rw[l2 y hy]at q;cases q
  ·exact absurd q (hno y (al_mem_get hy))
  ·exact q
 ·intro x hx
  rcases ZH6.mp hx with rfl | hx
  ·rcases (ZM9 hp x).1 hh with q | ⟨y,hy,q⟩
   ·exact .inl q
   ·exact .inr ⟨y,ZH6.mpr (.inr hy),q⟩
  ·rcases ZSo h x hx with q | ⟨y,hy,q⟩
   ·exact .inl q
   ·exact .inr ⟨y,ZH6.mpr (.inr hy),q⟩
def ZSp(s:Str): ∀(l:List Device) (o:List Str),l.foldl (onF s) o=[]-> ∀d∈l,d.Line≠s
 | [],o,_,d,hd=>by cases hd
 | x::l,o,h,d,hd=>by
  rw[List.foldl_cons]at h
  rcases List.mem_cons.mp hd with rfl | hd
  ·intro e
   unfold onF at h
   rw[al_if_pos e]at h
   have key: ∀(m:List Device) (o:List Str),o≠[]->m.foldl (onF s) o≠[]:=by
    intro m
    induction m with
    | nil=>intro o h;exact h
    | cons a m ih=>
     intro o ho
     rw[List.foldl_cons]
     refine ih _ ?_
     unfold onF
     split
     ·simp
     ·exact ho
   exact key l _ (by simp) h
  ·exact ZSp s l _ h d hd
def ZZ7{l:List Device}{s:Str}(hb:remB l s=true):RigP (remD l s):=by
 unfold remD
 rw[al_if_pos hb]
 unfold remB at hb
 simp only[ZAJ,Bool.not_eq_true',decide_eq_false_iff_not]at hb
 obtain⟨hr,hf,ho⟩:=hb
 have h:=(ZDS l).1 hr
 have hp:=ZN h
 obtain⟨k1,k2⟩:=ZMd l s hf
 rcases ZDk l s with ⟨e,_⟩ | ⟨k,x,e,hx,hn⟩
 ·omega
 rw[e,ZAW]at k1⊢
 have hsub:(delL l k).Sublist l:=by
  unfold delL
  conv=>rhs;rw[<-List.take_append_drop k l]
  exact List.Sublist.append (List.Sublist.refl _) (by rw[<-List.drop_drop];exact List.drop_sublist 1 _)
 have hs:s≠[]:=by
  intro q
  have:=ZBP (ZC7 (h.dev x (al_mem_get hx))).nm
  have hnm:=(ZC7 (h.dev x (al_mem_get hx))).nm
  exact(ZGa hnm).2 (hn.trans q)
 have hon: ∀d∈l,d.Line≠s:=by
  refine ZSp s l [] ?_
  unfold onL at ho
  rw[al_if_pos ⟨hr,hs⟩]at ho
  exact List.length_eq_zero_iff.mp (by omega)
 refine ZSn (Nat.le_trans hsub.length_le h.len) (λd hd=>h.dev d (hsub.subset hd)) (hp.sublist hsub) λd hd=> ?_
 rcases ZSo h d (hsub.subset hd)with q | ⟨y,hy,q1,q2⟩
 ·exact .inl q
 ·refine .inr ⟨y,?_,q1,q2⟩
  obtain⟨j,hj⟩:=List.mem_iff_getElem?.mp hy
  have hjk:j≠k:=by
   intro q;subst q
   rw[hx]at hj;cases hj
   exact hon d (hsub.subset hd) (q1.symm.trans hn)
  unfold delL
  rw[List.mem_append]
  by_cases hlt:j<k
  ·exact .inl (al_mem_get (by rw[List.getElem?_take_of_lt hlt];exact hj))
  ·exact .inr (al_mem_get (i:=j-(k+1)) (by rw[List.getElem?_drop,show k+1+(j-(k+1))=j by omega];exact hj))
def ZZ8{l:List Cue}{x:Cue}(hl:l.length<=1048576)(hn:ZCS l)(hb:ZBs l x=true):ScoreP (ZCr l x):=by
 unfold ZCr
 rw[al_if_pos hb]
 unfold ZBs at hb
 simp only[ZAJ,Bool.not_eq_true',decide_eq_false_iff_not]at hb
 obtain⟨hs,hc,he,h12⟩:=hb
 have h:=(ZHv hn hl).1 hs
 obtain⟨l0,l1,l2⟩:=ZJj x l
 have hp:l.Pairwise λa b=>cmpC a b<0:=ZM8 (ZMi h)
 refine⟨?_,?_,ZM7 (R:=λa b:Cue=>cmpC a b<0) (ZSm (R:=λa b:Cue=>cmpC a b<0) (λa b c=>ZRd) hp l1 λy hy=> ?_)⟩
 ·rw[ZDQ _ _ _ l0];omega
 ·intro y hy
  rcases ZH6.mp hy with rfl | hy
  ·exact hc
  ·exact h.cue y hy
 ·have n1:=l2 y hy
  have n2: ¬cmpC y x=0:=by
   unfold eqAt at he
   rw[hy]at he
   exact of_decide_eq_false he
  rw[ZMg]at n1⊢
  rw[ZMh]at n2
  rcases Int.lt_trichotomy x.Tick y.Tick with q | q | q
  ·exact .inl q
  ·right
   refine⟨q,?_⟩
   rcases ZJh x.Name y.Name with ⟨k,_⟩ | ⟨k,_⟩ | ⟨k,_⟩
   ·exact k
   ·exact absurd ⟨q.symm,k.symm⟩ n2
   ·exact absurd (.inr ⟨q.symm,k⟩) n1
  ·exact absurd (.inl q) n1
def ZNA(was:Place): ∀w:List Gust,(chgL was w).Sublist w
 | []=>List.Sublist.refl _
 | g::r=>by
  unfold chgL
  split
  ·exact(ZNA was r).trans (List.sublist_cons_self g r)
  ·exact List.Sublist.cons_cons g (ZNA g.Drift r)
def ZZ9{w:List Gust}(h:WindP w):w.Pairwise λa b=>a.From<b.From:=by
 have key: ∀(k i:Nat) (a b:Gust),w[i]?=some a->w[i+k+1]?=some b->a.From<b.From:=by
  intro k
  induction k with
  | zero=>intro i a b ha hb;exact h.lt i a b ha hb
  | succ k ih=>
   intro i a b ha hb
   have hi:i+k+1<w.length:=by have:=(al_get_iff.mp hb).1;omega
   have hx:w[i+k+1]?=some w[i+k+1]:=by simp[hi]
   have:=ih i a _ ha hx
   have:=h.lt (i+k+1) _ b hx hb
   omega
 exact ZM8 key
def Za{w:List Gust}(hw:w.length<=1048576){p:Place}{t:Int}(hb:jnB w p t=true):WindP (jnD w p t):=by
 unfold jnD
 rw[al_if_pos hb]
 unfold jnB at hb
 simp only[ZAJ,Bool.not_eq_true',decide_eq_false_iff_not]at hb
 obtain⟨hs,hp,ht,h8⟩:=hb
 have h:=(ZFc hw).1 hs
 have hsub:=ZNA ⟨0,0⟩ ((w.filter λg=>decide (g.From<t))++[⟨t,p⟩])
 have ht:=ZAj.1 ht
 refine⟨by omega,λg hg=> ?_,ZM7 (List.Pairwise.sublist hsub ?_)⟩
 ·rcases List.mem_append.mp (hsub.subset hg)with q | q
  ·exact h.gust g (List.mem_filter.mp q).1
  ·obtain rfl:=List.mem_singleton.mp q
   exact⟨ht,hp⟩
 ·rw[List.pairwise_append]
  refine⟨(ZZ9 h).sublist List.filter_sublist,by simp,λa ha b hb=> ?_⟩
  obtain rfl:=List.mem_singleton.mp hb
  exact of_decide_eq_true (List.mem_filter.mp ha).2
def ZaA(y:Place):K3 (shW y):=by
 constructor<;>intro d<;>unfold shW<;>split<;>rfl
def ZaB{y:Place}{l:List Device}(h:shB y l=true): ∀d∈l,devB (shW y d)=true:=by
 intro d hd
 unfold shB at h
 rw[List.all_eq_true]at h
 obtain⟨i,hi⟩:=List.mem_iff_getElem?.mp hd
 have:=h i (by simpa using (al_get_iff.mp hi).1)
 rw[hi]at this
 exact this
def ZaC{s:ZAM}(h:ShowV s)(p:Place)(hb:(ZBR s p).2=true):ShowV (ZBR s p).1:=by
 have hI:=(ZM0 s h.ok p).1
 have hs:=ZSl h
 unfold G108 F108 at hI
 cases hp:isPl p with
 | false=>
  have q3:G124 (p,())=some (isPl p,()):=ZB1 p
  have e:G207 (s.1,p,())=some (([]:List Device),false,()):=by
   unfold G207 F207
   simp only[ZDl s.1 h.ok.rig h.ok.devs,(ZDS s.1).2 h.rig,q3,hp,al_bind_some]
   rfl
  simp only[ZBI,hs,e,al_bind_some,ZA4]at hI
  injection hI with hI
  have:=congrArg (λq=>q.2.1) hI
  simp only at this
  rw[<-this]at hb;cases hb
 | true=>
  have e:=ZSE h.rig hp
  cases hq:shB p s.1 with
  | false=>
   rw[hq]at e
   simp only[ZBI,hs,e,ZA4,al_bind_some]at hI
   injection hI with hI
   have:=congrArg (λq=>q.2.1) hI
   simp only at this
   rw[<-this]at hb;cases hb
  | true=>
   rw[hq]at e
   have c2:=ZSG s h.ok
   simp only[ZBI,hs,e,c2,ZA4,al_bind_some]at hI
   injection hI with hI
   have:=congrArg (λq=>q.1) hI
   simp only at this
   rw[<-this]
   exact ZEB (ZRy (ZaA p) h.rig (ZaB hq)) (ZFd h) (ZEt h) h.tick
def ZSq{s:ZAM}(h:ShowV s)(n:Int):ZCW s n=mvS n s:=by
 have h1:=(ZMz s h.ok n).1
 rw[ZZ5 h n]at h1
 injection h1 with h1
 exact(congrArg (λq=>q.1) h1).symm
def ZaD{s:ZAM}(h:ShowV s)(n:Int):ShowV (ZCW s n):=by rw[ZSq h n];exact ZYO h n
def ZEG{x:ZAP}(h:ShowV x.shw)(hr:RoseV x.ros)(hb:isBx x.bas=true):DeskV x:=⟨⟨h.ok,by have:=hr.len;omega⟩,h,hr,hb⟩
def ZJz{x:ZAP}(h:DeskV x){s:ZAM}(hs:ShowV s):DeskV (ZB2 x s):=ZEG (x:=ZB2 x s) hs h.ros h.box
def ZaE{x:ZAP}(h:DeskV x){line:Str}(hl:line.length<=1048576):DeskV (ZBd x line).1:=by
 have key: ∀(c:Prop) [Decidable c] (a b:ZAP×Str),(c->DeskV a.1)->DeskV b.1->DeskV (if c then a else b).1:=by
  intro c _ a b h1 h2
  by_cases hc:c
  ·rw[al_if_pos hc];exact h1 hc
  ·rw[al_if_neg hc];exact h2
 rcases ZFV 32 line with ⟨hn,_⟩ | ⟨p,r,e,hp,_⟩
 ·rw[ZJt x hn]
  unfold oneR
  refine key _ _ _ (λ_=>ZJz h (ZJm h.shw h.ok.ros _)) ?_
  refine key _ _ _ (λ_=>h) ?_
  refine key _ _ _ (λ_=>h) ?_
  refine key _ _ _ (λ_=>h) ?_
  refine key _ _ _ (λ_=>h) ?_
  exact key _ _ _ (λ_=>h) h
 ·subst e
  rw[ZJu x hp]
  unfold ZA0
  refine key _ _ _ (λ_=>key _ _ _ (λhb=> ?_) h) ?_
  ·rw[ZAJ]at hb
   exact ZEG (show ShowV (_,x.2.1,x.2.2.1,x.2.2.2.1,())from ZEB (ZZ6 hb.2) (ZFd h.shw) (ZEt h.shw) h.shw.tick) h.ros h.box
  refine key _ _ _ (λ_=>key _ _ _ (λhb=> ?_) h) ?_
  ·rw[ZAJ]at hb
   exact ZEG (show ShowV (x.1,_,x.2.2.1,x.2.2.2.1,())from ZEB h.shw.rig (ZZ8 h.ok.shw.score h.ok.shw.names hb.2) (ZEt h.shw) h.shw.tick) h.ros h.box
  refine key _ _ _ (λ_=>key _ _ _ (λ_=>key _ _ _ (λhb=> ?_) h) h) ?_
  ·exact ZEG (show ShowV (_,x.2.1,x.2.2.1,x.2.2.2.1,())from ZEB (ZZ7 hb) (ZFd h.shw) (ZEt h.shw) h.shw.tick) h.ros h.box
  refine key _ _ _ (λ_=>key _ _ _ (λ_=>h) h) ?_
  refine key _ _ _ (λ_=>key _ _ _ (λ_=>key _ _ _ (λhb=> ?_) h) h) ?_
  ·exact ZEG (show ShowV (x.1,x.2.1,_,x.2.2.2.1,())from ZEB h.shw.rig (ZFd h.shw) (Za h.ok.shw.wind hb) h.shw.tick) h.ros h.box
  refine key _ _ _ (λ_=>key _ _ _ (λhq=> ?_) h) ?_
  ·have hn:0<=(numP r).1:=by
    rcases ZFX r with q | ⟨m,_,_,q⟩<;>rw[q]<;>simp
   unfold ZBi
   refine key _ _ _ (λ_=>key _ _ _ (λh6=> ?_) h) ?_
   ·exact ZEG (show ShowV (x.1,x.2.1,x.2.2.1,_,())from ZEB h.shw.rig (ZFd h.shw) (ZEt h.shw) ⟨hn,h6⟩) h.ros h.box
   refine key _ _ _ (λ_=>ZJz h (ZaD h.shw _)) ?_
   refine key _ _ _ (λ_=>h) ?_
   exact key _ _ _ (λ_=>h) h
  refine key _ _ _ (λ_=>key _ _ _ (λ_=>key _ _ _ (λhb=> ?_) h) h) ?_
  ·have hlen:(ZA7 (splC 32 r)).length<=1048576:=by
    unfold ZA7;rw[List.length_map];have:=ZGU 32 r;simp at hl;omega
   have hI:=ZGh _ hlen
   rw[hb]at hI
   exact ZEG (x:=ZH0 x _) h.shw (ZMq hlen hI) h.box
  refine key _ _ _ (λ_=>key _ _ _ (λ_=>key _ _ _ (λhb=> ?_) h) h) ?_
  ·exact ZEG (x:=ZH1 x _ _) h.shw h.ros hb
  exact key _ _ _ (λ_=>key _ _ _ (λ_=>key _ _ _ (λhb=>ZJz h (ZaC h.shw _ hb)) h) h) h
end Ev
end
