/- Laid together by program (what the claim does not reach is left out): ParF, InsA, ParG, TxtW, ParH, ParI, SafeT, Dry8, SumA, Geo, Lmt, DkA, DkB. -/
import Derived.Test.YtoafhcjocdjkjaaGreatDoorZB11
set_option linter.all false
set_option maxRecDepth 100000
open Go.Proofs.Tryz
noncomputable section
namespace Ev
open Go
def ZQi{w pad:List Str}{i m:Nat}(hp:pad=List.replicate m [])(hw:1<=w.length)(hi:i<=m):(w++pad)[i]?=some (wAt w i):=by
 by_cases h:i<w.length
 ·rw[List.getElem?_append_left h,ZBY h]
 ·rw[List.getElem?_append_right (by omega),hp,List.getElem?_replicate,al_if_pos]
  unfold wAt
  rw[List.getElem?_eq_none (by omega)];rfl
def ZWs(s:Str)(hs:s.length<=1048576):G243 (s,())=some ((devP s).1,(devP s).2,()):=by
 unfold G243 F243
 rw[ZGC s 32 hs,<-ZWq]
 simp only[al_bind_some]
 have hw: ∀i,(wAt (splC 32 s) i).length<=1048576:=λi=>Nat.le_trans ZCu hs
 have hl:=ZF4 32 s
 have h1:1<=(splC 32 s).length:=List.length_pos_iff.mpr (ZCd 32 s)
 generalize splC 32 s=w at hw hl h1
 have hm:=λi=>ZHU (wAt w i) (hw i)
 have hp:=λi=>ZLt (wAt w i) (hw i)
 have hn:=λi=>ZFD (wAt w i) (hw i)
 have hP: ∀i,i<=11->(w++([[],[],[],[],[],[],[],[],[],[],[]]:List Str))[i]?=some (wAt w i):=λi hi=>ZQi (m:=11) rfl h1 hi
 have r0: ∀K:Str->Option (Device×Bool×Unit),rdL (w++([[],[],[],[],[],[],[],[],[],[],[]]:List Str)) 0 K=K (wAt w 0):=λK=>ZAE (i:=0) (hP 0 (by omega))
 have g0:((w++([[],[],[],[],[],[],[],[],[],[],[]]:List Str)))[(Int.toNat 0)]?=some (wAt w 0):=hP 0 (by omega)
 have r1: ∀K:Str->Option (Device×Bool×Unit),rdL (w++([[],[],[],[],[],[],[],[],[],[],[]]:List Str)) 1 K=K (wAt w 1):=λK=>ZAE (i:=1) (hP 1 (by omega))
 have g1:((w++([[],[],[],[],[],[],[],[],[],[],[]]:List Str)))[(Int.toNat 1)]?=some (wAt w 1):=hP 1 (by omega)
 have r3: ∀K:Str->Option (Device×Bool×Unit),rdL (w++([[],[],[],[],[],[],[],[],[],[],[]]:List Str)) 3 K=K (wAt w 3):=λK=>ZAE (i:=3) (hP 3 (by omega))
 have g3:((w++([[],[],[],[],[],[],[],[],[],[],[]]:List Str)))[(Int.toNat 3)]?=some (wAt w 3):=hP 3 (by omega)
 have r5: ∀K:Str->Option (Device×Bool×Unit),rdL (w++([[],[],[],[],[],[],[],[],[],[],[]]:List Str)) 5 K=K (wAt w 5):=λK=>ZAE (i:=5) (hP 5 (by omega))
 have g5:((w++([[],[],[],[],[],[],[],[],[],[],[]]:List Str)))[(Int.toNat 5)]?=some (wAt w 5):=hP 5 (by omega)
 have r7: ∀K:Str->Option (Device×Bool×Unit),rdL (w++([[],[],[],[],[],[],[],[],[],[],[]]:List Str)) 7 K=K (wAt w 7):=λK=>ZAE (i:=7) (hP 7 (by omega))
 have g7:((w++([[],[],[],[],[],[],[],[],[],[],[]]:List Str)))[(Int.toNat 7)]?=some (wAt w 7):=hP 7 (by omega)
 have r9: ∀K:Str->Option (Device×Bool×Unit),rdL (w++([[],[],[],[],[],[],[],[],[],[],[]]:List Str)) 9 K=K (wAt w 9):=λK=>ZAE (i:=9) (hP 9 (by omega))
 have g9:((w++([[],[],[],[],[],[],[],[],[],[],[]]:List Str)))[(Int.toNat 9)]?=some (wAt w 9):=hP 9 (by omega)
 have r11: ∀K:Str->Option (Device×Bool×Unit),rdL (w++([[],[],[],[],[],[],[],[],[],[],[]]:List Str)) 11 K=K (wAt w 11):=λK=>ZAE (i:=11) (hP 11 (by omega))
 have g11:((w++([[],[],[],[],[],[],[],[],[],[],[]]:List Str)))[(Int.toNat 11)]?=some (wAt w 11):=hP 11 (by omega)
 rw[ZAC (by simp only[al_len_cons,al_len_nil];omega)]
 have d1:decide ((1:Int)>1)=false:=rfl
 have d2:decide ((2:Int)>1)=true:=rfl
 have d3:decide ((3:Int)>1)=true:=rfl
 have d0:decide ((0:Int)>1)=false:=rfl
 simp only[r0,r1,r3,r5,r7,r9,r11,g0,g1,g3,g5,g7,g9,g11,al_bind_some,hm,hp,hn,d0,d1,d2,d3,al_cond_true,al_cond_false]
 by_cases h1:wAt w 0=ZDp
 ·have hd:decide (wAt w 0=[112,117,109,112])=true:=ZAL h1
  rw[hd,al_cond_true]
  have:ZCC w=⟨wAt w 1,1,[],⟨0,0⟩,0,0,ZBD (wAt w 3)⟩:=by unfold ZCC;rw[al_if_pos h1]
  rw[this]
  exact endS s ⟨wAt w 1,1,[],⟨0,0⟩,0,0,ZBD (wAt w 3)⟩ (hw 1) (by simp)
 ·have hd:decide (wAt w 0=[112,117,109,112])=false:=ZAG h1
  rw[hd,al_cond_false]
  by_cases h2:wAt w 0=ZDq
  ·have hd:decide (wAt w 0=[110,111,122,122,108,101])=true:=ZAL h2
   rw[hd,al_cond_true]
   have:ZCC w=⟨wAt w 1,2,wAt w 3,plV (wAt w 5),numV (wAt w 7),ZBD (wAt w 9),ZBD (wAt w 11)⟩:=by unfold ZCC;rw[al_if_neg h1,al_if_pos h2]
   rw[this]
   exact endS s ⟨wAt w 1,2,wAt w 3,plV (wAt w 5),numV (wAt w 7),ZBD (wAt w 9),ZBD (wAt w 11)⟩ (hw 1) (hw 3)
  ·have hd:decide (wAt w 0=[110,111,122,122,108,101])=false:=ZAG h2
   rw[hd,al_cond_false]
   by_cases h3:wAt w 0=ZDr
   ·have hd:decide (wAt w 0=[108,97,109,112])=true:=ZAL h3
    rw[hd,al_cond_true]
    have:ZCC w=⟨wAt w 1,3,wAt w 3,plV (wAt w 5),0,0,0⟩:=by unfold ZCC;rw[al_if_neg h1,al_if_neg h2,al_if_pos h3]
    rw[this]
    exact endS s ⟨wAt w 1,3,wAt w 3,plV (wAt w 5),0,0,0⟩ (hw 1) (hw 3)
   ·have hd:decide (wAt w 0=[108,97,109,112])=false:=ZAG h3
    rw[hd,al_cond_false]
    have:ZCC w=⟨wAt w 1,0,[],⟨0,0⟩,0,0,0⟩:=by unfold ZCC;rw[al_if_neg h1,al_if_neg h2,al_if_neg h3]
    rw[this]
    exact endS s ⟨wAt w 1,0,[],⟨0,0⟩,0,0,0⟩ (hw 1) (by simp)
abbrev ZC:Cue:=⟨0,[],0,0⟩
def ZQj(s:Str)(c:Cue)(h1:c.Name.length<=1048576)(h0:s≠[]):((G198 (c,())).bind λx=>cond (!decide (x.1=s)) (some (ZC,false,())) (some (c,true,())))=some ((endT ZBO ZC s c).1,(endT ZBO ZC s c).2,()):=by
 unfold endT
 rw[fcI c h1]
 simp only[al_bind_some]
 by_cases h:ZBO c=s
 ·rw[ZAL h,al_if_pos ⟨h0,h⟩];rfl
 ·rw[ZAG h,al_if_neg (λk=>h k.2)];rfl
def ZWt(s:Str)(c:Cue)(h1:c.Name.length<=1048576):cond (!(decide (s=[]))) ((G80 (c,())).bind λx=>cond (!decide (x.1=s)) (some (ZC,false,())) (some (c,true,()))) (some (ZC,false,()))=some ((endT ZBO ZC s c).1,(endT ZBO ZC s c).2,()):=by
 unfold endT
 rw[fcS c h1]
 by_cases h0:s=[]
 ·rw[ZAL h0,al_if_neg (λh=>h.1 h0)];rfl
 ·rw[ZAG h0]
  simp only[ZAH,al_cond_true,al_bind_some]
  by_cases h:ZBO c=s
  ·rw[ZAL h,al_if_pos ⟨h0,h⟩];rfl
  ·rw[ZAG h,al_if_neg (λk=>h k.2)];rfl
def ZWu(s:Str):endT ZBO ZC s (ZFC (splC 32 s))=cueP s:=by
 rw[<-ZWd]
 unfold endT
 rfl
def ZWv(s:Str)(hs:s.length<=1048576):G245 (s,())=some ((cueP s).1,(cueP s).2,()):=by
 unfold G245 F245
 rw[ZGC s 32 hs,<-ZWu]
 simp only[al_bind_some]
 have hw: ∀i,(wAt (splC 32 s) i).length<=1048576:=λi=>Nat.le_trans ZCu hs
 have hl:=ZF4 32 s
 have h1:1<=(splC 32 s).length:=List.length_pos_iff.mpr (ZCd 32 s)
 generalize splC 32 s=w at hw hl h1
 have hm:=λi=>ZHU (wAt w i) (hw i)
 have hn:=λi=>ZFD (wAt w i) (hw i)
 have hP: ∀i,i<=4->(w++([[],[],[],[]]:List Str))[i]?=some (wAt w i):=λi hi=>ZQi (m:=4) rfl h1 hi
 have r0: ∀K:Str->Option (Cue×Bool×Unit),rdL (w++([[],[],[],[]]:List Str)) 0 K=K (wAt w 0):=λK=>ZAE (i:=0) (hP 0 (by omega))
 have g0:((w++([[],[],[],[]]:List Str)))[(Int.toNat 0)]?=some (wAt w 0):=hP 0 (by omega)
 have r1: ∀K:Str->Option (Cue×Bool×Unit),rdL (w++([[],[],[],[]]:List Str)) 1 K=K (wAt w 1):=λK=>ZAE (i:=1) (hP 1 (by omega))
 have g1:((w++([[],[],[],[]]:List Str)))[(Int.toNat 1)]?=some (wAt w 1):=hP 1 (by omega)
 have r2: ∀K:Str->Option (Cue×Bool×Unit),rdL (w++([[],[],[],[]]:List Str)) 2 K=K (wAt w 2):=λK=>ZAE (i:=2) (hP 2 (by omega))
 have g2:((w++([[],[],[],[]]:List Str)))[(Int.toNat 2)]?=some (wAt w 2):=hP 2 (by omega)
 have r4: ∀K:Str->Option (Cue×Bool×Unit),rdL (w++([[],[],[],[]]:List Str)) 4 K=K (wAt w 4):=λK=>ZAE (i:=4) (hP 4 (by omega))
 have g4:((w++([[],[],[],[]]:List Str)))[(Int.toNat 4)]?=some (wAt w 4):=hP 4 (by omega)
 rw[ZAC (by simp only[al_len_cons,al_len_nil];omega)]
 simp only[r0,r1,r2,r4,g0,g1,g2,g4,al_bind_some,hm,hn]
 exact ZWt s (ZFC w) (hw 1)
def ZWw(s:Str)(hs:s.length<=1048576):G104 (s,())=some ((cueP s).1,(cueP s).2,()):=by
 unfold G104 F104
 rw[ZHT s 32 hs]
 simp only[al_bind_some]
 have hw: ∀i,(wAt (splC 32 s) i).length<=1048576:=λi=>Nat.le_trans ZCu hs
 have hno: ¬cueC s->cueP s=(ZC,false):=λh=>by unfold cueP;rw[al_if_neg (λk=>h k.1)]
 have hyes:cueC s->cueP s=endT ZBO ZC s (ZCV (splC 32 s)):=λh=>by
  unfold cueP endT
  have h0:s≠[]:=λe=>by rw[e]at h;exact ZJ h
  by_cases k:ZBO (ZCV (splC 32 s))=s
  ·rw[al_if_pos ⟨h,k⟩,al_if_pos ⟨h0,k⟩]
  ·rw[al_if_neg (λq=>k q.2),al_if_neg (λq=>k q.2)]
 have hC:cueC s=(((splC 32 s).length=3\/(splC 32 s).length=5)/\(numP (wAt (splC 32 s) 0)).2=true/\(ZAh (wAt (splC 32 s) 2)).2=true/\((splC 32 s).length=5->(numP (wAt (splC 32 s) 4)).2=true)):=rfl
 have hne:cueC s->s≠[]:=λh e=>by rw[e]at h;exact ZJ h
 generalize splC 32 s=w at hw hyes hC
 have hm:=λi=>ZJB (wAt w i) (hw i)
 have hn:=λi=>ZGD (wAt w i) (hw i)
 by_cases l3:w.length=3
 ·have e3:decide ((Int.ofNat w.length)=3)=true:=ZAL (by rw[l3];rfl)
  have e5:decide ((Int.ofNat w.length)=5)=false:=ZAG (by rw[l3];decide)
  have hP: ∀i,i<3->w[i]?=some (wAt w i):=λi hi=>ZBY (by omega)
  have r0: ∀K:Str->Option (Cue×Bool×Unit),rdL w 0 K=K (wAt w 0):=λK=>ZAE (i:=0) (hP 0 (by omega))
  have g0:(w)[(Int.toNat 0)]?=some (wAt w 0):=hP 0 (by omega)
  have r1: ∀K:Str->Option (Cue×Bool×Unit),rdL w 1 K=K (wAt w 1):=λK=>ZAE (i:=1) (hP 1 (by omega))
  have g1:(w)[(Int.toNat 1)]?=some (wAt w 1):=hP 1 (by omega)
  have r2: ∀K:Str->Option (Cue×Bool×Unit),rdL w 2 K=K (wAt w 2):=λK=>ZAE (i:=2) (hP 2 (by omega))
  have g2:(w)[(Int.toNat 2)]?=some (wAt w 2):=hP 2 (by omega)
  simp only[e3,e5,ZAF,al_cond_true,al_cond_false,r0,r1,r2,g0,g1,g2,al_bind_some,hm,hn]
  cases c0:(numP (wAt w 0)).2
  ·rw[hno (λh=>by rw[hC,c0]at h;cases h.2.1)];rfl
  ·cases c2:(ZAh (wAt w 2)).2
   ·rw[hno (λh=>by rw[hC,c2]at h;cases h.2.2.1)];rfl
   ·have hk:cueC s:=by rw[hC];exact⟨.inl l3,c0,c2,λh=>by omega⟩
    simp only[ZAF,ZAH,al_cond_true]
    rw[hyes hk]
    have:ZCV w=⟨numV (wAt w 0),wAt w 1,ZBD (wAt w 2),0⟩:=by unfold ZCV;rw[al_if_neg]
    rw[this]
    exact ZQj s ⟨numV (wAt w 0),wAt w 1,ZBD (wAt w 2),0⟩ (hw 1) (hne hk)
 ·have e3:decide ((Int.ofNat w.length)=3)=false:=ZAG (by simp only[ZAU];omega)
  by_cases l5:w.length=5
  ·have e5:decide ((Int.ofNat w.length)=5)=true:=ZAL (by rw[l5];rfl)
   have hP: ∀i,i<5->w[i]?=some (wAt w i):=λi hi=>ZBY (by omega)
   have r0: ∀K:Str->Option (Cue×Bool×Unit),rdL w 0 K=K (wAt w 0):=λK=>ZAE (i:=0) (hP 0 (by omega))
   have g0:(w)[(Int.toNat 0)]?=some (wAt w 0):=hP 0 (by omega)
   have r1: ∀K:Str->Option (Cue×Bool×Unit),rdL w 1 K=K (wAt w 1):=λK=>ZAE (i:=1) (hP 1 (by omega))
   have g1:(w)[(Int.toNat 1)]?=some (wAt w 1):=hP 1 (by omega)
   have r2: ∀K:Str->Option (Cue×Bool×Unit),rdL w 2 K=K (wAt w 2):=λK=>ZAE (i:=2) (hP 2 (by omega))
   have g2:(w)[(Int.toNat 2)]?=some (wAt w 2):=hP 2 (by omega)
   have r4: ∀K:Str->Option (Cue×Bool×Unit),rdL w 4 K=K (wAt w 4):=λK=>ZAE (i:=4) (hP 4 (by omega))
   have g4:(w)[(Int.toNat 4)]?=some (wAt w 4):=hP 4 (by omega)
   simp only[e3,e5,ZAF,ZAH,al_cond_true,al_cond_false,r0,r1,r2,r4,g0,g1,g2,g4,al_bind_some,hm,hn]
   cases c0:(numP (wAt w 0)).2
   ·rw[hno (λh=>by rw[hC,c0]at h;cases h.2.1)];rfl
   ·cases c2:(ZAh (wAt w 2)).2
    ·rw[hno (λh=>by rw[hC,c2]at h;cases h.2.2.1)];rfl
    ·cases c4:(numP (wAt w 4)).2
     ·rw[hno (λh=>by rw[hC,c4]at h;cases h.2.2.2 l5)];rfl
     ·have hk:cueC s:=by rw[hC];exact⟨.inr l5,c0,c2,λ_=>c4⟩
      simp only[ZAF,ZAH,al_cond_true]
      rw[hyes hk]
      have:ZCV w=⟨numV (wAt w 0),wAt w 1,ZBD (wAt w 2),numV (wAt w 4)⟩:=by unfold ZCV;rw[al_if_pos l5]
      rw[this]
      exact ZQj s ⟨numV (wAt w 0),wAt w 1,ZBD (wAt w 2),numV (wAt w 4)⟩ (hw 1) (hne hk)
  ·have e5:decide ((Int.ofNat w.length)=5)=false:=ZAG (by simp only[ZAU];omega)
   simp only[e3,e5,ZAH,al_cond_true]
   rw[hno (λh=>by rw[hC]at h;rcases h.1 with h | h<;>omega)]
end Ev
end
noncomputable section
namespace Ev
open Go
theorem ZWx{a b:Str}(h:Op.bytesLess b a=false)(hn:a≠b):Op.bytesLess a b=true:=by
 have:=ZH a b
 rw[h]at this
 simp only[ZAH,Bool.true_eq,Bool.or_eq_true,ZAZ]at this
 rcases this with h | h
 ·exact h
 ·exact absurd h hn
theorem ZQk{α:Type}{l:List α}{i:Nat}{x:α}(h:l[i]?=some x):x∈l:=List.mem_iff_getElem?.mpr ⟨i,h⟩
theorem ZQl{d:Device}(h:devB d=true):d.Name.length<=8/\d.Line.length<=8:=by
 have hk:=ZIj h
 unfold devB at h
 rw[ZAM]at h
 refine⟨ZBX h.1,?_⟩
 have h2:=h.2
 rcases hk with k | k | k
 ·rw[al_if_pos k,ZAM,ZAZ]at h2
  rw[h2.1];simp
 ·rw[al_if_neg,al_if_pos k,ZAM]at h2
  exact ZBX h2.1
 ·rw[al_if_neg,al_if_neg,al_if_pos k]at h2
  simp only[ZAM]at h2
  exact ZBX (by first | exact h2.1 | exact h2.2.1 | exact h2.2.2.1 | exact h2.2.2.2.1 | exact h2.2.2.2.2.1 | exact h2.2.2.2.2.2.1)
theorem ZGG{l:List Device}(h:RigP l):ZB7 l:=λd hd=>by
 have:=ZQl (h.dev d hd)
 omega
end Ev
namespace Ev
open Go
structure ScoreP(l:List Cue):Prop where
 len:l.length<=12
 cue: ∀c∈l,ZAz c=true
 lt: ∀i a b,l[i]?=some a->l[i+1]?=some b->cmpC a b<0
theorem ZQm(a b:Int):(a<b/\cmpI a b= -1)\/(a=b/\cmpI a b=0)\/(b<a/\cmpI a b=1):=by
 unfold cmpI
 by_cases h:a<b
 ·rw[al_if_pos h];exact .inl ⟨h,rfl⟩
 ·by_cases h2:a>b
  ·rw[al_if_neg h,al_if_pos h2];exact .inr (.inr ⟨h2,rfl⟩)
  ·rw[al_if_neg h,al_if_neg h2];exact .inr (.inl ⟨by omega,rfl⟩)
theorem ZJE(a b:Str):(Op.bytesLess a b=true/\cmpS a b= -1)\/(a=b/\cmpS a b=0)\/(Op.bytesLess b a=true/\cmpS a b=1):=by
 unfold cmpS
 by_cases h:Op.bytesLess a b=true
 ·rw[al_if_pos h];exact .inl ⟨h,rfl⟩
 ·by_cases h2:a=b
  ·rw[al_if_neg h,al_if_pos h2];exact .inr (.inl ⟨h2,rfl⟩)
  ·rw[al_if_neg h,al_if_neg h2];exact .inr (.inr ⟨ZWx (by simpa using h) (λe=>h2 e.symm),rfl⟩)
end Ev
namespace Ev
open Go
theorem ZQn{α:Type}(l:List α)(p:Nat->Bool)(q:Nat->α->Prop)(h: ∀i x,l[i]?=some x->(p i=true↔q i x)):(List.range l.length).all p=true↔ ∀i x,l[i]?=some x->q i x:=by
 rw[List.all_eq_true]
 constructor
 ·intro k i x hx
  exact(h i x hx).1 (k i (by simpa using (al_get_iff.mp hx).1))
 ·intro k i hi
  have hi:i<l.length:=by simpa using hi
  have hx:l[i]?=some l[i]:=by simp
  exact(h i _ hx).2 (k i _ hx)
def scAt(l:List Cue)(i:Nat):Bool:=match l[i]? with
 | some c=>ZAz c && (decide (i=0) || (match l[i-1]? with | some b=>decide (cmpC b c<0) | none=>true))
 | none=>true
theorem ZWy(l:List Cue)(hn:ZBw l)(hl:l.length<=1048576):G119 (l,())=some ((List.range l.length).all (scAt l) && decide (l.length<=12),()):=by
 unfold G119 F119
 refine(ZDT (f:=s119_0 G199 G201) (K:=λt6=>some ((decide ((Int.ofNat (List.length t6.1))<=12)),())) (λi=>(l,l,Int.ofNat l.length,(i:Int),())) (scAt l) (some (false,())) l.length (by omega) ?_ ?_).trans ?_
 ·intro i hi rec K
  have hx:l[i]?=some l[i]:=by simp
  have e1:w64 ((i:Int)+1)=((i+1:Nat):Int):=ZAB
  have hc:G199 (l[i],())=some (ZAz l[i],()):=cueI _ (hn _ (by simp))
  unfold scAt
  rw[hx]
  simp only[s119_0]
  rw[ZA,ZAE hx,hc,e1]
  simp only[al_bind_some,Bool.not_not]
  cases ZAz l[i]
  ·rfl
  ·simp only[al_cond_true,Bool.true_and]
   by_cases hz:i=0
   ·subst hz;rfl
   ·obtain⟨j,rfl⟩: ∃j,i=j+1:=⟨i-1,by omega⟩
    have hy:l[j]?=some l[j]:=by simp
    have e2:w64 (((j+1:Nat):Int) -1)=(j:Int):=by rw[ZAB];omega
    have hcc:G201 (l[j],l[j+1],())=some (cmpC l[j] l[j+1],()):=ZG9 _ _
    rw[ZA,e2,ZAE hy,hcc,ZAG hz,Nat.add_sub_cancel,hy]
    simp only[al_bind_some,Bool.false_or]
    by_cases hlt:cmpC l[j] l[j+1]<0
    ·rw[ZAA,ZA hlt]
    ·rw[ZA,ZAA hlt]
 ·intro rec K
  simp only[s119_0]
  rw[ZAA]
 ·cases (List.range l.length).all (scAt l)
  ·rfl
  ·simp;omega
theorem ZHV{l:List Cue}(hn:ZBw l)(hl:l.length<=1048576):scB l=true↔ScoreP l:=by
 unfold scB
 rw[ZWy l hn hl]
 simp only[Option.map_some,Option.getD_some,ZAM,ZAZ]
 rw[ZQn l (scAt l) (λi c=>ZAz c=true/\(i=0\/ ∀b,l[i-1]?=some b->cmpC b c<0)) (λi c hc=>by
  unfold scAt
  rw[hc,ZAM,Bool.or_eq_true,ZAZ]
  cases hb:l[i-1]? with
  | none=>simp
  | some b=>simp)]
 constructor
 ·rintro ⟨h1,h2⟩
  refine⟨h2,λc hc=> ?_,λi a b ha hb=> ?_⟩
  ·obtain⟨i,hi⟩:=List.mem_iff_getElem?.mp hc
   exact(h1 i c hi).1
  ·rcases (h1 (i+1) b hb).2 with h | h
   ·omega
   ·exact h a (by rw[Nat.add_sub_cancel];exact ha)
 ·rintro ⟨h1,h2,h3⟩
  refine⟨λi c hc=>⟨h2 c (ZQk hc),?_⟩,h1⟩
  by_cases hz:i=0
  ·exact .inl hz
  ·right
   intro b hb
   obtain⟨j,rfl⟩: ∃j,i=j+1:=⟨i-1,by omega⟩
   rw[Nat.add_sub_cancel]at hb
   exact h3 j b c hb hc
theorem ZQo{l:List Cue}(h:ScoreP l):ZBw l:=λc hc=>by
 have:=h.cue c hc
 unfold ZAz at this
 simp only[ZAM]at this
 have:=ZBX this.2.1
 omega
structure WindP(l:List Gust):Prop where
 len:l.length<=8
 gust: ∀g∈l,(0<=g.From/\g.From<=64)/\isDr g.Drift=true
 lt: ∀i a b,l[i]?=some a->l[i+1]?=some b->a.From<b.From
def wdAt(l:List Gust)(i:Nat):Bool:=match l[i]? with
 | some c=>wi c.From 0 64 && (isDr c.Drift && (decide (i=0) || (match l[i-1]? with | some b=>decide (b.From<c.From) | none=>true)))
 | none=>true
theorem ZWz(l:List Gust)(hl:l.length<=1048576):G120 (l,())=some ((List.range l.length).all (wdAt l) && decide (l.length<=8),()):=by
 unfold G120 F120
 refine(ZDT (f:=s120_0 G121 G122) (K:=λt6=>some ((decide ((Int.ofNat (List.length t6.1))<=8)),())) (λi=>(l,l,Int.ofNat l.length,(i:Int),())) (wdAt l) (some (false,())) l.length (by omega) ?_ ?_).trans ?_
 ·intro i hi rec K
  have hx:l[i]?=some l[i]:=by simp
  have e1:w64 ((i:Int)+1)=((i+1:Nat):Int):=ZAB
  have hc:G121 (l[i].From,0,64,())=some (wi l[i].From 0 64,()):=ZA8 _ _ _
  have hd:G122 (l[i].Drift,())=some (isDr l[i].Drift,()):=drI _
  unfold wdAt
  rw[hx]
  simp only[s120_0]
  rw[ZA,ZAE hx,hc,e1]
  simp only[al_bind_some,Bool.not_not]
  cases wi l[i].From 0 64
  ·rfl
  ·simp only[al_cond_true,Bool.true_and,hd,al_bind_some]
   cases isDr l[i].Drift
   ·rfl
   ·simp only[al_cond_true,Bool.true_and,ZAF,ZAH]
    by_cases hz:i=0
    ·subst hz;rfl
    ·obtain⟨j,rfl⟩: ∃j,i=j+1:=⟨i-1,by omega⟩
     have hy:l[j]?=some l[j]:=by simp
     have e2:w64 (((j+1:Nat):Int) -1)=(j:Int):=by rw[ZAB];omega
     rw[ZA,e2,ZAE hy,ZAG hz,Nat.add_sub_cancel,hy]
     simp only[Bool.false_or]
     by_cases hlt:l[j].From<l[j+1].From
     ·rw[ZAA,ZA hlt]
     ·rw[ZA,ZAA hlt]
 ·intro rec K
  simp only[s120_0]
  rw[ZAA]
 ·cases (List.range l.length).all (wdAt l)
  ·rfl
  ·simp;omega
theorem ZFF{l:List Gust}(hl:l.length<=1048576):wdB l=true↔WindP l:=by
 unfold wdB
 rw[ZWz l hl]
 simp only[Option.map_some,Option.getD_some,ZAM,ZAZ]
 rw[ZQn l (wdAt l) (λi c=>((0<=c.From/\c.From<=64)/\isDr c.Drift=true)/\(i=0\/ ∀b,l[i-1]?=some b->b.From<c.From)) (λi c hc=>by
  unfold wdAt
  rw[hc,ZAM,ZAM,Bool.or_eq_true,ZAZ,ZAr,and_assoc]
  cases hb:l[i-1]? with
  | none=>simp[and_assoc]
  | some b=>simp[and_assoc])]
 constructor
 ·rintro ⟨h1,h2⟩
  refine⟨h2,λc hc=> ?_,λi a b ha hb=> ?_⟩
  ·obtain⟨i,hi⟩:=List.mem_iff_getElem?.mp hc
   exact(h1 i c hi).1
  ·rcases (h1 (i+1) b hb).2 with h | h
   ·omega
   ·exact h a (by rw[Nat.add_sub_cancel];exact ha)
 ·rintro ⟨h1,h2,h3⟩
  refine⟨λi c hc=>⟨h2 c (ZQk hc),?_⟩,h1⟩
  by_cases hz:i=0
  ·exact .inl hz
  ·right
   intro b hb
   obtain⟨j,rfl⟩: ∃j,i=j+1:=⟨i-1,by omega⟩
   rw[Nat.add_sub_cancel]at hb
   exact h3 j b c hb hc
end Ev
namespace Ev
open Go
section
variable {s:ZAN} (h:ShowV s) {t:Int}
include h
theorem ZFG:ScoreP s.2.1:=(ZHV h.ok.names h.ok.score).1 h.score
theorem ZEV:WindP s.2.2.1:=(ZFF h.ok.wind).1 h.wind
end
end Ev
end
noncomputable section
namespace Ev
open Go
def addB(l:List Device)(d:Device):Bool:=rigB l && (devB d && (!decide (0<=fnd l d.Name) && (!decide (8<=l.length) && ZBb l d)))
def addD(l:List Device)(d:Device):List Device:=if addB l d=true then insL l (lowN d.Name l) d else l
def ZW0(l:List Device)(hl:l.length<=1048576)(hn:ZB7 l)(d:Device)(h1:d.Name.length<=1048576)(h2:d.Line.length<=1048576):G102 (l,d,())=some (addD l d,addB l d,()):=by
 unfold G102
 simp only
 rw[al_if_pos hl]
 have hb:ZGy l d=some (addB l d):=by
  unfold ZGy addB
  rw[ZDV l hl hn,show G192 (d,())=some (devB d,())from(ZDD d h1 h2).2,ZK9 l hl]
  simp only[al_bind_some]
  cases rigB l
  ·rfl
  ·cases hd:devB d
   ·rfl
   ·rw[ZL l hl d (ZIj hd)]
    simp only[al_bind_some,ZAF,al_cond_false,Bool.true_and]
    by_cases c1:0<=fnd l d.Name
    ·rw[ZAL c1];rfl
    ·rw[ZAG c1]
     by_cases c2:8<=l.length
     ·rw[ZAL c2];rfl
     ·rw[ZAG c2];rfl
 rw[hb]
 simp only[al_bind_some]
 rfl
def ZJF(l:List Device)(hl:l.length<=1048576):G228 (l,())=some (l,()):=by
 unfold G228 F228
 rw[ZAC];rfl
def ZLu(s:Str): ∀(l:List Device),(∀j,j<lowN s l-> ∀x,l[j]?=some x->Op.bytesLess x.Name s=true)/\(∀x,l[lowN s l]?=some x->Op.bytesLess x.Name s=false)
 | []=>by simp[lowN]
 | x::r=>by
  obtain⟨h1,h2⟩:=ZLu s r
  unfold lowN
  cases hb:Op.bytesLess x.Name s
  ·rw[al_if_neg (by simp)]
   exact⟨λj hj=>absurd hj (Nat.not_lt_zero _),λy hy=>by simp at hy;subst hy;exact hb⟩
  ·rw[al_if_pos rfl]
   refine⟨λj hj y hy=> ?_,λy hy=>h2 y (by simpa using hy)⟩
   cases j with
   | zero=>simp at hy;subst hy;exact hb
   | succ j=>exact h1 j (by omega) y (by simpa using hy)
def ZCe(l:List Device)(n:Nat)(d:Device)(i:Nat):List Device:=if n<i then insL (l.take i) n d else l.take i
def ZW1(l:List Device)(n:Nat)(d:Device)(i:Nat)(hi:i<=l.length):(ZCe l n d i).length<=i+1:=by
 unfold ZCe
 split
 ·rw[ZDC _ _ _ (by rw[al_len_take];omega),al_len_take];omega
 ·rw[al_len_take];omega
def ZW2(l:List Device)(hl:l.length<=1048576)(hn:ZB7 l)(d:Device)(h1:d.Name.length<=1048576)(h2:d.Line.length<=1048576):G167 (l,d,())=some (addD l d,addB l d,()):=by
 unfold G167 F167 addD addB
 rw[ZE1 l hl hn,show G169 (d,())=some (devB d,())from(ZDD d h1 h2).1,ZK8 l hl]
 simp only[al_bind_some,ZJF l hl]
 cases hr:rigB l
 ·rfl
 ·cases hd:devB d
  ·rfl
  ·rw[ZVA l hl d (ZIj hd)]
   have R:=(ZDW l).1 hr
   have hlen:=R.len
   simp only[al_bind_some,ZAF,ZAH,al_cond_true,al_cond_false,Bool.true_and]
   by_cases c1:0<=fnd l d.Name
   ·rw[ZAL c1];rfl
   ·rw[ZAG c1]
    by_cases c2:8<=l.length
    ·rw[ZAL c2,ZAL (show(Int.ofNat l.length)=8 by simp only[ZAU];omega)];rfl
    ·rw[ZAG c2,ZAG (show¬(Int.ofNat l.length)=8 by simp only[ZAU];omega)]
     simp only[ZAH,al_cond_true,Bool.true_and]
     cases hh:ZBb l d
     ·rfl
     ·simp only[ZAF,al_cond_false,if_true]
      have hno: ∀x∈l,x.Name≠d.Name:=by
       rcases ZE0 l d.Name with ⟨_,h⟩ | ⟨k,x,e,_⟩
       ·exact h
       ·omega
      obtain⟨q1,q2⟩:=ZLu d.Name l
      have qn:=ZKk d.Name l
      generalize lowN d.Name l=n at q1 q2 qn
      have run:=ZAW (f:=s167_0 G230 G169 G265 G266 G228)
       (K:=λx5=>cond (!x5.2.2.1) (capK (List.length x5.2.1+List.length ([x5.1]:List Device)) (some ((x5.2.1++([x5.1]:List Device)),true,()))) (some (x5.2.1,true,())))
       (λi=>(d,ZCe l n d i,decide (n<i),l,Int.ofNat l.length,(i:Int),())) l.length (by omega)
       (by
        intro i hi rec K
        have hx:l[i]?=some l[i]:=by simp
        have w1:w64 ((i:Int)+1)=((i+1:Nat):Int):=ZAB
        have hlo:=ZW1 l n d i (by omega)
        have e:=ZBh l i hi
        simp only[s167_0,ZAE hx,w1]
        rw[ZA]
        by_cases hni:n<i
        ·rw[ZAL hni,ZAL (show n<i+1 by omega)]
         simp only[ZAF,al_cond_false]
         rw[ZAC (by simp only[al_len_cons,al_len_nil];omega)]
         congr 2
         unfold ZCe
         rw[al_if_pos hni,al_if_pos,e]
         unfold insL
         have hlt:n<=(l.take i).length:=by rw[al_len_take];omega
         rw[List.take_append_of_le_length hlt,List.drop_append_of_le_length hlt]
         simp
        ·rw[ZAG hni]
         simp only[ZAH,al_cond_true]
         have ho:ZCe l n d i=l.take i:=by unfold ZCe;rw[al_if_neg hni]
         rw[ho]
         by_cases hin:i=n
         ·subst hin
          have hb:=q2 _ hx
          have hne:=hno l[i] (by simp)
          rw[hb,ZAG hne,ZAL (show i<i+1 by omega)]
          simp only[Bool.false_or,ZAH,al_cond_true]
          rw[ZAC,ZAC]
          congr 2
          unfold ZCe
          rw[al_if_pos,e]
          unfold insL
          have hlt:(l.take i).length=i:=by rw[al_len_take];omega
          rw[List.take_left' hlt,List.drop_left' hlt]
          simp
         ·have hb:=q1 i (by omega) _ hx
          rw[hb,ZAG (show¬n<i+1 by omega)]
          simp only[Bool.true_or,ZAF,al_cond_false]
          rw[ZAC]
          congr 2
          unfold ZCe
          rw[al_if_neg,e])
       (by
        intro rec K
        simp only[s167_0]
        rw[ZAA])
      have h0:ZCe l n d 0=[]:=by unfold ZCe;rw[al_if_neg];rfl
      have hd0:decide (n<0)=false:=ZAG (by omega)
      rw[h0,hd0]at run
      refine run.trans ?_
      simp only
      by_cases hnl:n<l.length
      ·rw[ZAL hnl]
       simp only[ZAF,al_cond_false]
       unfold ZCe
       rw[al_if_pos hnl,List.take_length]
      ·have:n=l.length:=by omega
       subst this
       rw[ZAG hnl]
       simp only[ZAH,al_cond_true]
       have ho:ZCe l l.length d l.length=l:=by unfold ZCe;rw[al_if_neg,List.take_length]
       rw[ho,ZAC]
       unfold insL
       rw[List.take_length,List.drop_length]
def onF(s:Str)(o:List Str)(d:Device):List Str:=if d.Line=s then o++[d.Name]else o
def ZLv(s:Str): ∀(l:List Device) (o:List Str),(l.foldl (onF s) o).length<=o.length+l.length
 | [],o=>Nat.le_refl _
 | d::l,o=>by
  rw[List.foldl_cons]
  have:=ZLv s l (onF s o d)
  have h2:(onF s o d).length<=o.length+1:=by unfold onF;split<;>simp
  simp only[al_len_cons];omega
def onL(l:List Device)(s:Str):List Str:=if rigB l=true/\s≠[]then l.foldl (onF s) []else []
def ZW3(l:List Device)(hl:l.length<=1048576)(hn:ZB7 l)(s:Str):G196 (l,s,())=some (onL l s,()):=by
 unfold G196 F196 onL
 rw[ZDV l hl hn]
 simp only[al_bind_some]
 cases hr:rigB l
 ·rfl
 ·simp only[ZAF,ZAH,al_cond_true]
  by_cases hs:s=[]
  ·rw[ZAL hs,al_if_neg (λh=>h.2 hs)];rfl
  ·rw[ZAG hs,al_if_pos ⟨trivial,hs⟩,al_cond_false]
   refine(ZAW (f:=s196_0 G118) (K:=λx2=>some (x2.2.1,())) (λi=>(s,(l.take i).foldl (onF s) [],l,Int.ofNat l.length,(i:Int),())) l.length (by omega) ?_ ?_).trans (by rw[List.take_length])
   ·intro i hi rec K
    have hx:l[i]?=some l[i]:=by simp
    have w1:w64 ((i:Int)+1)=((i+1:Nat):Int):=ZAB
    have hlo:=ZLv s (l.take i) []
    rw[al_len_take]at hlo
    simp only[al_len_nil]at hlo
    rw[ZBh l i hi,List.foldl_append,List.foldl_cons,List.foldl_nil]
    generalize (l.take i).foldl (onF s) []=o at hlo
    simp only[s196_0,ZAE hx,w1]
    rw[ZA]
    unfold onF
    by_cases h:l[i].Line=s
    ·rw[ZAL h,al_if_pos h,al_cond_true,ZAC]
    ·rw[ZAG h,al_if_neg h,al_cond_false]
   ·intro rec K
    simp only[s196_0]
    rw[ZAA]
def ZW4(l:List Device)(hl:l.length<=1048576)(hn:ZB7 l)(s:Str):G321 (l,s,())=some (onL l s,()):=by
 unfold G321 F321
 have hr:=ZE1 l hl hn
 have h0:(if rigB l=true/\s≠[]then(l.take 0).foldl (onF s) []else([]:List Str))=[]:=by split<;>rfl
 have run:ZAD (s321_0 G230) fuel (l,s,(if rigB l=true/\s≠[]then(l.take 0).foldl (onF s) []else []),l,Int.ofNat l.length,((0:Nat):Int),()) (λx1=>some (x1.2.2.1,()))=some ((if rigB l=true/\s≠[]then(l.take l.length).foldl (onF s) []else []),()):=by
  refine ZAW (f:=s321_0 G230) (K:=λx1=>some (x1.2.2.1,())) (λi=>(l,s,(if rigB l=true/\s≠[]then(l.take i).foldl (onF s) []else []),l,Int.ofNat l.length,(i:Int),())) l.length (by omega) ?_ ?_
  ·intro i hi rec K
   have hx:l[i]?=some l[i]:=by simp
   have w1:w64 ((i:Int)+1)=((i+1:Nat):Int):=ZAB
   have hlo:=ZLv s (l.take i) []
   rw[al_len_take]at hlo
   simp only[al_len_nil]at hlo
   rw[ZBh l i hi,List.foldl_append,List.foldl_cons,List.foldl_nil]
   generalize (l.take i).foldl (onF s) []=o at hlo
   simp only[s321_0,ZAE hx,w1,hr,al_bind_some]
   rw[ZA]
   cases rigB l
   ·simp
   ·by_cases hs:s=[]
    ·simp[hs]
    ·have hd:(!decide (s=[]))=true:=by simp[hs]
     simp only[al_cond_true,hd]
     rw[al_if_pos ⟨by simp,hs⟩,al_if_pos ⟨by simp,hs⟩]
     unfold onF
     by_cases h:l[i].Line=s
     ·rw[ZAL h,al_if_pos h,al_cond_true,ZAC,al_if_pos ⟨trivial,hs⟩]
     ·rw[ZAG h,al_if_neg h,al_cond_false,al_if_pos ⟨trivial,hs⟩]
  ·intro rec K
   simp only[s321_0]
   rw[ZAA]
 rw[h0,List.take_length]at run
 exact run
def remB(l:List Device)(s:Str):Bool:=rigB l && (!decide (fnd l s<0) && !decide (0<(onL l s).length))
def remD(l:List Device)(s:Str):List Device:=if remB l s=true then delL l (fnd l s).toNat else l
def ZLw(l:List Device)(s:Str)(h: ¬fnd l s<0):(fnd l s).toNat<l.length/\fnd l s=((fnd l s).toNat:Int):=by
 rcases ZE0 l s with ⟨e,_⟩ | ⟨k,x,e,hk,_⟩
 ·omega
 ·have:=(al_get_iff.mp hk).1
  omega
def ZW5(l:List Device)(hl:l.length<=1048576)(hn:ZB7 l)(s:Str):G103 (l,s,())=some (remD l s,remB l s,()):=by
 unfold G103
 simp only
 rw[al_if_pos hl]
 have hb:ZGz l s=some (fnd l s,remB l s):=by
  unfold ZGz remB
  rw[ZDV l hl hn,ZK9 l hl,ZW3 l hl hn]
  simp only[al_bind_some]
  cases rigB l
  ·rfl
  ·simp only[ZAF,al_cond_false,Bool.true_and]
   by_cases c1:fnd l s<0
   ·rw[ZAL c1];rfl
   ·rw[ZAG c1];rfl
 rw[hb]
 simp only[al_bind_some]
 rw[al_if_pos (λh=>by
  unfold remB at h
  simp only[ZAM,Bool.not_eq_true',decide_eq_false_iff_not]at h
  exact(ZLw l s h.2.1).1)]
 rfl
def ZW6(l:List Device)(hl:l.length<=1048576)(hn:ZB7 l)(s:Str):G244 (l,s,())=some (remD l s,remB l s,()):=by
 unfold G244 F244 remD remB
 rw[ZE1 l hl hn,ZK8 l hl,ZW4 l hl hn]
 simp only[al_bind_some,ZJF l hl]
 cases rigB l
 ·rfl
 ·simp only[ZAF,ZAH,al_cond_true,Bool.true_and]
  by_cases c1:fnd l s<0
  ·rw[ZAL c1];rfl
  ·rw[ZAG c1]
   simp only[ZAH,al_cond_true,Bool.true_and]
   by_cases c2:0<(onL l s).length
   ·rw[ZAL c2,ZA (by simp only[ZAU];omega)];rfl
   ·rw[ZAG c2,ZAA (by simp only[ZAU];omega)]
    obtain⟨a1,a2⟩:=ZLw l s c1
    generalize (fnd l s).toNat=n at a1 a2
    rw[a2]
    have w1:w64 ((n:Int)+1)=((n+1:Nat):Int):=ZAB
    rw[ZBB ⟨by omega,by omega⟩,w1]
    simp only[ZAX]
    rw[ZJF _ (by rw[al_len_take];omega)]
    simp only[al_bind_some]
    rw[ZBB ⟨by omega,by omega⟩,ZAC]
    rfl
end Ev
end
noncomputable section
namespace Ev
open Go
def dAt(was:Place):List Gust->Int->Place
 | [],_=>was
 | g::r,t=>if g.From<=t then dAt g.Drift r t else dAt was r t
def chgL(was:Place):List Gust->List Gust
 | []=>[]
 | g::r=>if g.Drift=was then chgL was r else g::chgL g.Drift r
def ZDY(was:Place)(k:Int):List Place->List Gust
 | []=>[]
 | p::r=>if p=was then ZDY was (k+1) r else⟨k,p⟩::ZDY p (k+1) r
def Inc(k:Int):List Gust->Prop
 | []=>True
 | g::r=>k<=g.From/\Inc (g.From+1) r
def Inc.mono{k m:Int} : ∀ {w:List Gust},Inc m w->k<=m->Inc k w
 | [],_,_=>trivial
 | g::r,h,hk=>⟨Int.le_trans hk h.1,h.2⟩
def ZLx: ∀ {w:List Gust} {was:Place} {t:Int},Inc (t+1) w->dAt was w t=was
 | [],_,_,_=>rfl
 | g::r,was,t,h=>by
  unfold dAt
  rw[al_if_neg (by have:=h.1;omega),ZLx (h.2.mono (by have:=h.1;omega))]
def ZQp: ∀(n:Nat) (k:Int) (was:Place) (w:List Gust),Inc k w->(∀g∈w,g.From<k+n)->ZDY was k ((List.range n).map λi:Nat=>dAt was w (k+(i:Int)))=chgL was w
 | 0,k,was,w,h,hb=>by
  cases w with
  | nil=>rfl
  | cons g r=>have:=hb g (by simp);have:=h.1;omega
 | n+1,k,was,w,h,hb=>by
  have ih:=ZQp n (k+1)
  rw[List.range_succ_eq_map,List.map_cons,List.map_map]
  have hfun: ∀(was':Place) (w':List Gust),((λi:Nat=>dAt was' w' (k+(i:Int)))∘Nat.succ)=λi:Nat=>dAt was' w' (k+1+(i:Int)):=by
   intro was' w'
   funext i
   show dAt was' w' (k+((i+1:Nat):Int))=_
   congr 1;omega
  rw[hfun]
  have e0:k+((0:Nat):Int)=k:=by omega
  unfold ZDY
  rw[e0]
  cases w with
  | nil=>
   rw[show dAt was [] k=was from rfl,al_if_pos rfl]
   exact ih was [] trivial (by simp)
  | cons g r=>
   by_cases hg:g.From=k
   ·have h1:dAt was (g::r) k=g.Drift:=by
     unfold dAt
     rw[al_if_pos,ZLx (h.2.mono (by omega))]
    have h2:(λi:Nat=>dAt was (g::r) (k+1+(i:Int)))=λi:Nat=>dAt g.Drift r (k+1+(i:Int)):=by
     funext i
     show(if g.From<=k+1+(i:Int)then dAt g.Drift r (k+1+(i:Int))else dAt was r (k+1+(i:Int)))=_
     rw[al_if_pos]
    have h3:Inc (k+1) r:=h.2.mono (by omega)
    have h4: ∀x∈r,x.From<k+1+n:=λx hx=>by have:=hb x (by simp[hx]);omega
    rw[h1,h2]
    unfold chgL
    by_cases hd:g.Drift=was
    ·rw[al_if_pos hd,al_if_pos hd,hd]
     exact ih was r h3 h4
    ·rw[al_if_neg hd,al_if_neg hd,ih g.Drift r h3 h4,<-hg]
   ·have h1:Inc (k+1) (g::r):=⟨by have:=h.1;omega,h.2⟩
    rw[ZLx h1,al_if_pos rfl]
    exact ih was (g::r) h1 λx hx=>by have:=hb x hx;omega
def ZLy: ∀ {w:List Gust} {k t:Int} {p:Place},Inc k w->k<=t->Inc k ((w.filter λg=>decide (g.From<t))++[⟨t,p⟩])
 | [],k,t,p,_,hk=>⟨hk,trivial⟩
 | g::r,k,t,p,h,hk=>by
  by_cases hg:g.From<t
  ·rw[List.filter_cons_of_pos (by simpa using hg)]
   exact⟨h.1,ZLy h.2 (by omega)⟩
  ·rw[List.filter_cons_of_neg (by simpa using hg)]
   exact ZLy (h.2.mono (by have:=h.1;omega)) hk
def ZQq: ∀ {w:List Gust} {k t:Int} {p was:Place} (i:Int),Inc k w->dAt was ((w.filter λg=>decide (g.From<t))++[⟨t,p⟩]) i=if t<=i then p else dAt was w i
 | [],k,t,p,was,i,_=>by
  show dAt was [⟨t,p⟩] i=_
  unfold dAt
  rfl
 | g::r,k,t,p,was,i,h=>by
  have ih:=λwas=>ZQq (w:=r) (t:=t) (p:=p) (was:=was) i h.2
  by_cases hg:g.From<t
  ·rw[List.filter_cons_of_pos (by simpa using hg)]
   show(if g.From<=i then dAt g.Drift ((r.filter λg=>decide (g.From<t))++[⟨t,p⟩]) i else dAt was ((r.filter λg=>decide (g.From<t))++[⟨t,p⟩]) i)=_
   rw[ih,ih]
   by_cases ht:t<=i
   ·simp only[al_if_pos ht]
    split<;>rfl
   ·simp only[al_if_neg ht]
    rfl
  ·rw[List.filter_cons_of_neg (by simpa using hg),ih]
   by_cases ht:t<=i
   ·simp only[al_if_pos ht]
   ·simp only[al_if_neg ht]
    show _=(if g.From<=i then dAt g.Drift r i else dAt was r i)
    rw[al_if_neg]
def ZW7{w:List Gust}{t:Int}{p:Place}(h:Inc 0 w)(h0:0<=t)(h1:t<=64):ZDY ⟨0,0⟩ 0 ((List.range 65).map λi:Nat=>if t<=(i:Int)then p else dAt ⟨0,0⟩ w (i:Int))=chgL ⟨0,0⟩ ((w.filter λg=>decide (g.From<t))++[⟨t,p⟩]):=by
 rw[<-ZQp 65 0 ⟨0,0⟩ _ (ZLy h h0) λg hg=>by
  rcases List.mem_append.mp hg with hg | hg
  ·have:=(List.mem_filter.mp hg).2
   simp only[ZAZ]at this
   omega
  ·obtain rfl:=List.mem_singleton.mp hg
   show t<_
   omega]
 congr 1
 refine List.map_congr_left λi _=> ?_
 rw[ZQq (k:=0) _ h]
 congr 1
 ·simp
 ·simp
end Ev
end
noncomputable section
namespace Ev
open Go
def ZLz{a b:Cue} :cmpC a b<0↔a.Tick<b.Tick\/a.Tick=b.Tick/\Op.bytesLess a.Name b.Name=true:=by
 unfold cmpC
 rcases ZQm a.Tick b.Tick with ⟨h,e⟩ | ⟨h,e⟩ | ⟨h,e⟩
 ·rw[e,al_if_neg];simp[h]
 ·rw[e,al_if_pos rfl]
  rcases ZJE a.Name b.Name with ⟨k,f⟩ | ⟨k,f⟩ | ⟨k,f⟩
  ·rw[f];simp[h,k]
  ·rw[f,k];simp[h,ZFv]
  ·rw[f]
   have:Op.bytesLess a.Name b.Name=false:=by
    cases hb:Op.bytesLess a.Name b.Name
    ·rfl
    ·have:=ZHB _ _ _ k hb
     rw[ZFv]at this;cases this
   simp[h,this]
 ·rw[e,al_if_neg]
  constructor
  ·intro h';omega
  ·rintro (h' | ⟨h',_⟩)<;>omega
def ZL0{a b:Cue} :cmpC a b=0↔a.Tick=b.Tick/\a.Name=b.Name:=by
 unfold cmpC
 rcases ZQm a.Tick b.Tick with ⟨h,e⟩ | ⟨h,e⟩ | ⟨h,e⟩
 ·rw[e,al_if_neg]
  constructor
  ·intro h';omega
  ·rintro ⟨h',_⟩;omega
 ·rw[e,al_if_pos rfl]
  rcases ZJE a.Name b.Name with ⟨k,f⟩ | ⟨k,f⟩ | ⟨k,f⟩
  ·rw[f];simp[h];exact ZIi k
  ·rw[f];simp[h,k]
  ·rw[f];simp[h];exact λe=>ZIi k e.symm
 ·rw[e,al_if_neg]
  constructor
  ·intro h';omega
  ·rintro ⟨h',_⟩;omega
def ZQr{a b c:Cue}(h1:cmpC a b<0)(h2:cmpC b c<0):cmpC a c<0:=by
 rw[ZLz]at*
 rcases h1 with h1 | ⟨h1,k1⟩
 ·rcases h2 with h2 | ⟨h2,_⟩
  ·left;omega
  ·left;omega
 ·rcases h2 with h2 | ⟨h2,k2⟩
  ·left;omega
  ·right;exact⟨by omega,ZHB _ _ _ k1 k2⟩
def ZL1{l:List Cue}(h:ScoreP l): ∀(k i:Nat) (a b:Cue),l[i]?=some a->l[i+k+1]?=some b->cmpC a b<0
 | 0,i,a,b,ha,hb=>h.lt i a b ha hb
 | k+1,i,a,b,ha,hb=>by
  have hi:i+k+1<l.length:=by have:=(al_get_iff.mp hb).1;omega
  have hm:l[i+k+1]?=some l[i+k+1]:=by simp[hi]
  exact ZQr (ZL1 h k i a _ ha hm) (h.lt (i+k+1) _ b hm (by rw[show i+k+1+1=i+(k+1)+1 by omega];exact hb))
def lowK(x:Cue):List Cue->Nat
 | []=>0
 | y::r=>if cmpC y x<0 then lowK x r+1 else 0
def ZQs(x:Cue): ∀l,lowC x l=some (lowK x l)
 | []=>rfl
 | y::r=>by
  have e:G201 (y,x,())=some (cmpC y x,()):=ZG9 y x
  unfold lowC lowK
  rw[e,ZQs x r]
  simp only[al_bind_some]
  by_cases h:cmpC y x<0
  ·rw[ZAL h,al_if_pos h];rfl
  ·rw[ZAG h,al_if_neg h];rfl
def ZJG(x:Cue): ∀(l:List Cue),lowK x l<=l.length/\(∀j,j<lowK x l-> ∀y,l[j]?=some y->cmpC y x<0)/\(∀y,l[lowK x l]?=some y-> ¬cmpC y x<0)
 | []=>by simp[lowK]
 | y::r=>by
  obtain⟨h0,h1,h2⟩:=ZJG x r
  unfold lowK
  by_cases hb:cmpC y x<0
  ·rw[al_if_pos hb]
   refine⟨by simp;omega,λj hj z hz=> ?_,λz hz=>h2 z (by simpa using hz)⟩
   cases j with
   | zero=>simp at hz;subst hz;exact hb
   | succ j=>exact h1 j (by omega) z (by simpa using hz)
  ·rw[al_if_neg hb]
   exact⟨Nat.zero_le _,λj hj=>absurd hj (Nat.not_lt_zero _),λz hz=>by simp at hz;subst hz;exact hb⟩
def eqAt(x:Cue)(l:List Cue):Bool:=match l[lowK x l]? with
 | some y=>decide (cmpC y x=0)
 | none=>false
def ZQt{t:Int}{s:Str} : ∀(l:List Cue) (i:Nat),0<=ZDS t s i l↔ ∃y∈l,y.Tick=t/\y.Name=s
 | [],i=>by unfold ZDS;simp
 | y::r,i=>by
  unfold ZDS
  by_cases h:ZCn t s y=true
  ·rw[al_if_pos h]
   unfold ZCn at h
   simp only[ZAM,ZAZ]at h
   exact⟨λ_=>⟨y,by simp,h⟩,λ_=>by omega⟩
  ·rw[al_if_neg h,ZQt r (i+1)]
   unfold ZCn at h
   simp only[ZAM,ZAZ]at h
   constructor
   ·rintro ⟨z,hz,k⟩;exact⟨z,by simp[hz],k⟩
   ·rintro ⟨z,hz,k⟩
    rcases List.mem_cons.mp hz with rfl | hz
    ·exact absurd k h
    ·exact⟨z,hz,k⟩
def ZW8{l:List Cue}(h:ScoreP l)(x:Cue):decide (0<=ZEI l x.Tick x.Name)=eqAt x l:=by
 obtain⟨h0,h1,h2⟩:=ZJG x l
 unfold ZEI eqAt
 rw[Bool.eq_iff_iff,ZAZ,ZQt]
 constructor
 ·rintro ⟨y,hy,k⟩
  have hz:=ZL0.2 k
  obtain⟨i,hi⟩:=List.mem_iff_getElem?.mp hy
  have:lowK x l=i:=by
   rcases Nat.lt_trichotomy (lowK x l) i with hlt | heq | hgt
   ·exfalso
    have hlen:=(al_get_iff.mp hi).1
    have hm:l[lowK x l]?=some (l[lowK x l]'(by omega)):=al_get_get (by omega)
    have h3:=h2 _ hm
    have h4:=ZL1 h (i-lowK x l-1) (lowK x l) _ y hm (by rw[show lowK x l+(i-lowK x l-1)+1=i by omega];exact hi)
    refine h3 ?_
    rw[ZLz]at h4⊢
    obtain⟨k1,k2⟩:=k
    rw[k1,k2]at h4
    exact h4
   ·exact heq
   ·have:=h1 i hgt y hi
    omega
  rw[this,hi]
  exact ZAL hz
 ·cases hq:l[lowK x l]? with
  | none=>intro h;cases h
  | some y=>
   intro hh
   exact⟨y,al_mem_get hq,ZL0.1 (of_decide_eq_true hh)⟩
def ZBk(l:List Cue)(x:Cue):Bool:=scB l && (ZAz x && (!eqAt x l && !decide (12<=l.length)))
def ZCf(l:List Cue)(x:Cue):List Cue:=if ZBk l x=true then insL l (lowK x l) x else l
def ZW9(l:List Cue)(hl:l.length<=1048576)(hn:ZBw l)(x:Cue)(h1:x.Name.length<=1048576):G105 (l,x,())=some (ZCf l x,ZBk l x,()):=by
 unfold G105
 simp only
 rw[al_if_pos hl]
 have hb:ZG0 l x=some (ZBk l x):=by
  unfold ZG0 ZBk
  rw[ZIk l hn hl,show G199 (x,())=some (ZAz x,())from cueI x h1]
  simp only[al_bind_some]
  cases hs:scB l
  ·rfl
  ·cases ZAz x
   ·rfl
   ·rw[ZW8 ((ZHV hn hl).1 hs) x]
    simp only[ZAF,al_cond_false,Bool.true_and]
    cases eqAt x l
    ·by_cases c2:12<=l.length
     ·rw[ZAL c2];rfl
     ·rw[ZAG c2];rfl
    ·rfl
 rw[hb,ZQs]
 simp only[al_bind_some]
 unfold ZCf
 cases ZBk l x<;>rfl
def ZJH(l:List Cue)(hl:l.length<=1048576):G229 (l,())=some (l,()):=by
 unfold G229 F229
 rw[ZAC];rfl
def ZX(l:List Cue)(hl:l.length<=1048576)(x:Cue):G322 (l,x,())=some (if eqAt x l=true then l else insL l (lowK x l) x,!eqAt x l,()):=by
 unfold G322 F322
 have hc: ∀y,G307 (y,x,())=some (cmpC y x,()):=λy=>ZPB y x
 obtain⟨h0,h1,h2⟩:=ZJG x l
 unfold eqAt
 generalize lowK x l=n at h0 h1 h2
 refine(ZAW (f:=s322_0 G307 G229) (λi=>(l,x,(i:Int),())) n (by omega) ?_ ?_).trans ?_
 ·intro i hi rec K
  have hx:l[i]?=some (l[i]'(by omega)):=al_get_get (by omega)
  have w1:w64 ((i:Int)+1)=((i+1:Nat):Int):=ZAB
  simp only[s322_0,ZAE hx,w1,hc,al_bind_some]
  rw[ZA (by simp only[ZAU];omega),ZA (h1 i hi _ hx)]
 ·intro rec K
  simp only[s322_0]
  by_cases hlt:n<l.length
  ·have hx:l[n]?=some l[n]:=by simp[hlt]
   rw[ZA (by simp only[ZAU];omega),ZAE hx,hc,al_bind_some,ZAA (h2 _ hx)]
  ·rw[ZAA (by simp only[ZAU];omega)]
 ·simp only
  have hcp: ∀i,G229 (l.take i,())=some (l.take i,()):=λi=>ZJH _ (by rw[al_len_take];omega)
  by_cases hlt:n<l.length
  ·have hx:l[n]?=some l[n]:=by simp[hlt]
   rw[ZA (by simp only[ZAU];omega),ZAE hx,hc,hx]
   simp only[al_bind_some]
   by_cases hz:cmpC l[n] x=0
   ·rw[ZA hz,ZJH l hl];simp[hz]
   ·rw[ZAA hz,ZBB ⟨by omega,by omega⟩,ZAX,hcp]
    simp only[al_bind_some]
    rw[ZAC,ZBB ⟨by omega,by omega⟩,ZAC]
    unfold insL
    simp[hz]
  ·rw[ZAA (by simp only[ZAU];omega),ZBB ⟨by omega,by omega⟩,ZAX,hcp,List.getElem?_eq_none (by omega)]
   simp only[al_bind_some]
   rw[ZAC,ZBB ⟨by omega,by omega⟩,ZAC]
   unfold insL
   simp
def ZXA(l:List Cue)(hl:l.length<=1048576)(hn:ZBw l)(x:Cue)(h1:x.Name.length<=1048576):G246 (l,x,())=some (ZCf l x,ZBk l x,()):=by
 unfold G246 F246 ZCf ZBk
 rw[ZX l hl x,ZLH l hn hl,show G171 (x,())=some (ZAz x,())from cueS x h1]
 simp only[al_bind_some,ZJH l hl]
 cases hs:scB l
 ·rfl
 ·have S:=(ZHV hn hl).1 hs
  have:=S.len
  cases ZAz x
  ·rfl
  ·cases eqAt x l
   ·simp only[ZAF,ZAH,al_cond_true,Bool.true_and]
    by_cases c2:12<=l.length
    ·rw[ZAL c2,ZA (show(Int.ofNat l.length)=12 by simp only[ZAU];omega)];rfl
    ·rw[ZAG c2,ZAA (show¬(Int.ofNat l.length)=12 by simp only[ZAU];omega)];rfl
   ·rfl
end Ev
end
noncomputable section
namespace Ev
open Go
def ZQu(t:Int): ∀(w:List Gust) (was:Place),w.foldl (drF t) was=dAt was w t
 | [],was=>rfl
 | g::r,was=>by
  rw[List.foldl_cons,ZQu t r]
  unfold drF
  show _=if g.From<=t then dAt g.Drift r t else dAt was r t
  split<;>rfl
def ZL2(w:List Gust)(t:Int):drL w t=dAt ⟨0,0⟩ w t:=ZQu t w ⟨0,0⟩
def ZXB{w:List Gust}(h:WindP w):Inc 0 w:=by
 have key: ∀(w:List Gust) (k:Int),(∀i a b,w[i]?=some a->w[i+1]?=some b->a.From<b.From)->(∀g,w[0]?=some g->k<=g.From)->Inc k w:=by
  intro w
  induction w with
  | nil=>intro k _ _;trivial
  | cons g r ih=>
   intro k hl h0
   exact⟨h0 g rfl,ih (g.From+1) (λi a b ha hb=>hl (i+1) a b (by simpa using ha) (by simpa using hb)) λx hx=>by have:=hl 0 g x rfl (by simpa using hx);omega⟩
 exact key w 0 h.lt λg hg=>(h.gust g (al_mem_get hg)).1.1
def ZL3(p:Place):wdB [⟨0,p⟩]=isDr p:=by
 rw[Bool.eq_iff_iff,ZFF (by simp)]
 constructor
 ·intro h;exact(h.gust ⟨0,p⟩ (by simp)).2
 ·intro h
  exact⟨by simp,λg hg=>by simp at hg;subst hg;exact⟨⟨by simp,by simp⟩,h⟩,λi a b ha hb=>by simp at hb⟩
def jnL(w:List Gust)(p:Place)(t:Int):List Gust:=chgL ⟨0,0⟩ ((w.filter λg=>decide (g.From<t))++[⟨t,p⟩])
def jnB(w:List Gust)(p:Place)(t:Int):Bool:=wdB w && (isDr p && (wi t 0 64 && !decide (8<(jnL w p t).length)))
def jnD(w:List Gust)(p:Place)(t:Int):List Gust:=if jnB w p t=true then jnL w p t else []
def chF(a:List Gust×Place)(g:Gust):List Gust×Place:=if g.Drift=a.2 then a else(a.1++[g],g.Drift)
def ZL4: ∀(w:List Gust) (o:List Gust) (was:Place),(w.foldl chF (o,was)).1=o++chgL was w
 | [],o,was=>by simp[chgL]
 | g::r,o,was=>by
  rw[List.foldl_cons]
  unfold chF chgL
  by_cases h:g.Drift=was
  ·rw[al_if_pos h,al_if_pos h];exact ZL4 r o was
  ·rw[al_if_neg h,al_if_neg h]
   have:=ZL4 r (o++[g]) g.Drift
   refine this.trans (by simp)
def ZQv: ∀(w:List Gust) (a:List Gust×Place),(w.foldl chF a).1.length<=a.1.length+w.length
 | [],a=>Nat.le_refl _
 | g::r,a=>by
  rw[List.foldl_cons]
  have:=ZQv r (chF a g)
  have h2:(chF a g).1.length<=a.1.length+1:=by unfold chF;split<;>simp
  simp only[al_len_cons];omega
def ZQw(p q:Place):(decide (p.X=q.X) && (decide (p.Y=q.Y) && true))=decide (p=q):=by
 cases p;cases q
 rw[Bool.eq_iff_iff]
 simp
def ZXC(w:List Gust)(hw:w.length<=1048576):G203 (w,())=some (chgL ⟨0,0⟩ w,()):=by
 unfold G203 F203
 have hall:=ZL4 w [] ⟨0,0⟩
 rw[List.nil_append]at hall
 refine(ZAW (f:=s203_0) (K:=λx1=>some (x1.1,())) (λi=>(((w.take i).foldl chF ([],⟨0,0⟩)).1,((w.take i).foldl chF ([],⟨0,0⟩)).2,w,Int.ofNat w.length,(i:Int),())) w.length (by omega) ?_ ?_).trans (by rw[List.take_length];simp only[hall])
 ·intro i hi rec K
  have hx:w[i]?=some w[i]:=by simp
  have w1:w64 ((i:Int)+1)=((i+1:Nat):Int):=ZAB
  have hlo:=ZQv (w.take i) ([],⟨0,0⟩)
  rw[al_len_take]at hlo
  simp only[al_len_nil]at hlo
  rw[ZBh w i hi,List.foldl_append,List.foldl_cons,List.foldl_nil]
  generalize (w.take i).foldl chF ([],⟨0,0⟩)=a at hlo
  simp only[s203_0,ZAE hx,w1,ZQw]
  rw[ZA]
  unfold chF
  by_cases h:w[i].Drift=a.2
  ·rw[ZAL h,al_if_pos h];rfl
  ·rw[ZAG h,al_if_neg h]
   simp only[ZAH,al_cond_true]
   rw[ZAC]
 ·intro rec K
  simp only[s203_0]
  rw[ZAA]
def ZXD(p:Place)(hp:isDr p=true){t:Int}(h0:0<=t):G204 ([⟨0,p⟩],t,())=some ([⟨t,p⟩],()):=by
 unfold G204 F204
 have hd:G291 ([⟨0,p⟩],t,())=some (p,()):=by
  rw[ZPx [⟨0,p⟩] (by simp) (by rw[ZL3];exact hp),ZL2]
  unfold dAt
  rw[al_if_pos h0];rfl
 rw[hd]
 simp only[al_bind_some]
 obtain⟨m,hm⟩:=ZBp 3 (by omega)
 rw[hm,ZAT]
 simp only[s204_0,rd0,al_len_cons,al_len_nil]
 rw[ZA (by decide),ZAA,ZAT]
 simp only[s204_0]
 rw[ZAA (by decide)]
def ZXE(w:List Gust)(hl:w.length<=1048576)(p:Place)(t:Int):G106 (w,[⟨0,p⟩],t,())=some (jnD w p t,jnB w p t,()):=by
 unfold G106 F106 jnD jnB
 rw[ZE2 w hl,ZE2 [⟨0,p⟩] (by simp),ZL3,show G121 (t,0,64,())=some (wi t 0 64,())from ZA8 _ _ _]
 simp only[al_bind_some]
 cases hw:wdB w
 ·rfl
 ·cases hp:isDr p
  ·rfl
  ·cases ht:wi t 0 64
   ·rfl
   ·have h0:=(ZAr.1 ht).1
    have h8w:=((ZFF hl).1 hw).len
    simp only[ZAF,ZAH,al_cond_true,al_cond_false,Bool.true_and]
    have run:=ZAW (f:=s106_0 G120 G121 G204 G203) (K:=λx4=>(G204 (x4.1,x4.2.1,())).bind λx5=>capK (List.length x4.2.2.1+List.length x5.1) ((G203 ((x4.2.2.1++x5.1),())).bind λx6=>cond (decide ((Int.ofNat (List.length x6.1))>8)) (some (([]:List Gust),false,())) (some (x6.1,true,()))))
     (λi=>([⟨0,p⟩],t,(w.take i).filter (λg=>decide (g.From<t)),w,Int.ofNat w.length,(i:Int),())) w.length (by omega)
     (by
      intro i hi rec K
      have hx:w[i]?=some w[i]:=by simp
      have w1:w64 ((i:Int)+1)=((i+1:Nat):Int):=ZAB
      have hlo:=List.length_filter_le (λg:Gust=>decide (g.From<t)) (w.take i)
      rw[al_len_take]at hlo
      rw[ZBh w i hi,List.filter_append]
      generalize (w.take i).filter (λg=>decide (g.From<t))=o at hlo
      simp only[s106_0,ZAE hx,w1]
      rw[ZA]
      by_cases h:w[i].From<t
      ·rw[ZA h,ZAC]
       simp[h]
      ·rw[ZAA h]
       simp[h])
     (by
      intro rec K
      simp only[s106_0]
      rw[ZAA])
    refine run.trans ?_
    have hlo:=List.length_filter_le (λg:Gust=>decide (g.From<t)) w
    simp only
    rw[List.take_length,ZXD p hp h0]
    simp only[al_bind_some]
    rw[ZAC,ZXC _ (by simp;omega)]
    simp only[al_bind_some]
    show cond (decide ((Int.ofNat (jnL w p t).length)>8)) _ (some (jnL w p t,true,()))=_
    by_cases h8:8<(jnL w p t).length
    ·rw[ZA (by simp only[ZAU];omega),ZAL h8];rfl
    ·rw[ZAA (by simp only[ZAU];omega),ZAG h8];rfl
def ZXF(w:List Gust)(hl:w.length<=1048576):G324 (w,0,64,())=some ((List.range 65).map λi:Nat=>dAt ⟨0,0⟩ w (i:Int),()):=by
 unfold G324 F324
 refine(ZAW (f:=s324_0 G325) (K:=λx1=>some (x1.2.2.1,())) (λi=>(w,64,(List.range i).map λi:Nat=>dAt ⟨0,0⟩ w (i:Int),(i:Int),())) 65 (by omega) ?_ ?_).trans rfl
 ·intro i hi rec K
  have w1:w64 ((i:Int)+1)=((i+1:Nat):Int):=ZAB
  simp only[s324_0,w1,ZLS w hl,al_bind_some,ZL2]
  rw[ZA,ZAC,List.range_succ,List.map_append]
  rfl
 ·intro rec K
  simp only[s324_0]
  rw[ZAA]
def frF(a:List Gust×Place)(q:Place×Nat):List Gust×Place:=if q.1=a.2 then a else(a.1++[⟨(q.2:Int),q.1⟩],q.1)
def ZL5: ∀(l:List Place) (k:Nat) (o:List Gust) (was:Place),(l.zipIdx k |>.foldl frF (o,was)).1=o++ZDY was k l
 | [],k,o,was=>by simp[ZDY]
 | p::r,k,o,was=>by
  rw[List.zipIdx_cons,List.foldl_cons]
  unfold frF ZDY
  have e:((k:Int)+1)=((k+1:Nat):Int):=by omega
  by_cases h:p=was
  ·rw[al_if_pos h,al_if_pos h,e];exact ZL5 r (k+1) o was
  ·rw[al_if_neg h,al_if_neg h,e]
   have:=ZL5 r (k+1) (o++[⟨(k:Int),p⟩]) p
   refine this.trans (by simp)
def ZQx: ∀(l:List (Place×Nat)) (a:List Gust×Place),(l.foldl frF a).1.length<=a.1.length+l.length
 | [],a=>Nat.le_refl _
 | g::r,a=>by
  rw[List.foldl_cons]
  have:=ZQx r (frF a g)
  have h2:(frF a g).1.length<=a.1.length+1:=by unfold frF;split<;>simp
  simp only[al_len_cons];omega
def ZXG(l:List Place)(hl:l.length<=1048576):G326 (l,())=some (ZDY ⟨0,0⟩ 0 l,()):=by
 unfold G326 F326
 have hall:=ZL5 l 0 [] ⟨0,0⟩
 rw[List.nil_append]at hall
 have hzl:l.zipIdx.length=l.length:=List.length_zipIdx
 refine(ZAW (f:=s326_0) (K:=λx1=>some (x1.1,())) (λi=>(((l.zipIdx.take i).foldl frF ([],⟨0,0⟩)).1,((l.zipIdx.take i).foldl frF ([],⟨0,0⟩)).2,l,Int.ofNat l.length,(i:Int),())) l.length (by omega) ?_ ?_).trans (by rw[<-hzl,List.take_length];exact congrArg (λz=>some (z,())) hall)
 ·intro i hi rec K
  have hx:l[i]?=some l[i]:=by simp
  have w1:w64 ((i:Int)+1)=((i+1:Nat):Int):=ZAB
  have hlo:=ZQx (l.zipIdx.take i) ([],⟨0,0⟩)
  rw[al_len_take]at hlo
  simp only[al_len_nil]at hlo
  have e:=ZBh l.zipIdx i (by omega)
  have e2:l.zipIdx[i]'(by omega)=(l[i],i):=by simp
  rw[e,List.foldl_append,List.foldl_cons,List.foldl_nil,e2]
  generalize (l.zipIdx.take i).foldl frF ([],⟨0,0⟩)=a at hlo
  simp only[s326_0,ZAE hx,w1,ZQw]
  rw[ZA]
  unfold frF
  by_cases h:l[i]=a.2
  ·rw[ZAL h,al_if_pos h];rfl
  ·rw[ZAG h,al_if_neg h]
   simp only[ZAH,al_cond_true]
   rw[ZAC]
 ·intro rec K
  simp only[s326_0]
  rw[ZAA]
def ZXH(w:List Gust)(hl:w.length<=1048576)(p:Place)(t:Int):G251 (w,[⟨0,p⟩],t,())=some (jnD w p t,jnB w p t,()):=by
 unfold G251 F251 jnD jnB
 rw[ZIl w hl,ZIl [⟨0,p⟩] (by simp),ZL3]
 simp only[al_bind_some]
 cases hw:wdB w
 ·rfl
 ·cases hp:isDr p
  ·rfl
  ·simp only[ZAF,ZAH,al_cond_true,al_cond_false,Bool.true_and]
   by_cases c1:t<0
   ·have:wi t 0 64=false:=by unfold wi;rw[ZAG (by omega)];rfl
    rw[ZAL c1,this];rfl
   ·rw[ZAG c1]
    simp only[ZAH,al_cond_true]
    by_cases c2:t>64
    ·have:wi t 0 64=false:=by unfold wi;rw[ZAG (p:=t<=64) (by omega),Bool.and_false]
     rw[ZA c2,this];rfl
    ·have ht:wi t 0 64=true:=ZAa (by omega) (by omega)
     rw[ZAA c2,ht,ZXF w hl]
     simp only[al_bind_some,Bool.true_and]
     obtain⟨n,rfl⟩: ∃n:Nat,t=n:=⟨t.toNat,by omega⟩
     have hat: ∀i:Nat,G325 ([⟨0,p⟩],(i:Int),())=some (p,()):=λi=>by
      rw[ZLS _ (by simp),ZL2]
      unfold dAt
      rw[al_if_pos (by show(0:Int)<=_;omega)];rfl
     have run:=ZAW (f:=s251_0 G232 G324 G325 G326) (K:=λx4=>(G326 (x4.2.1,())).bind λx5=>cond (decide ((Int.ofNat (List.length x5.1))>8)) (some (([]:List Gust),false,())) (some (x5.1,true,())))
      (λi=>(([⟨0,p⟩]:List Gust),(List.range 65).map (λj:Nat=>if n<=j/\j<n+i then p else dAt ⟨0,0⟩ w (j:Int)),((n+i:Nat):Int),())) (65-n) (by omega)
      (by
       intro i hi rec K
       have w1:w64 (((n+i:Nat):Int)+1)=((n+(i+1):Nat):Int):=by rw[ZAB];omega
       have hlen:((List.range 65).map (λj:Nat=>if n<=j/\j<n+i then p else dAt ⟨0,0⟩ w (j:Int))).length=65:=by simp
       have hx: ∃v,((List.range 65).map (λj:Nat=>if n<=j/\j<n+i then p else dAt ⟨0,0⟩ w (j:Int)))[n+i]?=some v:=⟨_,al_get_get (by omega)⟩
       obtain⟨v,hx⟩:=hx
       simp only[s251_0,w1,hat,al_bind_some,ZAE hx,ZAX,hx]
       rw[ZA]
       congr 3
       apply List.ext_getElem?
       intro j
       rw[List.getElem?_set]
       by_cases hj:n+i=j
       ·subst hj
        rw[al_if_pos rfl,al_if_pos]
        simp only[List.getElem?_map]
        rw[List.getElem?_range (by omega)]
        simp
       ·rw[al_if_neg hj]
        simp only[List.getElem?_map]
        by_cases h65:j<65
        ·rw[List.getElem?_range h65]
         simp only[Option.map_some]
         by_cases hc:n<=j/\j<n+i
         ·rw[al_if_pos hc,al_if_pos]
         ·rw[al_if_neg hc,al_if_neg]
        ·rw[List.getElem?_eq_none (by simp;omega)];rfl)
      (by
       intro rec K
       simp only[s251_0]
       rw[ZAA])
     have h00:(List.range 65).map (λj:Nat=>if n<=j/\j<n+0 then p else dAt ⟨0,0⟩ w (j:Int))=(List.range 65).map (λj:Nat=>dAt ⟨0,0⟩ w (j:Int)):=List.map_congr_left λj _=>al_if_neg
     have h01:(List.range 65).map (λj:Nat=>if n<=j/\j<n+(65-n)then p else dAt ⟨0,0⟩ w (j:Int))=(List.range 65).map (λj:Nat=>if(n:Int)<=(j:Int)then p else dAt ⟨0,0⟩ w (j:Int)):=List.map_congr_left λj hj=>by
      have:j<65:=by simpa using hj
      by_cases hc:n<=j
      ·rw[al_if_pos ⟨hc,by omega⟩,al_if_pos]
      ·rw[al_if_neg,al_if_neg]
     rw[h00,Nat.add_zero]at run
     refine run.trans ?_
     simp only
     rw[h01,ZXG _ (by simp)]
     simp only[al_bind_some]
     have hj:ZDY ⟨0,0⟩ 0 ((List.range 65).map (λj:Nat=>if(n:Int)<=(j:Int)then p else dAt ⟨0,0⟩ w (j:Int)))=jnL w p n:=ZW7 (ZXB ((ZFF hl).1 hw)) (by omega) (by omega)
     rw[hj]
     by_cases h8:8<(jnL w p n).length
     ·rw[ZA (by simp only[ZAU];omega),ZAL h8];rfl
     ·rw[ZAA (by simp only[ZAU];omega),ZAG h8];rfl
end Ev
end
noncomputable section
namespace Ev
open Go
def noT:Str:=[110,111,116,104,105,110,103,32,116,111,32,115,97,121]
def ZXI:Str:=[115,97,102,101]
def wetT(r:List Place)(a:Throw×Nat):Str:=((((((([119,101,116,58,32]++a.1.name)++[32,97,116,32])++Go.Lib.itoa a.1.born)++[32,108,97,110,100,115,32,97,116,32])++ZAk (wq r a.1 a.2))++[32,105,110,32])++ZAk (wdV (a.2:Int) r))
def ZEW(s:ZAN)(r:List Place)(b:Bool)(c:Box):Str:=if ZA2 s=true/\b=true/\isBx c=true then(wwL s r c).elim ZXI (wetT r)else noT
def ZQy{s:ZAN}(h:ShowV s){x:Throw}(hx:x∈ZAO s):x.name.length<=1048576:=by
 obtain⟨i,d,hi,_,e,_⟩:=(ZF0 h hx).dev
 rw[e]
 exact(h.ok.devs d (al_mem_get hi)).1
def ZXJ(s:ZAN)(h:ShowOK s)(r:List Place)(hr:r.length<=1048576)(c:Box)(b:Bool)(hb:G51 (r,())=some (b,())):G19 (s,r,c,())=some (ZEW s r b c,()):=by
 obtain⟨b',r1,r2,r3⟩:=ZEN r hr
 obtain rfl:b'=b:=by rw[hb]at r1;cases r1;rfl
 unfold G19 F19 ZEW
 try simp only[ZBC]
 rw[ZDE s h,r1]
 simp only[al_bind_some,ZEM]
 by_cases hgo:ZA2 s=true/\b'=true/\isBx c=true
 ·rw[al_if_pos hgo]
  obtain⟨hsb,rfl,hc⟩:=hgo
  have hv:=ZDl h hsb
  obtain⟨p1,p2,_⟩:=r3 rfl
  rw[hsb,hc,ZWB hv hr r1 hc]
  simp only[ZAF,ZAH,al_cond_true,al_cond_false]
  cases hw:wwL s r c with
  | none=>rfl
  | some a=>
   obtain⟨x,k⟩:=a
   have hx:=(ZLV hw).1
   have hn:=ZQy hv hx
   have hbo:=(ZF0 hv hx).born
   have ht:=hv.tick
   have hi:=ZCr (n:=x.born) (by omega) (by omega)
   have l1:=ZCS (wq r x k)
   have l2:=ZCS (wdV (k:Int) r)
   simp only[Option.elim,al_bind_some,ZAF,al_cond_false,numI (n:=x.born) (by omega) (by omega),fpI]
   simp only[al_len_append,al_len_cons,al_len_nil]
   rw[ZAC,ZAC,ZAC,ZAC,ZAC,ZAC,ZAC]
   rfl
 ·rw[al_if_neg hgo]
  cases hsb:ZA2 s
  ·rfl
  ·cases b'
   ·rfl
   ·cases hc:isBx c
    ·rfl
    ·exact absurd ⟨hsb,rfl,hc⟩ hgo
def ZXK(s:ZAN)(h:ShowOK s)(r:List Place)(hr:r.length<=1048576)(c:Box)(b:Bool)(hb:G141 (r,())=some (b,())):G240 (s,r,c,())=some (ZEW s r b c,()):=by
 obtain⟨b',r1,r2,r3⟩:=ZEN r hr
 obtain rfl:b'=b:=by rw[hb]at r2;cases r2;rfl
 unfold G240 F240 ZEW
 try simp only[ZBC]
 rw[ZCQ s h,r2]
 simp only[al_bind_some,ZHL]
 by_cases hgo:ZA2 s=true/\b'=true/\isBx c=true
 ·rw[al_if_pos hgo]
  obtain⟨hsb,rfl,hc⟩:=hgo
  have hv:=ZDl h hsb
  obtain⟨p1,p2,_⟩:=r3 rfl
  rw[hsb,hc,ZWC hv hr r2]
  simp only[ZAF,ZAH,al_cond_true,al_cond_false]
  cases hw:wwL s r c with
  | none=>rfl
  | some a=>
   obtain⟨x,k⟩:=a
   have hx:=(ZLV hw).1
   have hk:=(ZV4 (ZLV hw).2).1
   have hn:=ZQy hv hx
   have hbo:=(ZF0 hv hx).born
   have ht:=hv.tick
   have hi:=ZCr (n:=x.born) (by omega) (by omega)
   have l1:=ZCS (wq r x k)
   have l2:=ZCS (wdV (k:Int) r)
   have f1:G311 (x.jet,())=some (fl x.jet,()):=flS x.jet
   have f2: ∀p q:Place,G317 (p,q,())=some (plus p q,()):=ZHI
   simp only[Option.elim,al_bind_some,ZAF,al_cond_false,ZQ r p2 p1 r2 (show 0<=(k:Int)/\(k:Int)<=3 by omega),ZQA,f1,f2,numS (n:=x.born) (by omega) (by omega),fpS]
   unfold wq at l1
   simp only[al_len_append,al_len_cons,al_len_nil]
   rw[ZAC,ZAC,ZAC,ZAC,ZAC,ZAC,ZAC]
   rfl
 ·rw[al_if_neg hgo]
  cases hsb:ZA2 s
  ·rfl
  ·cases b'
   ·rfl
   ·cases hc:isBx c
    ·rfl
    ·exact absurd ⟨hsb,rfl,hc⟩ hgo
end Ev
end
noncomputable section
namespace Ev
open Go
def ZXL(s:ZAN)(h:ShowOK s)(c:Box): ∃L,G238 (s,())=some (L,())/\L.length<=512/\True/\G56 (s,c,())=some (wetL c L,()):=by
 obtain⟨L,g1,g2,hL⟩:=ZVp s h
 refine⟨L,g1,hL,trivial,?_⟩
 ·unfold G56 F56
  simp only[ZEM,al_bind_some]
  cases hc:isBx c
  ·simp only[ZAH,al_cond_true]
   unfold wetL;rw[hc];rfl
  ·simp only[ZAF,al_cond_false,g2,al_bind_some]
   exact ZVt c L (by omega) hc
def ZXM(s:ZAN)(h:ShowOK s)(c:Box): ∃L,G238 (s,())=some (L,())/\G242 (s,c,())=some (ZA2 s && (isBx c && dryB c L),())/\G20 (s,c,())=some (ZA2 s && (isBx c && dryB c L),()):=by
 obtain⟨L,g1,hL,g2,g3⟩:=ZXL s h c
 refine⟨L,g1,?_,?_⟩
 ·unfold G242 F242
  try simp only[ZBC]
  rw[ZCQ s h]
  simp only[al_bind_some]
  cases hb:ZA2 s
  ·rfl
  ·simp only[ZAF,al_cond_false,ZHL,al_bind_some,Bool.true_and]
   cases hc:isBx c
   ·rfl
   ·simp only[ZAF,ZAH,al_cond_true,al_cond_false,g1,al_bind_some,Bool.true_and]
    have:=ZDT (f:=s242_0 G140 G142 G238 G320) (K:=λt5=>some (true,())) (λi=>(c,L,Int.ofNat L.length,(i:Int),())) (λi=>((L[i]?).map λx=>inBx c x.At).getD true) (some (false,())) L.length (by omega)
     (by
      intro i hi rec K
      have hx:L[i]?=some L[i]:=by simp
      have e1:w64 ((i:Int)+1)=((i+1:Nat):Int):=ZAB
      simp only[s242_0]
      have hx':=λ(K:Drop->Option (Bool×Unit))=>ZAE (K:=K) hx
      rw[ZA]
      simp only[hx',hx,ZAX,e1,ZVr,al_bind_some,Option.map_some,Option.getD_some]
      cases inBx c L[i].At<;>rfl)
     (by
      intro rec K
      simp only[s242_0]
      rw[ZAA])
    refine this.trans ?_
    have ea:(List.range L.length).all (λi=>((L[i]?).map λx=>inBx c x.At).getD true)=dryB c L:=by
     unfold dryB
     rw[Bool.eq_iff_iff,List.all_eq_true,List.all_eq_true]
     constructor
     ·intro h x hx
      obtain⟨i,hi⟩:=List.mem_iff_getElem?.mp hx
      have:=h i (by simpa using (al_get_iff.mp hi).1)
      rw[hi]at this;exact this
     ·intro h i hi
      have hi:i<L.length:=by simpa using hi
      have hx:L[i]?=some L[i]:=by simp
      rw[hx];exact h _ (by simp)
    rw[ea]
    cases dryB c L<;>rfl
 ·unfold G20 F20
  try simp only[ZBC]
  rw[ZDE s h]
  simp only[al_bind_some]
  cases hb:ZA2 s
  ·rfl
  ·simp only[al_cond_true,ZEM,al_bind_some,Bool.true_and]
   cases hc:isBx c
   ·rfl
   ·simp only[al_cond_true,g3,al_bind_some,Bool.true_and]
    unfold wetL
    rw[al_if_pos hc]
    have hw:=ZP7 c L []
    have:decide ((Int.ofNat (L.foldl (wetF c) []).length)=0)=dryB c L:=by
     unfold dryB
     rw[Bool.eq_iff_iff,ZAZ]
     simp only[true_and]at hw
     rw[<-hw];simp
    rw[this]
end Ev
end
noncomputable section
namespace Ev
open Go
theorem ZJI{A:Type}(p:A->Bool): ∀(l:List A) (a:Int),0<=a->a+l.length<=1099511627776->l.foldl (λa x=>if p x=true then w64 (a+1)else a) a=a+(l.countP p:Int)
 | [],a,_,_=>by simp
 | x::l,a,h0,h1=>by
  have h1':a+((l.length+1:Nat):Int)<=1099511627776:=by simpa using h1
  rw[List.foldl_cons]
  cases hp:p x
  ·rw[al_if_neg (by simp),ZJI p l a h0 (by omega),List.countP_cons_of_neg (by simp[hp])]
  ·rw[al_if_pos rfl,ZAB,ZJI p l (a+1) (by omega) (by omega),List.countP_cons_of_pos hp]
   omega
def ZFH(t:Int)(x:Throw):Bool:=decide (x.born<=t)
def ZHW(t:Int)(x:Throw):Bool:=decide (x.born+fl x.jet<=t)
theorem ZXN(t:Int)(l:List Throw)(hl:l.length<=1048576):l.foldl (ZF1 t) 0=(l.countP (ZFH t):Int):=by
 have e:ZF1 t=λa x=>if ZFH t x=true then w64 (a+1)else a:=by
  funext a x;unfold ZF1 ZFH;simp only[ZAZ]
 rw[e,ZJI _ l 0 (by omega) (by omega)]
 omega
theorem ZXO(t:Int)(l:List Throw)(hl:l.length<=1048576)(hf: ∀x∈l,FliesP x):l.foldl (ZDn t) 0=(l.countP (ZHW t):Int):=by
 have: ∀(l:List Throw) (a:Int),(∀x∈l,FliesP x)->l.foldl (ZDn t) a=l.foldl (λa x=>if ZHW t x=true then w64 (a+1)else a) a:=λl=>by
  induction l with
  | nil=>intro a _;rfl
  | cons x l ih=>
   intro a hx
   rw[List.foldl_cons,List.foldl_cons,ih _ λy hy=>hx y (by simp[hy])]
   unfold ZDn ZHW
   rw[ZHK (hx x (by simp))]
   simp only[ZAZ]
 rw[this l 0 hf,ZJI _ l 0 (by omega) (by omega)]
 omega
section
variable {s:ZAN} (h:ShowV s)
include h
theorem ZHX:(ZAO s).length<=1048576:=Nat.le_trans (ZBx h) (by decide)
theorem ZQz(t:Int):G115 (s,t,())=some (((ZAO s).countP (ZFH t):Int),()):=by
 unfold G115 F115
 try simp only[ZBC]
 rw[ZDX h]
 simp only[al_bind_some]
 rw[ZIr t _ (ZHX h),ZXN t _ (ZHX h)]
theorem ZXP(t:Int):G256 (s,t,())=some (((ZAO s).countP (ZFH t):Int),()):=by
 obtain⟨v,h1,h2⟩:=ZVY s h.ok t
 rw[ZQz h t]at h2
 cases h2
 exact h1
theorem ZQ0(t:Int):G116 (s,t,())=some (((ZAO s).countP (ZHW t):Int),()):=by
 unfold G116 F116
 try simp only[ZBC]
 rw[ZDX h]
 simp only[al_bind_some]
 rw[ZLQ t _ (ZHX h),ZXO t _ (ZHX h) (λx hx=>ZHJ h hx)]
def ZFI(s:ZAN):Int:=(ZAO s).foldl ZHH 0
theorem ZQ1:G22 (s,())=some (ZFI s,()):=by
 unfold G22 F22 ZFI
 try simp only[ZBC]
 rw[ZDX h]
 simp only[al_bind_some]
 exact ZLR _ (ZHX h)
theorem ZXQ:G239 (s,())=some (ZFI s,()):=by
 obtain⟨v,h1,h2⟩:=ZVh s h.ok
 rw[ZQ1 h]at h2
 cases h2
 exact h1
end
end Ev
namespace Ev
open Go
def Sm(m:Int)(p:Place):Prop:=(-m<=p.X/\p.X<=m)/\(-m<=p.Y/\p.Y<=m)
def rt(k:Nat)(p:Place):Place:=if k=0 then p else if k=1 then⟨-p.Y,p.X⟩else if k=2 then⟨-p.X,-p.Y⟩else⟨p.Y,-p.X⟩
theorem ZXR{m:Int}(hb:m<=1099511627776){p:Place}(h:Sm m p){k:Nat}(hk:k<4):rotN k p=rt k p:=by
 obtain⟨⟨h1,h2⟩,h3,h4⟩:=h
 have e1:w64 (0-p.Y)= -p.Y:=by rw[ZAB];omega
 have e2:w64 (0-p.X)= -p.X:=by rw[ZAB];omega
 have e3:w64 (0- -p.Y)=p.Y:=by rw[ZAB];omega
 rcases k4 hk with rfl | rfl | rfl | rfl
 ·rfl
 ·simp only[rotN,e1];rfl
 ·simp only[rotN,e1,e2];rfl
 ·simp only[rotN,e1,e2,e3];rfl
theorem ZXS{m:Int}{p:Place}(h:Sm m p)(k:Nat):Sm m (rt k p):=by
 obtain⟨⟨h1,h2⟩,h3,h4⟩:=h
 unfold rt Sm
 split
 ·exact⟨⟨h1,h2⟩,h3,h4⟩
 ·split
  ·exact⟨⟨by simp only;omega,by simp only;omega⟩,by simp only;omega,by simp only;omega⟩
  ·split
   ·exact⟨⟨by simp only;omega,by simp only;omega⟩,by simp only;omega,by simp only;omega⟩
   ·exact⟨⟨by simp only;omega,by simp only;omega⟩,by simp only;omega,by simp only;omega⟩
theorem ZXT{p:Place}(h:isDr p=true):Sm 8 p:=by
 unfold isDr at h
 rw[ZAM,ZAr,ZAr]at h
 exact h
def WdSm(w:List Gust):Prop:= ∀g∈w,Sm 8 g.Drift
theorem ZXU{w:List Gust}(h:WindP w):WdSm w:=λg hg=>ZXT (h.gust g hg).2
structure Keeps(f:Device->Device):Prop where
 name: ∀d,(f d).Name=d.Name
 kind: ∀d,(f d).Kind=d.Kind
 line: ∀d,(f d).Line=d.Line
 most: ∀d,(f d).Most=d.Most
theorem ZXV(n:Int):Keeps (mvD n):=⟨λ_=>rfl,λ_=>rfl,λ_=>rfl,λ_=>rfl⟩
theorem ZXW{n:Int}{w:List Gust}(hw:WdSm w):WdSm (w.map (mvG n)):=λg hg=>by
 obtain⟨g0,h0,rfl⟩:=List.mem_map.mp hg
 unfold mvG
 have:=ZXS (hw g0 h0) (q4 n)
 rw[<-ZXR (m:=8) (by omega) (hw g0 h0) (ZEK n)]at this
 exact this
section
variable {f:Device->Device} (F:Keeps f)
include F
theorem ZQ2(s:Str): ∀(l:List Device) (i:Nat),ZCc s i (l.map f)=ZCc s i l
 | [],i=>rfl
 | d::l,i=>by simp only[List.map_cons,ZCc,F.name,ZQ2 s l]
theorem ZXX(l:List Device)(s:Str):fnd (l.map f) s=fnd l s:=ZQ2 F s l 0
theorem ZXY(l:List Device)(d:Device):ZBb (l.map f) (f d)=ZBb l d:=by
 unfold ZBb
 rw[F.kind,F.line,ZXX F]
 congr 2
 unfold ZFw
 rw[List.getElem?_map]
 cases l[(fnd l d.Line).toNat]? with
 | none=>rfl
 | some x=>simp only[Option.map_some,Option.getD_some,F.kind]
theorem ZXZ{l:List Device}(h:RigP l)(hd: ∀d∈l,devB (f d)=true):RigP (l.map f):=by
 refine⟨by simpa using h.len,λd hm=> ?_,λi d e h1 h2=> ?_,λd hm=> ?_⟩
 ·obtain⟨x,hx,rfl⟩:=List.mem_map.mp hm
  exact hd x hx
 ·rw[List.getElem?_map]at h1 h2
  cases h3:l[i]? with
  | none=>rw[h3]at h1;cases h1
  | some a=>
   cases h4:l[i+1]? with
   | none=>rw[h4]at h2;cases h2
   | some b=>
    rw[h3]at h1;rw[h4]at h2
    simp only[Option.map_some,Option.some.injEq]at h1 h2
    subst h1 h2
    rw[F.name,F.name]
    exact h.lt i a b h3 h4
 ·obtain⟨x,hx,rfl⟩:=List.mem_map.mp hm
  rw[ZXY F]
  exact h.hung x hx
end
theorem ZDs{r:List Device}{sc:List Cue}{w:List Gust}{T:Int}(hr:RigP r)(hs:ScoreP sc)(hw:WindP w)(hT:0<=T/\T<=64):ShowV (r,sc,w,T,()):=by
 have l1:=hr.len;have l2:=hs.len;have l3:=hw.len
 have hok:ShowOK (r,sc,w,T,()):=by
  constructor
  all_goals first
   | exact ZGG hr
   | exact ZQo hs
   | (show r.length<=1048576;omega)
   | (show sc.length<=1048576;omega)
   | (show w.length<=1048576;omega)
 exact⟨hok,hr,(ZHV (ZQo hs) (show sc.length<=1048576 by omega)).2 hs,(ZFF (show w.length<=1048576 by omega)).2 hw,hT⟩
theorem ZXa{w:List Gust}(h:WindP w)(n:Int):WindP (w.map (mvG n)):=by
 refine⟨by simpa using h.len,λg hg=> ?_,λi a b h1 h2=> ?_⟩
 ·have:=ZXW (n:=n) (ZXU h) g hg
  obtain⟨x,hx,rfl⟩:=List.mem_map.mp hg
  refine⟨(h.gust x hx).1,?_⟩
  unfold isDr
  rw[ZAa this.1.1 this.1.2,ZAa this.2.1 this.2.2];rfl
 ·rw[List.getElem?_map]at h1 h2
  cases h3:w[i]? with
  | none=>rw[h3]at h1;cases h1
  | some x=>
   cases h4:w[i+1]? with
   | none=>rw[h4]at h2;cases h2
   | some y=>
    rw[h3]at h1;rw[h4]at h2
    simp only[Option.map_some,Option.some.injEq]at h1 h2
    subst h1 h2
    exact h.lt i x y h3 h4
theorem ZXb{s:ZAN}(h:ShowV s)(n:Int):ShowV (mvS n s):=
 ZDs (ZXZ (ZXV n) h.rig λd hd=>ZPU n (h.rig.dev d hd)) (ZFG h) (ZXa (ZEV h) n) h.tick
end Ev
end
noncomputable section
namespace Ev
open Go
structure RoseV(r:List Place):Prop where
 len:1<=r.length/\r.length<=4
 sm: ∀p∈r,isDr p=true
 isI:G51 (r,())=some (true,())
def ZL6{r:List Place}(hr:r.length<=1048576)(h:G51 (r,())=some (true,())):RoseV r:=by
 obtain⟨b,q1,q3⟩:=ZKv r hr
 have q1:G51 (r,())=some (b,()):=q1
 have hb:b=true:=by rw[h]at q1;cases q1;rfl
 subst hb
 obtain⟨p1,p2,p3⟩:=q3 rfl
 exact⟨⟨p1,p2⟩,p3,q1⟩
end Ev
end
noncomputable section
namespace Ev
open Go
theorem ZQ3{d:Device}(hd:devB d=true)(hk:d.Kind=2):0<=d.Most/\d.Most<=32:=by
 unfold devB at hd
 rw[ZAM]at hd
 have:=hd.2
 rw[al_if_neg (by rw[hk];decide),al_if_pos hk]at this
 simp only[ZAM]at this
 exact ZAr.1 this.2.2.2
theorem ZXc(d:Device){r:List Place}(hr:r.length<=1048576)(c:Box)(x:Int):lbB d r c x=(lbb ⟨⟨d.At.X,d.At.Y⟩,d.Heading,d.Tilt,x⟩ r && isIn (lbx ⟨⟨d.At.X,d.At.Y⟩,d.Heading,d.Tilt,x⟩ r) c):=by
 have e:gLB ((⟨⟨d.At.X,d.At.Y⟩,d.Heading,d.Tilt,x⟩:Jet),r,())=some (lbx ⟨⟨d.At.X,d.At.Y⟩,d.Heading,d.Tilt,x⟩ r,lbb ⟨⟨d.At.X,d.At.Y⟩,d.Heading,d.Tilt,x⟩ r,()):=ZLU _ r hr
 unfold lbB
 rw[e]
theorem ZXd(d:Device)(r:List Place)(c:Box)(h1:d.Name.length<=1048576)(h2:d.Line.length<=1048576)(hr:r.length<=1048576): ∃v,G208 (d,r,c,())=some (v,())/\((devB d=true/\d.Kind=2/\LimP d r c v)\/(¬(devB d=true/\d.Kind=2)/\v=0)):=by
 have hdv:G192 (d,())=some (devB d,()):=(ZDD d h1 h2).2
 unfold G208 F208
 simp only[hdv,al_bind_some]
 cases hd:devB d
 ·exact⟨0,rfl,.inr ⟨by simp,rfl⟩⟩
 by_cases hk:d.Kind=2
 ·obtain⟨m0,m1⟩:=ZQ3 hd hk
  rw[ZAL hk]
  simp only[ZAF,ZAH,al_cond_true,al_cond_false]
  have key: ∀(e i n:Nat),i+e=d.Most.toNat->e<n-> ∃v,
    ZAD (s208_0 G192 G213 G294) n (r,d,c,((i+1:Nat):Int),()) (λt5=>some (t5.2.1.Most,()))=some (v,())/\(i:Int)<=v/\v<=d.Most/\(∀x:Int,(i:Int)<x->x<=v->lbB d r c x=true)/\(v<d.Most->lbB d r c (v+1)=false):=by
   intro e
   induction e with
   | zero=>
    intro i n he hn
    obtain⟨n,rfl⟩: ∃k,n=k+1:=⟨n-1,by omega⟩
    refine⟨d.Most,?_,by omega,by omega,λx h1 h2=>by omega,λh=>by omega⟩
    rw[ZAT];simp only[s208_0];rw[ZAA]
   | succ e ih=>
    intro i n he hn
    obtain⟨n,rfl⟩: ∃k,n=k+1:=⟨n-1,by omega⟩
    have e1:w64 (((i+1:Nat):Int)+1)=((i+1+1:Nat):Int):=ZAB
    have e2:w64 (((i+1:Nat):Int) -1)=(i:Int):=by rw[ZAB];omega
    have hlb:=ZXc d hr c ((i+1:Nat):Int)
    have hl:=ZLU ⟨⟨d.At.X,d.At.Y⟩,d.Heading,d.Tilt,((i+1:Nat):Int)⟩ r hr
    generalize lbb ⟨⟨d.At.X,d.At.Y⟩,d.Heading,d.Tilt,((i+1:Nat):Int)⟩ r=b at hlb hl
    generalize lbx ⟨⟨d.At.X,d.At.Y⟩,d.Heading,d.Tilt,((i+1:Nat):Int)⟩ r=B at hlb hl
    have hlb:lbB d r c ((i:Int)+1)=(b && isIn B c):=by rw[<-hlb];congr 1
    obtain⟨v,g2,g3,g4,g5,g6⟩:=ih (i+1) n (by omega) (by omega)
    cases hb:b
    ·refine⟨(i:Int),?_,by omega,by omega,λx h1 h2=>by omega,λ_=>by rw[hlb,hb];rfl⟩
     rw[ZAT];simp only[s208_0];rw[ZA]
     simp only[hl,hb,al_bind_some,e2]
     rfl
    ·cases hin:isIn B c
     ·refine⟨(i:Int),?_,by omega,by omega,λx h1 h2=>by omega,λ_=>by rw[hlb,hb,hin];rfl⟩
      rw[ZAT];simp only[s208_0];rw[ZA]
      simp only[hl,hb,al_bind_some,ZP9,hin,e2]
      rfl
     ·refine⟨v,?_,by omega,by omega,λx h1 h2=> ?_,g6⟩
      ·rw[ZAT];simp only[s208_0];rw[ZA]
       simp only[hl,hb,al_bind_some,ZP9,hin,e1]
       exact g2
      ·by_cases hx:x=(i:Int)+1
       ·rw[hx,hlb,hb,hin];rfl
       ·exact g5 x (by omega) h2
  obtain⟨v,g2,g3,g4,g5,g6⟩:=key d.Most.toNat 0 fuel (by omega) (by rw[ZBu];omega)
  exact⟨v,g2,.inl ⟨by first | rfl | trivial,hk,⟨by omega,g4⟩,λx h1 h2=>g5 x (by omega) h2,g6⟩⟩
 ·rw[ZAG hk]
  exact⟨0,rfl,.inr ⟨λh=>hk h.2,rfl⟩⟩
theorem ZQ4(d:Device)(r:List Place)(c:Box)(h1:d.Name.length<=1048576)(h2:d.Line.length<=1048576)(hr:r.length<=1048576):G208 (d,r,c,())=some (limV r c d,())/\((devB d=true/\d.Kind=2/\LimP d r c (limV r c d))\/(¬(devB d=true/\d.Kind=2)/\limV r c d=0)):=by
 obtain⟨v,g2,g3⟩:=ZXd d r c h1 h2 hr
 have:limV r c d=v:=by unfold limV;rw[g2];rfl
 rw[this]
 exact⟨g2,g3⟩
theorem ZXe{s:ZAN}(h:ShowV s){r:List Place}(hr:RoseV r){c:Box}(hc:isBx c=true):G109 (s,r,c,())=some (lmS r c s,true,()):=by
 have hrl:r.length<=1048576:=by have:=hr.len;omega
 have hlen:=h.ok.rig
 have hI:G50 (s,())=some (true,()):=by rw[ZDE s h.ok,ZE3 h]
 unfold G109 F109
 simp only[ZBC,hI,hr.isI,ZEM,hc,ZQB s h.ok,al_bind_some,ZAF,ZAH,al_cond_true,al_cond_false]
 refine(ZAW (f:=s109_0 G50 G51 G52 G94 G208) (K:=λt9=>some ((t9.2.2.2.1.1,t9.2.2.2.1.2.1,t9.2.2.2.1.2.2.1,t9.2.2.2.1.2.2.2.1,()),true,())) (λi=>(r,c,([],[],[],0,()),(lmAt r c s.1 i,s.2.1,s.2.2.1,s.2.2.2.1,()),(),Int.ofNat s.1.length,(i:Int),())) s.1.length (by omega) ?_ ?_).trans ?_
 ·intro i hi rec K
  have hx:=ZI0 r c s.1 i hi
  have hx':=λ(K:Device->Option ((List Device×List Cue×List Gust×Int×Unit)×Bool×Unit))=>ZAE (K:=K) hx
  have e1:w64 ((i:Int)+1)=((i+1:Nat):Int):=ZAB
  obtain⟨n1,n2⟩:=h.ok.devs s.1[i] (by simp)
  have hv:=(ZQ4 s.1[i] r c n1 n2 hrl).1
  simp only[s109_0]
  rw[ZA]
  simp only[hx',hx,ZAX,al_bind_some,e1]
  by_cases hk:s.1[i].Kind=2
  ·rw[ZA hk,hv]
   simp only[hx',hx,al_bind_some]
   have:=ZI1 r c s.1 i hi
   unfold lmD at this
   rw[al_if_pos hk]at this
   rw[this]
  ·rw[ZAA hk,<-ZLW r c s.1 i hi hk]
 ·intro rec K
  simp only[s109_0]
  rw[ZAA]
 ·simp[lmAt,lmS]
structure K3(f:Device->Device):Prop where
 name: ∀d,(f d).Name=d.Name
 kind: ∀d,(f d).Kind=d.Kind
 line: ∀d,(f d).Line=d.Line
section
variable {f:Device->Device} (F:K3 f)
include F
theorem ZQ5(s:Str): ∀(l:List Device) (i:Nat),ZCc s i (l.map f)=ZCc s i l
 | [],i=>rfl
 | d::l,i=>by simp only[List.map_cons,ZCc,F.name,ZQ5 s l]
theorem ZXf(l:List Device)(s:Str):fnd (l.map f) s=fnd l s:=ZQ5 F s l 0
theorem ZXg(l:List Device)(d:Device):ZBb (l.map f) (f d)=ZBb l d:=by
 unfold ZBb
 rw[F.kind,F.line,ZXf F]
 congr 2
 unfold ZFw
 rw[List.getElem?_map]
 cases l[(fnd l d.Line).toNat]? with
 | none=>rfl
 | some x=>simp only[Option.map_some,Option.getD_some,F.kind]
theorem ZQ6{l:List Device}(h:RigP l)(hd: ∀d∈l,devB (f d)=true):RigP (l.map f):=by
 refine⟨by simpa using h.len,λd hm=> ?_,λi d e h1 h2=> ?_,λd hm=> ?_⟩
 ·obtain⟨x,hx,rfl⟩:=List.mem_map.mp hm
  exact hd x hx
 ·rw[List.getElem?_map]at h1 h2
  cases h3:l[i]? with
  | none=>rw[h3]at h1;cases h1
  | some a=>
   cases h4:l[i+1]? with
   | none=>rw[h4]at h2;cases h2
   | some b=>
    rw[h3]at h1;rw[h4]at h2
    simp only[Option.map_some,Option.some.injEq]at h1 h2
    subst h1 h2
    rw[F.name,F.name]
    exact h.lt i a b h3 h4
 ·obtain⟨x,hx,rfl⟩:=List.mem_map.mp hm
  rw[ZXg F]
  exact h.hung x hx
end
theorem ZXh(r:List Place)(c:Box):K3 (lmD r c):=by
 constructor<;>intro d<;>unfold lmD<;>split<;>rfl
theorem ZXi{r:List Place}(hr:r.length<=1048576)(c:Box){d:Device}(h:devB d=true):devB (lmD r c d)=true:=by
 unfold lmD
 by_cases hk:d.Kind=2
 ·rw[al_if_pos hk]
  obtain⟨n1,n2⟩:=ZQl h
  obtain⟨m0,m1⟩:=ZQ3 h hk
  rcases (ZQ4 d r c (by omega) (by omega) hr).2 with ⟨_,_,hl⟩ | ⟨hn,_⟩
  ·have hb:=hl.range
   unfold devB at h
   rw[ZPO]
   rw[ZAM]at h⊢
   refine⟨h.1,?_⟩
   have h:=h.2
   rw[al_if_neg (by rw[hk];decide),al_if_pos hk]at h⊢
   simp only[ZAM]at h⊢
   exact⟨h.1,h.2.1,h.2.2.1,ZAa (by omega) (by omega)⟩
  ·exact absurd ⟨h,hk⟩ hn
 ·rw[al_if_neg hk];exact h
theorem ZXj{s:ZAN}(h:ShowV s){r:List Place}(hr:r.length<=1048576)(c:Box):ShowV (lmS r c s):=
 ZDs (ZQ6 (ZXh r c) h.rig λd hd=>ZXi hr c (h.rig.dev d hd)) (ZFG h) (ZEV h) h.tick
end Ev
end
noncomputable section
namespace Ev
open Go
theorem ZQ7(sep x:Str): ∀(l:List Str),l≠[]->Go.Lib.join (l++[x]) sep=(Go.Lib.join l sep++sep)++x
 | [],h=>absurd rfl h
 | [y],_=>by
  rw[Go.Lib.join_one,show [y]++[x]=[y,x]from rfl,Go.Lib.join_cons]
  simp[Go.Lib.joinTail]
 | y::z::l,_=>by
  have ih:=ZQ7 sep x (z::l) (by simp)
  rw[Go.Lib.join_cons]at ih
  rw[show y::z::l++[x]=y::(z::(l++[x]))from rfl,Go.Lib.join_cons,Go.Lib.join_cons]
  have e: ∀a (m:List Str),Go.Lib.joinTail sep (a::m)=(sep++a)++Go.Lib.joinTail sep m:=λa m=>by simp[Go.Lib.joinTail]
  rw[e,e]
  rw[show z::l++[x]=z::(l++[x])from rfl,Go.Lib.join_cons]at ih
  have ih':=ih
  simp only[List.append_assoc]at ih'⊢
  rw[ih']
theorem ZQ8(sep:Str)(M:Nat): ∀(l:List Str),(∀x∈l,x.length<=M)->(Go.Lib.join l sep).length<=l.length*(M+sep.length)
 | [],_=>by simp[Go.Lib.join_nil]
 | x::l,h=>by
  rw[Go.Lib.join_cons,al_len_append]
  have hx:=h x (by simp)
  have ht:(Go.Lib.joinTail sep l).length<=l.length*(M+sep.length):=by
   have: ∀l:List Str,(∀x∈l,x.length<=M)->(Go.Lib.joinTail sep l).length<=l.length*(M+sep.length):=by
    intro l
    induction l with
    | nil=>intro _;simp[Go.Lib.joinTail]
    | cons y r ih=>
     intro hr
     have e:Go.Lib.joinTail sep (y::r)=(sep++y)++Go.Lib.joinTail sep r:=by simp[Go.Lib.joinTail]
     rw[e,al_len_append,al_len_append,al_len_cons,Nat.add_mul,Nat.one_mul]
     have:=ih λz hz=>hr z (by simp[hz])
     have:=hr y (by simp)
     omega
   exact this l λy hy=>h y (by simp[hy])
  rw[al_len_cons,Nat.add_mul,Nat.one_mul]
  omega
theorem ZXk(l:List Str)(sep:Str)(M:Nat)(hM: ∀x∈l,x.length<=M)(hb:l.length*(M+sep.length)<=1073741824)(hl:l.length<=1048577):G12 (l,sep,())=some (Go.Lib.join l sep,()):=by
 unfold G12 F12
 have:G40 (l,sep,())=some (Go.Lib.join l sep,()):=by
  show ZIT (l,sep,())=_
  unfold ZIT
  have:=ZQ8 sep M l hM
  rw[al_if_pos ⟨by show l.length<=_;omega,by show(Go.Lib.join l sep).length<=_;omega⟩]
 rw[this];rfl
theorem ZXl(l:List Str)(sep:Str)(M:Nat)(hM: ∀x∈l,x.length<=M)(hb:l.length*(M+sep.length)<=1073741824)(hl:l.length<=1048577):G37 (l,sep,())=some (Go.Lib.join l sep,()):=by
 unfold G37 F37
 refine(ZAW (f:=s37_0) (K:=λx1=>some (x1.2.1,())) (λi=>(sep,Go.Lib.join (l.take i) sep,l,Int.ofNat l.length,(i:Int),())) l.length (by omega) ?_ ?_).trans (by rw[List.take_length])
 ·intro i hi rec K
  have hx:l[i]?=some l[i]:=by simp
  have w1:w64 ((i:Int)+1)=((i+1:Nat):Int):=ZAB
  have hb1:=ZQ8 sep M (l.take i) λx hx=>hM x (List.mem_of_mem_take hx)
  have hlx:=hM l[i] (by simp)
  have hmul:(l.take i).length*(M+sep.length)+(M+sep.length)<=1073741824:=by
   have e:(l.take i).length+1<=l.length:=by rw[al_len_take];omega
   have:=Nat.mul_le_mul_right (M+sep.length) e
   rw[Nat.add_mul,Nat.one_mul]at this
   omega
  simp only[s37_0,ZAE hx,w1]
  rw[ZA,ZBh l i hi]
  by_cases h0:i=0
  ·subst h0
   rw[ZAA (by decide),ZAC (by simp[Go.Lib.join_nil];omega)]
   simp[Go.Lib.join_nil,Go.Lib.join_one]
  ·have hne:l.take i≠[]:=λe=>h0 (by have:=congrArg List.length e;rw[al_len_take,al_len_nil]at this;omega)
   generalize (l.take i).length*(M+sep.length)=q at hmul hb1
   have a1:(Go.Lib.join (l.take i) sep).length+sep.length<=1099511627776:=by omega
   have a2:(Go.Lib.join (l.take i) sep++sep).length+(l[i]).length<=1099511627776:=by rw[al_len_append];omega
   rw[ZA,ZAC a1,ZAC a2,ZQ7 _ _ _ hne]
 ·intro rec K
  simp only[s37_0]
  rw[ZAA]
def ZL7:Str:=[110,111,110,101]
def ZCL(l:List Str):Str:=if l=[]then ZL7 else Go.Lib.join l [59,32]
theorem ZL8(l:List Str)(M:Nat)(hM: ∀x∈l,x.length<=M)(hb:l.length*(M+2)<=1073741824)(hl:l.length<=1048577):G112 (l,())=some (ZCL l,()):=by
 unfold G112 F112 ZCL
 by_cases h:l=[]
 ·subst h;rfl
 ·rw[al_if_neg h,ZAA (by simp[h]),ZXk l [59,32] M hM hb hl];rfl
theorem ZQ9(l:List Str)(M:Nat)(hM: ∀x∈l,x.length<=M)(hb:l.length*(M+2)<=1073741824)(hl:l.length<=1048577):G254 (l,())=some (ZCL l,()):=by
 unfold G254 F254 ZCL
 by_cases h:l=[]
 ·subst h;rfl
 ·rw[al_if_neg h,ZAA (by simp[h]),ZXl l [59,32] M hM hb hl];rfl
structure DropK(x:Drop):Prop where
 nm:x.From.length<=8
 b:0<=x.Born/\x.Born<=1000000
def ZHY(x:Drop):Str:=(((x.From++[32])++Go.Lib.itoa x.Born)++[32])++ZAk x.At
def ZBR(high:Bool)(x:Drop):Str:=if high=true then(ZHY x++[32])++ZAR x.Height else ZHY x
theorem ZXm{x:Drop}(h:DropK x):(ZHY x).length<=100:=by
 have:=h.nm;have:=h.b
 have:=ZCr (n:=x.Born) (by omega) (by omega)
 have:=ZCS x.At
 unfold ZHY
 simp only[al_len_append,al_len_cons,al_len_nil];omega
theorem ZL9{x:Drop}(h:DropK x)(high:Bool):(ZBR high x).length<=130:=by
 have:=ZXm h
 have:=ZBq x.Height
 unfold ZBR
 split
 ·simp only[al_len_append,al_len_cons,al_len_nil];omega
 ·omega
theorem ZM{α β:Type}(f:α->β)(r:List α)(i:Nat)(h:i<r.length):(r.take (i+1)).map f=(r.take i).map f++[f r[i]]:=(ZDk f r i h).symm
theorem ZR(L:List Drop)(hL:L.length<=512)(hK: ∀x∈L,DropK x)(high:Bool):G237 (L,high,())=some (ZCL (L.map (ZBR high)),()):=by
 unfold G237 F237
 refine(ZAW (f:=s237_0 G78 G88 G147 G254) (K:=λx1=>(G254 (x1.2.1,())).bind λx2=>some (x2.1,())) (λi=>(high,(L.take i).map (ZBR high),L,Int.ofNat L.length,(i:Int),())) L.length (by omega) ?_ ?_).trans ?_
 ·intro i hi rec K
  have hx:L[i]?=some L[i]:=by simp
  have hk:=hK L[i] (by simp)
  have w1:w64 ((i:Int)+1)=((i+1:Nat):Int):=ZAB
  have b0:=hk.nm;have b1:=hk.b
  have l1:=ZCr (n:=L[i].Born) (by omega) (by omega)
  have l2:=ZCS L[i].At
  have l3:=ZBq L[i].Height
  rw[ZM (ZBR high) L i hi]
  have hlo:((L.take i).map (ZBR high)).length<=512:=by simp;omega
  generalize (L.take i).map (ZBR high)=o at hlo
  simp only[s237_0,ZAE hx,w1,numS (n:=L[i].Born) (by omega) (by omega),fpS,fmS,al_bind_some,al_len_append,al_len_cons,al_len_nil]
  rw[ZA,ZAC,ZAC,ZAC,ZAC,ZAC,ZAC,ZAC,ZAC]
  unfold ZBR ZHY
  cases high<;>rfl
 ·intro rec K
  simp only[s237_0]
  rw[ZAA]
 ·simp only
  rw[List.take_length,ZQ9 _ 130 (λx hx=>by
   obtain⟨y,hy,rfl⟩:=List.mem_map.mp hx
   exact ZL9 (hK y hy) high) (by simp;omega) (by simp;omega)]
  rfl
end Ev
namespace Ev
open Go
theorem ZRA{s:ZAN}(h:ShowV s)(t:Int): ∀x∈nowL s t,DropK x:=by
 have key: ∀(l:List Throw) (a:List Drop),(∀x∈l,x∈ZAO s)->(∀x∈a,DropK x)-> ∀x∈l.foldl (nowF s.2.2.1 t) a,DropK x:=by
  intro l
  induction l with
  | nil=>intro a _ ha;exact ha
  | cons y r ih=>
   intro a hl ha
   rw[List.foldl_cons]
   refine ih _ (λx hx=>hl x (by simp[hx])) λx hx=> ?_
   unfold nowF at hx
   split at hx
   ·rcases List.mem_append.mp hx with hx | hx
    ·exact ha x hx
    ·obtain rfl:=List.mem_singleton.mp hx
     have T:=ZF0 h (hl y (by simp))
     obtain⟨i,d,hd,_,e,_⟩:=T.dev
     have hb:=T.born;have ht:=h.tick
     exact⟨by show y.name.length<=8;rw[e];exact ZBX (ZDJ (h.rig.dev d (al_mem_get hd))).nm,by show 0<=y.born;omega,by show y.born<=1000000;omega⟩
   ·exact ha x hx
 exact key (ZAO s) [] (λ_ h=>h) (by simp)
theorem ZRB{s:ZAN}(h:ShowV s): ∀x∈ZDG s,DropK x:=by
 have key: ∀(l:List Throw) (a:List Drop),(∀x∈l,x∈ZAO s)->(∀x∈a,DropK x)-> ∀x∈l.foldl (allF s.2.2.1) a,DropK x:=by
  intro l
  induction l with
  | nil=>intro a _ ha;exact ha
  | cons y r ih=>
   intro a hl ha
   rw[List.foldl_cons]
   refine ih _ (λx hx=>hl x (by simp[hx])) λx hx=> ?_
   unfold allF at hx
   rcases List.mem_append.mp hx with hx | hx
   ·exact ha x hx
   ·obtain rfl:=List.mem_singleton.mp hx
    have T:=ZF0 h (hl y (by simp))
    obtain⟨i,d,hd,_,e,_⟩:=T.dev
    have hb:=T.born;have ht:=h.tick
    exact⟨by show y.name.length<=8;rw[e];exact ZBX (ZDJ (h.rig.dev d (al_mem_get hd))).nm,by show 0<=y.born;omega,by show y.born<=1000000;omega⟩
 exact key (ZAO s) [] (λ_ h=>h) (by simp)
section
variable (f110:T249) (f111:T329) (f113:T255) (f114:T238) (f115:T256) (f116:T256) (f22:T22) (f19:T19) (f117:T241) (f20:T20)
theorem ZXn(L:List Drop)(hL:L.length<=512)(hK: ∀x∈L,DropK x):ZAD (s49_3 f110 G21 f111 G112 f113 G54 G55 f114 f115 f116 f22 f19 f117 f20) fuel (([]:List Str),L,Int.ofNat L.length,0,()) (λx2=>(G112 (x2.1,())).bind λx3=>some (x3.1,()))=some (ZCL (L.map (ZBR true)),()):=by
 refine(ZAW (f:=s49_3 f110 G21 f111 G112 f113 G54 G55 f114 f115 f116 f22 f19 f117 f20) (K:=λx2=>(G112 (x2.1,())).bind λx3=>some (x3.1,())) (λi=>((L.take i).map (ZBR true),L,Int.ofNat L.length,(i:Int),())) L.length (by omega) ?_ ?_).trans ?_
 ·intro i hi rec K
  have hx:L[i]?=some L[i]:=by simp
  have hk:=hK L[i] (by simp)
  have w1:w64 ((i:Int)+1)=((i+1:Nat):Int):=ZAB
  have b0:=hk.nm;have b1:=hk.b
  have l1:=ZCr (n:=L[i].Born) (by omega) (by omega)
  have l2:=ZCS L[i].At
  have l3:=ZBq L[i].Height
  rw[ZM (ZBR true) L i hi]
  have hlo:((L.take i).map (ZBR true)).length<=512:=by simp;omega
  generalize (L.take i).map (ZBR true)=o at hlo
  simp only[s49_3,ZAE hx,ZAX,hx,w1,numI (n:=L[i].Born) (by omega) (by omega),fpI,fmI,al_bind_some,al_len_append,al_len_cons,al_len_nil]
  rw[ZA,ZAC,ZAC,ZAC,ZAC,ZAC,ZAC,ZAC]
  rfl
 ·intro rec K
  simp only[s49_3]
  rw[ZAA]
 ·simp only
  rw[List.take_length,ZL8 _ 130 (λx hx=>by
   obtain⟨y,hy,rfl⟩:=List.mem_map.mp hx
   exact ZL9 (hK y hy) true) (by simp;omega) (by simp;omega)]
  rfl
theorem ZXo(L:List Drop)(hL:L.length<=512)(hK: ∀x∈L,DropK x):ZAD (s49_5 f110 G21 f111 G112 f113 G54 G55 f114 f115 f116 f22 f19 f117 f20) fuel (([]:List Str),L,Int.ofNat L.length,0,()) (λx2=>(G112 (x2.1,())).bind λx3=>some (x3.1,()))=some (ZCL (L.map (ZBR false)),()):=by
 refine(ZAW (f:=s49_5 f110 G21 f111 G112 f113 G54 G55 f114 f115 f116 f22 f19 f117 f20) (K:=λx2=>(G112 (x2.1,())).bind λx3=>some (x3.1,())) (λi=>((L.take i).map (ZBR false),L,Int.ofNat L.length,(i:Int),())) L.length (by omega) ?_ ?_).trans ?_
 ·intro i hi rec K
  have hx:L[i]?=some L[i]:=by simp
  have hk:=hK L[i] (by simp)
  have w1:w64 ((i:Int)+1)=((i+1:Nat):Int):=ZAB
  have b0:=hk.nm;have b1:=hk.b
  have l1:=ZCr (n:=L[i].Born) (by omega) (by omega)
  have l2:=ZCS L[i].At
  rw[ZM (ZBR false) L i hi]
  have hlo:((L.take i).map (ZBR false)).length<=512:=by simp;omega
  generalize (L.take i).map (ZBR false)=o at hlo
  simp only[s49_5,ZAE hx,ZAX,hx,w1,numI (n:=L[i].Born) (by omega) (by omega),fpI,al_bind_some,al_len_append,al_len_cons,al_len_nil]
  rw[ZA,ZAC,ZAC,ZAC,ZAC,ZAC]
  rfl
 ·intro rec K
  simp only[s49_5]
  rw[ZAA]
 ·simp only
  rw[List.take_length,ZL8 _ 130 (λx hx=>by
   obtain⟨y,hy,rfl⟩:=List.mem_map.mp hx
   exact ZL9 (hK y hy) false) (by simp;omega) (by simp;omega)]
  rfl
def ZCg(r:List Device)(o:List Str)(q:Int×Nat):List Str:=if q.1=0 then o else o++[(ZCp r q.2++[32])++ZAR q.1]
def ZJJ(s:ZAN)(L:List Int):List Str:=L.zipIdx.foldl (ZCg s.1) []
theorem ZHZ(r:List Device): ∀(l:List (Int×Nat)) (o:List Str),(l.foldl (ZCg r) o).length<=o.length+l.length
 | [],o=>Nat.le_refl _
 | q::l,o=>by
  rw[List.foldl_cons]
  have:=ZHZ r l (ZCg r o q)
  have h2:(ZCg r o q).length<=o.length+1:=by unfold ZCg;split<;>simp
  simp only[al_len_cons];omega
theorem ZMA(r:List Device)(hr: ∀d∈r,d.Name.length<=8): ∀(l:List (Int×Nat)) (o:List Str),(∀x∈o,x.length<=40)-> ∀x∈l.foldl (ZCg r) o,x.length<=40
 | [],o,h=>h
 | q::l,o,h=>by
  rw[List.foldl_cons]
  refine ZMA r hr l _ λx hx=> ?_
  unfold ZCg at hx
  split at hx
  ·exact h x hx
  ·rcases List.mem_append.mp hx with hx | hx
   ·exact h x hx
   ·obtain rfl:=List.mem_singleton.mp hx
    have:=ZBq q.1
    have hn:(ZCp r q.2).length<=8:=by
     unfold ZCp
     cases e:r[q.2]? with
     | none=>simp
     | some d=>exact hr d (al_mem_get e)
    simp only[al_len_append,al_len_cons,al_len_nil];omega
theorem ZXp(s:ZAN)(hr: ∀d∈s.1,d.Name.length<=8)(L:List Int)(hL:L.length=s.1.length)(h8:L.length<=8):ZAD (s49_1 f110 G21 f111 G112 f113 G54 G55 f114 f115 f116 f22 f19 f117 f20) fuel (s,([]:List Str),L,Int.ofNat L.length,0,()) (λx2=>(G112 (x2.2.1,())).bind λx3=>some (x3.1,()))=some (ZCL (ZJJ s L),()):=by
 have hzl:L.zipIdx.length=L.length:=List.length_zipIdx
 refine(ZAW (f:=s49_1 f110 G21 f111 G112 f113 G54 G55 f114 f115 f116 f22 f19 f117 f20) (K:=λx2=>(G112 (x2.2.1,())).bind λx3=>some (x3.1,())) (λi=>(s,(L.zipIdx.take i).foldl (ZCg s.1) [],L,Int.ofNat L.length,(i:Int),())) L.length (by omega) ?_ ?_).trans ?_
 ·intro i hi rec K
  have hx:L[i]?=some L[i]:=by simp
  have hd:s.1[i]?=some (s.1[i]'(by omega)):=al_get_get (by omega)
  have hnm:=hr (s.1[i]'(by omega)) (by simp)
  have w1:w64 ((i:Int)+1)=((i+1:Nat):Int):=ZAB
  have hlo:=ZHZ s.1 (L.zipIdx.take i) []
  rw[al_len_take]at hlo
  simp only[al_len_nil]at hlo
  have e:=ZBh L.zipIdx i (by omega)
  have e2:L.zipIdx[i]'(by omega)=(L[i],i):=by simp
  have l3:=ZBq L[i]
  rw[e,List.foldl_append,List.foldl_cons,List.foldl_nil,e2]
  generalize (L.zipIdx.take i).foldl (ZCg s.1) []=o at hlo
  have hna:ZCp s.1 i=(s.1[i]'(by omega)).Name:=by unfold ZCp;rw[hd];rfl
  simp only[s49_1,ZAE hx,ZAE hd,ZAX,hx,w1,fmI,al_bind_some,al_len_append,al_len_cons,al_len_nil]
  rw[ZA]
  unfold ZCg
  by_cases h0:L[i]=0
  ·rw[ZAL h0,al_if_pos h0];rfl
  ·rw[ZAG h0,al_if_neg h0]
   simp only[ZAH,al_cond_true]
   rw[ZAC,ZAC,ZAC,hna]
 ·intro rec K
  simp only[s49_1]
  rw[ZAA]
 ·simp only
  rw[<-hzl,List.take_length]
  have hlo:=ZHZ s.1 L.zipIdx []
  simp only[al_len_nil]at hlo
  rw[ZL8 _ 40 (ZMA s.1 hr _ [] (by simp)) (by omega) (by omega)]
  rfl
end
theorem ZXq(x y:List Device×List Cue×List Gust×Int×List Place×Int×Int×Int×Int×Unit)(s:ZAN)(hs:s.1=x.1)(hr: ∀d∈s.1,d.Name.length<=8)(L:List Int)(hL:L.length=s.1.length)(h8:L.length<=8)(hn: ∀v∈L,0<=v)(f1 f2 f3 f4 f5 f6 f7 f8 f9):
  ZAD (s151_1 f1 f2 f3 G147 f4 f5 f6 f7 f8 f9) fuel (x,y,([]:List Str),L,Int.ofNat L.length,0,()) (λx2=>(G254 (x2.2.2.1,())).bind λx3=>some (x2.1,x3.1,()))=some (x,ZCL (ZJJ s L),()):=by
 have hzl:L.zipIdx.length=L.length:=List.length_zipIdx
 refine(ZAW (f:=s151_1 f1 f2 f3 G147 f4 f5 f6 f7 f8 f9) (K:=λx2=>(G254 (x2.2.2.1,())).bind λx3=>some (x2.1,x3.1,())) (λi=>(x,y,(L.zipIdx.take i).foldl (ZCg s.1) [],L,Int.ofNat L.length,(i:Int),())) L.length (by omega) ?_ ?_).trans ?_
 ·intro i hi rec K
  have hx:L[i]?=some L[i]:=by simp
  have hlx:i<x.1.length:=by rw[<-hs];omega
  obtain⟨d,hd⟩: ∃d,x.1[i]?=some d:=⟨_,al_get_get hlx⟩
  have hnm:=hr d (by rw[hs];exact al_mem_get hd)
  have w1:w64 ((i:Int)+1)=((i+1:Nat):Int):=ZAB
  have hlo:=ZHZ s.1 (L.zipIdx.take i) []
  rw[al_len_take]at hlo
  simp only[al_len_nil]at hlo
  have e:=ZBh L.zipIdx i (by omega)
  have e2:L.zipIdx[i]'(by omega)=(L[i],i):=by simp
  have l3:=ZBq L[i]
  have hnn:=hn L[i] (by simp)
  rw[e,List.foldl_append,List.foldl_cons,List.foldl_nil,e2]
  generalize (L.zipIdx.take i).foldl (ZCg s.1) []=o at hlo
  have hna:ZCp s.1 i=d.Name:=by unfold ZCp;rw[hs,hd];rfl
  simp only[s151_1,ZAE hx,ZAE hd,ZAX,hx,w1,fmS,al_bind_some,al_len_append,al_len_cons,al_len_nil]
  rw[ZA]
  unfold ZCg
  by_cases h0:L[i]=0
  ·rw[ZAA,al_if_pos h0]
  ·rw[ZA,al_if_neg h0]
   rw[ZAC,ZAC,ZAC,hna]
 ·intro rec K
  simp only[s151_1]
  rw[ZAA]
 ·simp only
  rw[<-hzl,List.take_length]
  have hlo:=ZHZ s.1 L.zipIdx []
  simp only[al_len_nil]at hlo
  rw[ZQ9 _ 40 (ZMA s.1 hr _ [] (by simp)) (by omega) (by omega)]
  rfl
end Ev
end
noncomputable section
namespace Ev
open Go
def devW:Str:=[100,101,118,105,99,101]
def remW:Str:=[114,101,109,111,118,101]
def cueW:Str:=[99,117,101]
def ZAd:Str:=[103,117,115,116]
def ZAv:Str:=[116,105,99,107,115]
def ZAb:Str:=[114,111,115,101]
def ZAi:Str:=[98,97,115,105,110]
def ZAl:Str:=[116,117,114,110]
def ZAj:Str:=[115,104,105,102,116]
def ZAw:Str:=[108,105,109,105,116]
def ZAe:Str:=[108,101,118,101,108]
def ZAs:Str:=[108,105,102,116,115]
def ZAt:Str:=[100,114,111,112,115]
def ZAm:Str:=[108,97,110,100,105,110,103,115]
def ZAx:Str:=[99,111,117,110,116]
def ZAn:Str:=[104,105,103,104]
def ZAo:Str:=[115,97,102,101]
def ZAp:Str:=[108,101,97,115,116]
def dryW:Str:=[100,114,121]
def ZDK:List Str:=[ZAw,ZAm,ZAn,ZAo,ZAp,dryW]
def ZBz:List Str:=[ZAv,ZAl,ZAs,ZAt,ZAx]
def ZCv:List Str:=[devW,cueW,remW,ZAd]++ZBz++[ZAb,ZAi,ZAj,ZAe]
theorem ZRC{w:Str}(h1:w∉ZDK)(h2:w∉ZCv):G97 (w,())=some ([],false,()):=by
 simp only[ZDK,ZCv,ZBz,List.mem_cons,List.mem_append,List.not_mem_nil,or_false,not_or]at h1 h2
 obtain⟨a1,a2,a3,a4,a5,a6⟩:=h1
 obtain⟨⟨⟨b1,b2,b3,b4⟩,b5,b6,b7,b8,b9⟩,b10,b11,b12,b13⟩:=h2
 unfold G97 F97
 unfold devW at b1;unfold cueW at b2;unfold remW at b3;unfold ZAd at b4;unfold ZAv at b5;unfold ZAl at b6;unfold ZAs at b7;unfold ZAt at b8;unfold ZAx at b9;unfold ZAb at b10;unfold ZAi at b11;unfold ZAj at b12;unfold ZAe at b13
 unfold ZAw at a1;unfold ZAm at a2;unfold ZAn at a3;unfold ZAo at a4;unfold ZAp at a5;unfold dryW at a6
 simp only[ZAG a1,ZAG a2,ZAG a3,ZAG a4,ZAG a5,ZAG a6,ZAG b1,ZAG b2,ZAG b3,ZAG b4,ZAG b5,ZAG b6,ZAG b7,ZAG b8,ZAG b9,ZAG b10,ZAG b11,ZAG b12,ZAG b13,al_cond_false]
theorem ZRD{w:Str}(h:w∈ZDK):G97 (w,())=some ([],true,()):=by
 simp only[ZDK,List.mem_cons,List.not_mem_nil,or_false]at h
 rcases h with rfl | rfl | rfl | rfl | rfl | rfl<;>rfl
theorem ZXr{w:Str}(h:w∈ZBz):G97 (w,())=some ([78],true,()):=by
 simp only[ZBz,List.mem_cons,List.not_mem_nil,or_false]at h
 rcases h with rfl | rfl | rfl | rfl | rfl<;>rfl
abbrev PT:=Str×Str×Int×List Place×Unit
theorem ZXs{line:Str}(hl:line.length<=1048576)(h: ∀x∈line,x≠32):(line∈ZDK->G47 (line,())=some ((line,[],0,[],()),true,()))/\(line∉ZDK-> ∃y:PT,G47 (line,())=some (y,false,())):=by
 have hc:G96 (line,[32],())=some (line,[],false,()):=by
  rw[ZLp line [32] hl]
  rcases ZQH line 32 with ⟨_,_,e⟩ | ⟨p,r,e,_⟩
  ·rw[e]
  ·exact absurd rfl (h 32 (by rw[e];simp))
 unfold G47 F47
 rw[hc]
 simp only[al_bind_some]
 refine⟨λhm=> ?_,λhm=> ?_⟩
 ·rw[ZRD hm];rfl
 ·by_cases h2:line∈ZCv
  ·refine⟨(line,[],0,[],()),?_⟩
   simp only[ZCv,ZBz,List.mem_cons,List.mem_append,List.not_mem_nil,or_false]at h2
   rcases h2 with (((rfl | rfl | rfl | rfl) | (rfl | rfl | rfl | rfl | rfl)) | (rfl | rfl | rfl | rfl))<;>rfl
  ·rw[ZRC hm h2]
   exact⟨_,rfl⟩
def ZA4(ws:List Str):List Place:=ws.map λw=>(ZAS w).1
def ZAf(ws:List Str):Bool:=ws.all λw=>(ZAS w).2
theorem ZXt(ws:List Str)(hw: ∀w∈ws,w.length<=1048576)(hl:ws.length<=1048577):G98 (ws,())=some (if ZAf ws=true then ZA4 ws else [],ZAf ws,()):=by
 unfold G98 F98
 have run:=ZDT (f:=s98_0 G100) (K:=λx1=>some (x1.1,true,())) (λi=>(ZA4 (ws.take i),ws,Int.ofNat ws.length,(i:Int),())) (λi=>((ws[i]?).map λw=>(ZAS w).2).getD true) (some (([]:List Place),false,())) ws.length (by omega)
  (by
   intro i hi rec K
   have hx:ws[i]?=some ws[i]:=by simp
   have w1:w64 ((i:Int)+1)=((i+1:Nat):Int):=ZAB
   have hlo:(ZA4 (ws.take i)).length<=1048577:=by unfold ZA4;simp;omega
   simp only[s98_0,ZAE hx,hx,w1,ZGE ws[i] (hw _ (by simp)),al_bind_some,Option.map_some,Option.getD_some]
   rw[ZA,ZAC (by simp only[al_len_cons,al_len_nil];omega)]
   have e:ZA4 (ws.take (i+1))=ZA4 (ws.take i)++[(ZAS ws[i]).1]:=by unfold ZA4;rw[ZBh ws i hi,List.map_append];rfl
   rw[e]
   cases (ZAS ws[i]).2<;>rfl)
  (by
   intro rec K
   simp only[s98_0]
   rw[ZAA])
 have ea:(List.range ws.length).all (λi=>((ws[i]?).map λw=>(ZAS w).2).getD true)=ZAf ws:=by
  unfold ZAf
  rw[Bool.eq_iff_iff,List.all_eq_true,List.all_eq_true]
  constructor
  ·intro h x hx
   obtain⟨i,hi⟩:=List.mem_iff_getElem?.mp hx
   have:=h i (by simpa using (al_get_iff.mp hi).1)
   rw[hi]at this;exact this
  ·intro h i hi
   have hi:i<ws.length:=by simpa using hi
   have hx:ws[i]?=some ws[i]:=by simp
   rw[hx];exact h _ (by simp)
 rw[ea]at run
 refine run.trans ?_
 cases ZAf ws
 ·rfl
 ·rw[List.take_length];rfl
theorem ZXu(ws:List Str)(hw: ∀w∈ws,w.length<=1048576)(hl:ws.length<=1048577): ∃L,G145 (ws,())=some (L,ZAf ws && decide (0<ws.length),())/\(ZAf ws=true->L=ZA4 ws):=by
 unfold G145 F145
 have run:=ZJA (f:=s145_0 G149) (K:=λx1=>some (x1.2.1,(decide ((Int.ofNat (List.length x1.1))>0)),())) (λi=>(ws,ZA4 (ws.take i),ws,Int.ofNat ws.length,(i:Int),())) (λi=>((ws[i]?).map λw=> !(ZAS w).2).getD false) (λi=>some (ZA4 (ws.take i),false,())) ws.length (by omega)
  (by
   intro i hi rec K
   have hx:ws[i]?=some ws[i]:=by simp
   have w1:w64 ((i:Int)+1)=((i+1:Nat):Int):=ZAB
   have hlo:(ZA4 (ws.take i)).length<=1048577:=by unfold ZA4;simp;omega
   simp only[s145_0,ZAE hx,hx,w1,ZLt ws[i] (hw _ (by simp)),al_bind_some,Option.map_some,Option.getD_some]
   rw[ZA,ZAC (by simp only[al_len_cons,al_len_nil];omega)]
   have e:ZA4 (ws.take (i+1))=ZA4 (ws.take i)++[(ZAS ws[i]).1]:=by unfold ZA4;rw[ZBh ws i hi,List.map_append];rfl
   rw[e])
  (by
   intro rec K
   simp only[s145_0]
   rw[ZAA])
 rcases run with ⟨j,hj,hh,hr⟩ | ⟨hh,hr⟩
 ·have hx:ws[j]?=some ws[j]:=by simp[hj]
  rw[hx]at hh
  simp only[Option.map_some,Option.getD_some,Bool.not_eq_true']at hh
  have hb:ZAf ws=false:=by
   unfold ZAf
   rw[List.all_eq_false]
   exact⟨ws[j],by simp,by simp[hh]⟩
  refine⟨ZA4 (ws.take j),hr.trans ?_,λh=>by rw[hb]at h;cases h⟩
  rw[hb];rfl
 ·have hb:ZAf ws=true:=by
   unfold ZAf
   rw[List.all_eq_true]
   intro x hx
   obtain⟨i,hi⟩:=List.mem_iff_getElem?.mp hx
   have:=hh i (al_get_iff.mp hi).1
   rw[hi]at this
   simpa using this
  refine⟨ZA4 ws,hr.trans ?_,λ_=>rfl⟩
  rw[hb,List.take_length]
  simp only[Bool.true_and,ZAU]
  congr 3
  exact decide_eq_decide.2 (by omega)
section
variable {p r:Str} (hl:(p++32::r).length<=1048576) (h: ∀x∈p,x≠32)
include hl h
theorem ZJK:G96 (p++32::r,[32],())=some (p,r,true,()):=by
 rw[ZLp _ [32] hl]
 unfold Go.Lib.cut
 rw[ZF3 h,al_if_pos]
 simp
 rfl
omit h in
theorem rlen:r.length<=1048576:=by simp at hl;omega
omit h in
theorem ZRE:(∀w∈splC 32 r,w.length<=1048576)/\(splC 32 r).length<=1048577:=by
 have:=rlen hl
 exact⟨λw hw=>by have:=(ZEP 32 r w hw).2;omega,by have:=ZF4 32 r;omega⟩
theorem ZXv(h1:p∉ZCv): ∃y:PT,G47 (p++32::r,())=some (y,false,()):=by
 unfold G47 F47
 rw[ZJK hl h]
 simp only[al_bind_some]
 by_cases h2:p∈ZDK
 ·rw[ZRD h2];exact⟨_,rfl⟩
 ·rw[ZRC h2 h1];exact⟨_,rfl⟩
theorem ZRF(h1:p=devW\/p=cueW):G47 (p++32::r,())=some ((p,r,0,[],()),true,()):=by
 unfold G47 F47
 rw[ZJK hl h]
 simp only[al_bind_some]
 have hs:G97 (p,())=some ([84],true,()):=by rcases h1 with rfl | rfl<;>rfl
 rw[hs];rfl
theorem ZXw(h1:p=ZAb):G47 (p++32::r,())=some ((p,r,0,if ZAf (splC 32 r)=true then ZA4 (splC 32 r)else [],()),ZAf (splC 32 r),()):=by
 obtain⟨g1,g2⟩:=ZRE hl
 unfold G47 F47
 rw[ZJK hl h]
 simp only[al_bind_some]
 have hs:G97 (p,())=some ([42],true,()):=by subst h1;rfl
 rw[hs]
 simp only[al_bind_some,ZHT r 32 (rlen hl),ZXt _ g1 g2]
 rfl
theorem ZFJ{c:Str}(hs:G97 (p,())=some (c,true,()))(hc:c≠[]/\c≠[84]/\c≠[42]):G47 (p++32::r,())=
  (if(splC 32 r).length=c.length then ZAD (s47_0 G96 G97 G10 G98 G99 G100) fuel (([],[],0,[],()),c,true,(p,r,0,[],()),splC 32 r,(Int.ofNat (List.length (splC 32 r))),0,()) (λx4=>some (x4.2.2.2.1,true,()))else some ((p,r,0,[],()),false,())):=by
 unfold G47 F47
 rw[ZJK hl h]
 simp only[al_bind_some]
 rw[hs]
 simp only[al_bind_some,ZHT r 32 (rlen hl)]
 rw[ZAG hc.1,ZAG hc.2.1,ZAG hc.2.2]
 simp only[ZAF,ZAH,al_cond_true,al_cond_false,decide_true]
 by_cases hk:(splC 32 r).length=c.length
 ·rw[al_if_pos hk,ZAL (show(Int.ofNat (splC 32 r).length)=Int.ofNat c.length by rw[hk])];rfl
 ·rw[al_if_neg hk,ZAG (show¬(Int.ofNat (splC 32 r).length)=Int.ofNat c.length by simp only[ZAU];omega)];rfl
end
section
variable (z y:PT) (ok:Bool) (a b:Str) (K:PT×Str×Bool×PT×List Str×Int×Int×Unit->Option (PT×Bool×Unit))
abbrev ZGH:=s47_0 G96 G97 G10 G98 G99 G100
theorem ZXx(n:Nat):ZAD ZGH (n+2) (z,[78],ok,y,[a],1,0,()) K=(G99 (a,())).bind λx=>cond (!x.2.1) (some ((y.1,y.2.1,x.1,y.2.2.2.1,()),false,())) (K (z,[78],x.2.1,(y.1,y.2.1,x.1,y.2.2.2.1,()),[a],1,1,())):=by kernel_rfl
theorem ZXy(n:Nat):ZAD ZGH (n+2) (z,[110],ok,y,[a],1,0,()) K=cond (!ok) (some ((y.1,a,y.2.2.1,y.2.2.2.1,()),false,())) (K (z,[110],ok,(y.1,a,y.2.2.1,y.2.2.2.1,()),[a],1,1,())):=by kernel_rfl
theorem ZXz(n:Nat):ZAD ZGH (n+2) (z,[80],ok,y,[a],1,0,()) K=(G100 (a,())).bind λx=>capK (List.length y.2.2.2.1+1) (cond (!x.2.1) (some ((y.1,y.2.1,y.2.2.1,y.2.2.2.1++[x.1],()),false,())) (K (z,[80],x.2.1,(y.1,y.2.1,y.2.2.1,y.2.2.2.1++[x.1],()),[a],1,1,()))):=by kernel_rfl
theorem ZX0(n:Nat):ZAD ZGH (n+3) (z,[78,80],ok,y,[a,b],2,0,()) K=(G99 (a,())).bind λx=>cond (!x.2.1) (some ((y.1,y.2.1,x.1,y.2.2.2.1,()),false,()))
  ((G100 (b,())).bind λq=>capK (List.length y.2.2.2.1+1) (cond (!q.2.1) (some ((y.1,y.2.1,x.1,y.2.2.2.1++[q.1],()),false,())) (K (z,[78,80],q.2.1,(y.1,y.2.1,x.1,y.2.2.2.1++[q.1],()),[a,b],2,2,())))):=by kernel_rfl
theorem ZX1(n:Nat):ZAD ZGH (n+3) (z,[80,80],ok,y,[a,b],2,0,()) K=(G100 (a,())).bind λx=>capK (List.length y.2.2.2.1+1) (cond (!x.2.1) (some ((y.1,y.2.1,y.2.2.1,y.2.2.2.1++[x.1],()),false,()))
  ((G100 (b,())).bind λq=>capK (List.length (y.2.2.2.1++[x.1])+1) (cond (!q.2.1) (some ((y.1,y.2.1,y.2.2.1,(y.2.2.2.1++[x.1])++[q.1],()),false,())) (K (z,[80,80],q.2.1,(y.1,y.2.1,y.2.2.1,(y.2.2.2.1++[x.1])++[q.1],()),[a,b],2,2,()))))):=by kernel_rfl
theorem ZX2(n:Nat):ZAD ZGH (n+3) (z,[110,78],ok,y,[a,b],2,0,()) K=cond (!ok) (some ((y.1,a,y.2.2.1,y.2.2.2.1,()),false,())) ((G99 (b,())).bind λx=>cond (!x.2.1) (some ((y.1,a,x.1,y.2.2.2.1,()),false,())) (K (z,[110,78],x.2.1,(y.1,a,x.1,y.2.2.2.1,()),[a,b],2,2,()))):=by kernel_rfl
end
end Ev
end
