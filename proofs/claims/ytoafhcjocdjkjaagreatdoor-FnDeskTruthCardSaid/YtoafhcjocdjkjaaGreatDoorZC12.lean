/- Laid together by program (what the claim does not reach is left out): ParF, InsA, ParG, TxtW, ParH, ParI, SafeT, Dry8, SumA, Geo, Lmt, DkA, DkB. -/
import Derived.Test.YtoafhcjocdjkjaaGreatDoorZC11
set_option linter.all false
set_option maxRecDepth 100000
open Go.Proofs.Tryz
noncomputable section
namespace Ev
open Go
def ZRS{w pad:List Str}{i m:Nat}(hp:pad=List.replicate m [])(hw:1<=w.length)(hi:i<=m):(w++pad)[i]?=some (wAt w i):=by
 by_cases h:i<w.length
 ·rw[List.getElem?_append_left h,ZBh h]
 ·rw[List.getElem?_append_right (by omega),hp,List.getElem?_replicate,al_if_pos]
  unfold wAt
  rw[List.getElem?_eq_none (by omega)];rfl
def ZXh(s:Str)(hs:s.length<=1048576):G243 (s,())=some ((devP s).1,(devP s).2,()):=by
 unfold G243 F243
 rw[ZHs s 32 hs,<-ZXf]
 simp only[al_bind_some]
 have hw: ∀i,(wAt (splC 32 s) i).length<=1048576:=λi=>Nat.le_trans ZC8 hs
 have hl:=ZGU 32 s
 have h1:1<=(splC 32 s).length:=List.length_pos_iff.mpr (ZCJ 32 s)
 generalize splC 32 s=w at hw hl h1
 have hm:=λi=>ZHt (wAt w i) (hw i)
 have hp:=λi=>ZMY (wAt w i) (hw i)
 have hn:=λi=>ZFZ (wAt w i) (hw i)
 have hP: ∀i,i<=11->(w++([[],[],[],[],[],[],[],[],[],[],[]]:List Str))[i]?=some (wAt w i):=λi hi=>ZRS (m:=11) rfl h1 hi
 have r0: ∀K:Str->Option (Device×Bool×Unit),rdL (w++([[],[],[],[],[],[],[],[],[],[],[]]:List Str)) 0 K=K (wAt w 0):=λK=>ZAF (i:=0) (hP 0 (by omega))
 have g0:((w++([[],[],[],[],[],[],[],[],[],[],[]]:List Str)))[(Int.toNat 0)]?=some (wAt w 0):=hP 0 (by omega)
 have r1: ∀K:Str->Option (Device×Bool×Unit),rdL (w++([[],[],[],[],[],[],[],[],[],[],[]]:List Str)) 1 K=K (wAt w 1):=λK=>ZAF (i:=1) (hP 1 (by omega))
 have g1:((w++([[],[],[],[],[],[],[],[],[],[],[]]:List Str)))[(Int.toNat 1)]?=some (wAt w 1):=hP 1 (by omega)
 have r3: ∀K:Str->Option (Device×Bool×Unit),rdL (w++([[],[],[],[],[],[],[],[],[],[],[]]:List Str)) 3 K=K (wAt w 3):=λK=>ZAF (i:=3) (hP 3 (by omega))
 have g3:((w++([[],[],[],[],[],[],[],[],[],[],[]]:List Str)))[(Int.toNat 3)]?=some (wAt w 3):=hP 3 (by omega)
 have r5: ∀K:Str->Option (Device×Bool×Unit),rdL (w++([[],[],[],[],[],[],[],[],[],[],[]]:List Str)) 5 K=K (wAt w 5):=λK=>ZAF (i:=5) (hP 5 (by omega))
 have g5:((w++([[],[],[],[],[],[],[],[],[],[],[]]:List Str)))[(Int.toNat 5)]?=some (wAt w 5):=hP 5 (by omega)
 have r7: ∀K:Str->Option (Device×Bool×Unit),rdL (w++([[],[],[],[],[],[],[],[],[],[],[]]:List Str)) 7 K=K (wAt w 7):=λK=>ZAF (i:=7) (hP 7 (by omega))
 have g7:((w++([[],[],[],[],[],[],[],[],[],[],[]]:List Str)))[(Int.toNat 7)]?=some (wAt w 7):=hP 7 (by omega)
 have r9: ∀K:Str->Option (Device×Bool×Unit),rdL (w++([[],[],[],[],[],[],[],[],[],[],[]]:List Str)) 9 K=K (wAt w 9):=λK=>ZAF (i:=9) (hP 9 (by omega))
 have g9:((w++([[],[],[],[],[],[],[],[],[],[],[]]:List Str)))[(Int.toNat 9)]?=some (wAt w 9):=hP 9 (by omega)
 have r11: ∀K:Str->Option (Device×Bool×Unit),rdL (w++([[],[],[],[],[],[],[],[],[],[],[]]:List Str)) 11 K=K (wAt w 11):=λK=>ZAF (i:=11) (hP 11 (by omega))
 have g11:((w++([[],[],[],[],[],[],[],[],[],[],[]]:List Str)))[(Int.toNat 11)]?=some (wAt w 11):=hP 11 (by omega)
 rw[ZAB (by simp only[al_len_cons,al_len_nil];omega)]
 have d1:decide ((1:Int)>1)=false:=rfl
 have d2:decide ((2:Int)>1)=true:=rfl
 have d3:decide ((3:Int)>1)=true:=rfl
 have d0:decide ((0:Int)>1)=false:=rfl
 simp only[r0,r1,r3,r5,r7,r9,r11,g0,g1,g3,g5,g7,g9,g11,al_bind_some,hm,hp,hn,d0,d1,d2,d3,al_cond_true,al_cond_false]
 by_cases h1:wAt w 0=ZD7
 ·have hd:decide (wAt w 0=[112,117,109,112])=true:=ZAH h1
  rw[hd,al_cond_true]
  have:ZCL w=⟨wAt w 1,1,[],⟨0,0⟩,0,0,ZBJ (wAt w 3)⟩:=by unfold ZCL;rw[al_if_pos h1]
  rw[this]
  exact endS s ⟨wAt w 1,1,[],⟨0,0⟩,0,0,ZBJ (wAt w 3)⟩ (hw 1) (by simp)
 ·have hd:decide (wAt w 0=[112,117,109,112])=false:=ZAE h1
  rw[hd,al_cond_false]
  by_cases h2:wAt w 0=ZD8
  ·have hd:decide (wAt w 0=[110,111,122,122,108,101])=true:=ZAH h2
   rw[hd,al_cond_true]
   have:ZCL w=⟨wAt w 1,2,wAt w 3,plV (wAt w 5),numV (wAt w 7),ZBJ (wAt w 9),ZBJ (wAt w 11)⟩:=by unfold ZCL;rw[al_if_neg h1,al_if_pos h2]
   rw[this]
   exact endS s ⟨wAt w 1,2,wAt w 3,plV (wAt w 5),numV (wAt w 7),ZBJ (wAt w 9),ZBJ (wAt w 11)⟩ (hw 1) (hw 3)
  ·have hd:decide (wAt w 0=[110,111,122,122,108,101])=false:=ZAE h2
   rw[hd,al_cond_false]
   by_cases h3:wAt w 0=ZD9
   ·have hd:decide (wAt w 0=[108,97,109,112])=true:=ZAH h3
    rw[hd,al_cond_true]
    have:ZCL w=⟨wAt w 1,3,wAt w 3,plV (wAt w 5),0,0,0⟩:=by unfold ZCL;rw[al_if_neg h1,al_if_neg h2,al_if_pos h3]
    rw[this]
    exact endS s ⟨wAt w 1,3,wAt w 3,plV (wAt w 5),0,0,0⟩ (hw 1) (hw 3)
   ·have hd:decide (wAt w 0=[108,97,109,112])=false:=ZAE h3
    rw[hd,al_cond_false]
    have:ZCL w=⟨wAt w 1,0,[],⟨0,0⟩,0,0,0⟩:=by unfold ZCL;rw[al_if_neg h1,al_if_neg h2,al_if_neg h3]
    rw[this]
    exact endS s ⟨wAt w 1,0,[],⟨0,0⟩,0,0,0⟩ (hw 1) (by simp)
abbrev ZC:Cue:=⟨0,[],0,0⟩
def ZRT(s:Str)(c:Cue)(h1:c.Name.length<=1048576)(h0:s≠[]):((G198 (c,())).bind λx=>cond (!decide (x.1=s)) (some (ZC,false,())) (some (c,true,())))=some ((endT ZBO ZC s c).1,(endT ZBO ZC s c).2,()):=by
 unfold endT
 rw[fcI c h1]
 simp only[al_bind_some]
 by_cases h:ZBO c=s
 ·rw[ZAH h,al_if_pos ⟨h0,h⟩];rfl
 ·rw[ZAE h,al_if_neg (λk=>h k.2)];rfl
def ZXi(s:Str)(c:Cue)(h1:c.Name.length<=1048576):cond (!(decide (s=[]))) ((G80 (c,())).bind λx=>cond (!decide (x.1=s)) (some (ZC,false,())) (some (c,true,()))) (some (ZC,false,()))=some ((endT ZBO ZC s c).1,(endT ZBO ZC s c).2,()):=by
 unfold endT
 rw[fcS c h1]
 by_cases h0:s=[]
 ·rw[ZAH h0,al_if_neg (λh=>h.1 h0)];rfl
 ·rw[ZAE h0]
  simp only[ZAK,al_cond_true,al_bind_some]
  by_cases h:ZBO c=s
  ·rw[ZAH h,al_if_pos ⟨h0,h⟩];rfl
  ·rw[ZAE h,al_if_neg (λk=>h k.2)];rfl
def ZXj(s:Str):endT ZBO ZC s (ZFY (splC 32 s))=cueP s:=by
 rw[<-ZXS]
 unfold endT
 rfl
def ZXk(s:Str)(hs:s.length<=1048576):G245 (s,())=some ((cueP s).1,(cueP s).2,()):=by
 unfold G245 F245
 rw[ZHs s 32 hs,<-ZXj]
 simp only[al_bind_some]
 have hw: ∀i,(wAt (splC 32 s) i).length<=1048576:=λi=>Nat.le_trans ZC8 hs
 have hl:=ZGU 32 s
 have h1:1<=(splC 32 s).length:=List.length_pos_iff.mpr (ZCJ 32 s)
 generalize splC 32 s=w at hw hl h1
 have hm:=λi=>ZHt (wAt w i) (hw i)
 have hn:=λi=>ZFZ (wAt w i) (hw i)
 have hP: ∀i,i<=4->(w++([[],[],[],[]]:List Str))[i]?=some (wAt w i):=λi hi=>ZRS (m:=4) rfl h1 hi
 have r0: ∀K:Str->Option (Cue×Bool×Unit),rdL (w++([[],[],[],[]]:List Str)) 0 K=K (wAt w 0):=λK=>ZAF (i:=0) (hP 0 (by omega))
 have g0:((w++([[],[],[],[]]:List Str)))[(Int.toNat 0)]?=some (wAt w 0):=hP 0 (by omega)
 have r1: ∀K:Str->Option (Cue×Bool×Unit),rdL (w++([[],[],[],[]]:List Str)) 1 K=K (wAt w 1):=λK=>ZAF (i:=1) (hP 1 (by omega))
 have g1:((w++([[],[],[],[]]:List Str)))[(Int.toNat 1)]?=some (wAt w 1):=hP 1 (by omega)
 have r2: ∀K:Str->Option (Cue×Bool×Unit),rdL (w++([[],[],[],[]]:List Str)) 2 K=K (wAt w 2):=λK=>ZAF (i:=2) (hP 2 (by omega))
 have g2:((w++([[],[],[],[]]:List Str)))[(Int.toNat 2)]?=some (wAt w 2):=hP 2 (by omega)
 have r4: ∀K:Str->Option (Cue×Bool×Unit),rdL (w++([[],[],[],[]]:List Str)) 4 K=K (wAt w 4):=λK=>ZAF (i:=4) (hP 4 (by omega))
 have g4:((w++([[],[],[],[]]:List Str)))[(Int.toNat 4)]?=some (wAt w 4):=hP 4 (by omega)
 rw[ZAB (by simp only[al_len_cons,al_len_nil];omega)]
 simp only[r0,r1,r2,r4,g0,g1,g2,g4,al_bind_some,hm,hn]
 exact ZXi s (ZFY w) (hw 1)
def ZXl(s:Str)(hs:s.length<=1048576):G104 (s,())=some ((cueP s).1,(cueP s).2,()):=by
 unfold G104 F104
 rw[ZGd s 32 hs]
 simp only[al_bind_some]
 have hw: ∀i,(wAt (splC 32 s) i).length<=1048576:=λi=>Nat.le_trans ZC8 hs
 have hno: ¬cueC s->cueP s=(ZC,false):=λh=>by unfold cueP;rw[al_if_neg (λk=>h k.1)]
 have hyes:cueC s->cueP s=endT ZBO ZC s (ZCg (splC 32 s)):=λh=>by
  unfold cueP endT
  have h0:s≠[]:=λe=>by rw[e]at h;exact ZJb h
  by_cases k:ZBO (ZCg (splC 32 s))=s
  ·rw[al_if_pos ⟨h,k⟩,al_if_pos ⟨h0,k⟩]
  ·rw[al_if_neg (λq=>k q.2),al_if_neg (λq=>k q.2)]
 have hC:cueC s=(((splC 32 s).length=3\/(splC 32 s).length=5)/\(numP (wAt (splC 32 s) 0)).2=true/\(ZAg (wAt (splC 32 s) 2)).2=true/\((splC 32 s).length=5->(numP (wAt (splC 32 s) 4)).2=true)):=rfl
 have hne:cueC s->s≠[]:=λh e=>by rw[e]at h;exact ZJb h
 generalize splC 32 s=w at hw hyes hC
 have hm:=λi=>ZJd (wAt w i) (hw i)
 have hn:=λi=>ZGe (wAt w i) (hw i)
 by_cases l3:w.length=3
 ·have e3:decide ((Int.ofNat w.length)=3)=true:=ZAH (by rw[l3];rfl)
  have e5:decide ((Int.ofNat w.length)=5)=false:=ZAE (by rw[l3];decide)
  have hP: ∀i,i<3->w[i]?=some (wAt w i):=λi hi=>ZBh (by omega)
  have r0: ∀K:Str->Option (Cue×Bool×Unit),rdL w 0 K=K (wAt w 0):=λK=>ZAF (i:=0) (hP 0 (by omega))
  have g0:(w)[(Int.toNat 0)]?=some (wAt w 0):=hP 0 (by omega)
  have r1: ∀K:Str->Option (Cue×Bool×Unit),rdL w 1 K=K (wAt w 1):=λK=>ZAF (i:=1) (hP 1 (by omega))
  have g1:(w)[(Int.toNat 1)]?=some (wAt w 1):=hP 1 (by omega)
  have r2: ∀K:Str->Option (Cue×Bool×Unit),rdL w 2 K=K (wAt w 2):=λK=>ZAF (i:=2) (hP 2 (by omega))
  have g2:(w)[(Int.toNat 2)]?=some (wAt w 2):=hP 2 (by omega)
  simp only[e3,e5,ZAG,al_cond_true,al_cond_false,r0,r1,r2,g0,g1,g2,al_bind_some,hm,hn]
  cases c0:(numP (wAt w 0)).2
  ·rw[hno (λh=>by rw[hC,c0]at h;cases h.2.1)];rfl
  ·cases c2:(ZAg (wAt w 2)).2
   ·rw[hno (λh=>by rw[hC,c2]at h;cases h.2.2.1)];rfl
   ·have hk:cueC s:=by rw[hC];exact⟨.inl l3,c0,c2,λh=>by omega⟩
    simp only[ZAG,ZAK,al_cond_true]
    rw[hyes hk]
    have:ZCg w=⟨numV (wAt w 0),wAt w 1,ZBJ (wAt w 2),0⟩:=by unfold ZCg;rw[al_if_neg]
    rw[this]
    exact ZRT s ⟨numV (wAt w 0),wAt w 1,ZBJ (wAt w 2),0⟩ (hw 1) (hne hk)
 ·have e3:decide ((Int.ofNat w.length)=3)=false:=ZAE (by simp only[ZAT];omega)
  by_cases l5:w.length=5
  ·have e5:decide ((Int.ofNat w.length)=5)=true:=ZAH (by rw[l5];rfl)
   have hP: ∀i,i<5->w[i]?=some (wAt w i):=λi hi=>ZBh (by omega)
   have r0: ∀K:Str->Option (Cue×Bool×Unit),rdL w 0 K=K (wAt w 0):=λK=>ZAF (i:=0) (hP 0 (by omega))
   have g0:(w)[(Int.toNat 0)]?=some (wAt w 0):=hP 0 (by omega)
   have r1: ∀K:Str->Option (Cue×Bool×Unit),rdL w 1 K=K (wAt w 1):=λK=>ZAF (i:=1) (hP 1 (by omega))
   have g1:(w)[(Int.toNat 1)]?=some (wAt w 1):=hP 1 (by omega)
   have r2: ∀K:Str->Option (Cue×Bool×Unit),rdL w 2 K=K (wAt w 2):=λK=>ZAF (i:=2) (hP 2 (by omega))
   have g2:(w)[(Int.toNat 2)]?=some (wAt w 2):=hP 2 (by omega)
   have r4: ∀K:Str->Option (Cue×Bool×Unit),rdL w 4 K=K (wAt w 4):=λK=>ZAF (i:=4) (hP 4 (by omega))
   have g4:(w)[(Int.toNat 4)]?=some (wAt w 4):=hP 4 (by omega)
   simp only[e3,e5,ZA4,r0,r1,r2,r4,g0,g1,g2,g4,al_bind_some,hm,hn]
   cases c0:(numP (wAt w 0)).2
   ·rw[hno (λh=>by rw[hC,c0]at h;cases h.2.1)];rfl
   ·cases c2:(ZAg (wAt w 2)).2
    ·rw[hno (λh=>by rw[hC,c2]at h;cases h.2.2.1)];rfl
    ·cases c4:(numP (wAt w 4)).2
     ·rw[hno (λh=>by rw[hC,c4]at h;cases h.2.2.2 l5)];rfl
     ·have hk:cueC s:=by rw[hC];exact⟨.inr l5,c0,c2,λ_=>c4⟩
      simp only[ZAG,ZAK,al_cond_true]
      rw[hyes hk]
      have:ZCg w=⟨numV (wAt w 0),wAt w 1,ZBJ (wAt w 2),numV (wAt w 4)⟩:=by unfold ZCg;rw[al_if_pos l5]
      rw[this]
      exact ZRT s ⟨numV (wAt w 0),wAt w 1,ZBJ (wAt w 2),numV (wAt w 4)⟩ (hw 1) (hne hk)
  ·have e5:decide ((Int.ofNat w.length)=5)=false:=ZAE (by simp only[ZAT];omega)
   simp only[e3,e5,ZAK,al_cond_true]
   rw[hno (λh=>by rw[hC]at h;rcases h.1 with h | h<;>omega)]
end Ev
end
noncomputable section
namespace Ev
open Go
def ZBZ{α:Type}(l:List α)(k:Nat)(d:α):List α:=l.take k++d::l.drop k
theorem ZJg{α:Type}(l:List α)(k:Nat)(d:α):(ZBZ l k d).length=l.length+1:=by
 unfold ZBZ;simp;omega
theorem ZHu{α:Type}{l:List α}{k:Nat}{d x:α} :x∈ZBZ l k d↔x=d\/x∈l:=by
 unfold ZBZ
 rw[List.mem_append,List.mem_cons]
 constructor
 ·rintro (h | h | h)
  ·exact .inr (List.mem_of_mem_take h)
  ·exact .inl h
  ·exact .inr (List.mem_of_mem_drop h)
 ·rintro (h | h)
  ·exact .inr (.inl h)
  ·rw[<-List.take_append_drop k l,List.mem_append]at h
   rcases h with h | h
   ·exact .inl h
   ·exact .inr (.inr h)
theorem ZRU{α:Type}{l:List α}{k i:Nat}{d:α}(hk:k<=l.length)(h:i<k):(ZBZ l k d)[i]?=l[i]?:=by
 unfold ZBZ
 rw[List.getElem?_append_left (by simp;omega),List.getElem?_take_of_lt h]
theorem ZRV{α:Type}{l:List α}{k:Nat}{d:α}(hk:k<=l.length):(ZBZ l k d)[k]?=some d:=by
 unfold ZBZ
 rw[List.getElem?_append_right (by simp;omega)]
 have:k-(l.take k).length=0:=by simp;omega
 rw[this];rfl
theorem ZMZ{α:Type}{l:List α}{k i:Nat}{d:α}(hk:k<=l.length)(h:k<=i):(ZBZ l k d)[i+1]?=l[i]?:=by
 unfold ZBZ
 rw[List.getElem?_append_right (by simp;omega)]
 have:i+1-(l.take k).length=(i-k)+1:=by simp;omega
 rw[this,List.getElem?_cons_succ,List.getElem?_drop]
 congr 1;omega
theorem ZXm{α:Type}{l:List α}{k:Nat}{d:α}(P:α->α->Prop)(hk:k<=l.length)
  (h: ∀i a b,l[i]?=some a->l[i+1]?=some b->P a b) (h1: ∀i a,i+1=k->l[i]?=some a->P a d) (h2: ∀b,l[k]?=some b->P d b):
  ∀i a b,(ZBZ l k d)[i]?=some a->(ZBZ l k d)[i+1]?=some b->P a b:=by
 intro i a b ha hb
 rcases Nat.lt_trichotomy i k with hi | hi | hi
 ·rw[ZRU hk hi]at ha
  by_cases e:i+1=k
  ·subst e
   rw[ZRV hk]at hb
   cases hb
   exact h1 i a rfl ha
  ·rw[ZRU hk (by omega)]at hb
   exact h i a b ha hb
 ·subst hi
  rw[ZRV hk]at ha
  cases ha
  rw[ZMZ hk (Nat.le_refl _)]at hb
  exact h2 b hb
 ·obtain⟨j,rfl⟩: ∃j,i=j+1:=⟨i-1,by omega⟩
  rw[ZMZ hk (by omega)]at ha
  rw[ZMZ hk (by omega)]at hb
  exact h j a b ha hb
theorem ZRW{a b:Str}(h:Op.bytesLess b a=false)(hn:a≠b):Op.bytesLess a b=true:=by
 have:=ZGJ a b
 rw[h]at this
 simp only[ZAK,Bool.true_eq,Bool.or_eq_true,ZAX]at this
 rcases this with h | h
 ·exact h
 ·exact absurd h hn
theorem ZFb{α:Type}{l:List α}{i:Nat}{x:α}(h:l[i]?=some x):x∈l:=List.mem_iff_getElem?.mpr ⟨i,h⟩
theorem ZRX{l:List Device}(h:RigP l){k:Nat}{d x:Device}(hn: ∀e∈l,e.Name≠d.Name)(hx:ZBH l x=true):ZBH (ZBZ l k d) x=true:=by
 unfold ZBH at hx⊢
 rw[Bool.or_eq_true]at hx⊢
 rcases hx with hx | hx
 ·exact .inl hx
 ·right
  rw[ZAJ,ZAX,ZAX]at hx⊢
  rcases ZDk l x.Line with ⟨e,_⟩ | ⟨j,y,e,hy,hyn⟩
  ·omega
  rcases ZDk (ZBZ l k d) x.Line with ⟨e',hno⟩ | ⟨m,z,e',hz,hzn⟩
  ·exact absurd hyn (hno y (ZHu.2 (.inr (ZFb hy))))
  ·have hzy:z=y:=by
    rcases ZHu.1 (ZFb hz)with h1 | h1
    ·subst h1
     exact absurd (hyn.trans hzn.symm) (hn y (ZFb hy))
    ·obtain⟨p,hp⟩:=List.mem_iff_getElem?.mp h1
     have:=ZQF h hp hy (hzn.trans hyn.symm)
     subst this
     rw[hp]at hy;cases hy;rfl
   subst hzy
   refine⟨by omega,?_⟩
   have h2:=hx.2
   rw[e,ZAW]at h2
   rw[e',ZAW]
   unfold ZFN at h2⊢
   rw[hy]at h2
   rw[hz]
   exact h2
theorem ZXn{l:List Device}(h:RigP l){k:Nat}{d:Device}(hk:k<=l.length)(h8:l.length≠8)(hd:devB d=true)(hn: ∀e∈l,e.Name≠d.Name)(hh:ZBH l d=true)
  (h1: ∀(i:Nat) e,i<k->l[i]?=some e->Op.bytesLess d.Name e.Name=false) (h2: ∀e,l[k]?=some e->Op.bytesLess d.Name e.Name=true):RigP (ZBZ l k d):=by
 refine⟨?_,?_,?_,?_⟩
 ·have:=h.len
  rw[ZJg];omega
 ·intro x hx
  rcases ZHu.1 hx with rfl | hx
  ·exact hd
  ·exact h.dev x hx
 ·exact ZXm (λa b=>Op.bytesLess a.Name b.Name=true) hk h.lt (λi a hi ha=>ZRW (h1 i a (by omega) ha) (hn a (ZFb ha))) h2
 ·intro x hx
  rcases ZHu.1 hx with rfl | hx
  ·exact ZRX h hn hh
  ·exact ZRX h hn (h.hung x hx)
theorem ZMa{d:Device}(h:devB d=true):d.Name.length<=8/\d.Line.length<=8:=by
 have hk:=ZHd h
 unfold devB at h
 rw[ZAJ]at h
 refine⟨ZBP h.1,?_⟩
 have h2:=h.2
 rcases hk with k | k | k
 ·rw[al_if_pos k,ZAJ,ZAX]at h2
  rw[h2.1];simp
 ·rw[al_if_neg,al_if_pos k,ZAJ]at h2
  exact ZBP h2.1
 ·rw[al_if_neg,al_if_neg,al_if_pos k]at h2
  simp only[ZAJ]at h2
  exact ZBP (by first | exact h2.1 | exact h2.2.1 | exact h2.2.2.1 | exact h2.2.2.2.1 | exact h2.2.2.2.2.1 | exact h2.2.2.2.2.2.1)
theorem ZEs{l:List Device}(h:RigP l):ZCc l:=λd hd=>by
 have:=ZMa (h.dev d hd)
 omega
end Ev
namespace Ev
open Go
structure ScoreP(l:List Cue):Prop where
 len:l.length<=12
 cue: ∀c∈l,ZAz c=true
 lt: ∀i a b,l[i]?=some a->l[i+1]?=some b->cmpC a b<0
theorem ZRY(a b:Int):(a<b/\cmpI a b= -1)\/(a=b/\cmpI a b=0)\/(b<a/\cmpI a b=1):=by
 unfold cmpI
 by_cases h:a<b
 ·rw[al_if_pos h];exact .inl ⟨h,rfl⟩
 ·by_cases h2:a>b
  ·rw[al_if_neg h,al_if_pos h2];exact .inr (.inr ⟨h2,rfl⟩)
  ·rw[al_if_neg h,al_if_neg h2];exact .inr (.inl ⟨by omega,rfl⟩)
theorem ZJh(a b:Str):(Op.bytesLess a b=true/\cmpS a b= -1)\/(a=b/\cmpS a b=0)\/(Op.bytesLess b a=true/\cmpS a b=1):=by
 unfold cmpS
 by_cases h:Op.bytesLess a b=true
 ·rw[al_if_pos h];exact .inl ⟨h,rfl⟩
 ·by_cases h2:a=b
  ·rw[al_if_neg h,al_if_pos h2];exact .inr (.inl ⟨h2,rfl⟩)
  ·rw[al_if_neg h,al_if_neg h2];exact .inr (.inr ⟨ZRW (by simpa using h) (λe=>h2 e.symm),rfl⟩)
end Ev
namespace Ev
open Go
theorem ZRZ{α:Type}(l:List α)(p:Nat->Bool)(q:Nat->α->Prop)(h: ∀i x,l[i]?=some x->(p i=true↔q i x)):(List.range l.length).all p=true↔ ∀i x,l[i]?=some x->q i x:=by
 rw[List.all_eq_true]
 constructor
 ·intro k i x hx
  exact(h i x hx).1 (k i (by simpa using (al_get_iff.mp hx).1))
 ·intro k i hi
  have hi:i<l.length:=by simpa using hi
  have hx:l[i]?=some l[i]:=by simp
  exact(h i _ hx).2 (k i _ hx)
def scAt(l:List Cue)(i:Nat):Bool:=match l[i]? with
 | some c=>ZAz c && (decide (i=0) || (match l[i-1]? with | some b=>decide (cmpC b c<0) | none=>true))
 | none=>true
theorem ZXo(l:List Cue)(hn:ZCS l)(hl:l.length<=1048576):G119 (l,())=some ((List.range l.length).all (scAt l) && decide (l.length<=12),()):=by
 unfold G119 F119
 refine(ZDi (f:=s119_0 G199 G201) (K:=λt6=>some ((decide ((Int.ofNat (List.length t6.1))<=12)),())) (λi=>(l,l,Int.ofNat l.length,(i:Int),())) (scAt l) (some (false,())) l.length (by omega) ?_ ?_).trans ?_
 ·intro i hi rec K
  have hx:l[i]?=some l[i]:=by simp
  have e1:w64 ((i:Int)+1)=((i+1:Nat):Int):=ZAC
  have hc:G199 (l[i],())=some (ZAz l[i],()):=cueI _ (hn _ (by simp))
  unfold scAt
  rw[hx]
  simp only[s119_0]
  rw[ZA,ZAF hx,hc,e1]
  simp only[al_bind_some,Bool.not_not]
  cases ZAz l[i]
  ·rfl
  ·simp only[al_cond_true,Bool.true_and]
   by_cases hz:i=0
   ·subst hz;rfl
   ·obtain⟨j,rfl⟩: ∃j,i=j+1:=⟨i-1,by omega⟩
    have hy:l[j]?=some l[j]:=by simp
    have e2:w64 (((j+1:Nat):Int) -1)=(j:Int):=by rw[ZAC];omega
    have hcc:G201 (l[j],l[j+1],())=some (cmpC l[j] l[j+1],()):=ZHa _ _
    rw[ZA,e2,ZAF hy,hcc,ZAE hz,Nat.add_sub_cancel,hy]
    simp only[al_bind_some,Bool.false_or]
    by_cases hlt:cmpC l[j] l[j+1]<0
    ·rw[ZAA,ZA hlt]
    ·rw[ZA,ZAA hlt]
 ·intro rec K
  simp only[s119_0]
  rw[ZAA]
 ·cases (List.range l.length).all (scAt l)
  ·rfl
  ·simp;omega
theorem ZHv{l:List Cue}(hn:ZCS l)(hl:l.length<=1048576):scB l=true↔ScoreP l:=by
 unfold scB
 rw[ZXo l hn hl]
 simp only[Option.map_some,Option.getD_some,ZAJ,ZAX]
 rw[ZRZ l (scAt l) (λi c=>ZAz c=true/\(i=0\/ ∀b,l[i-1]?=some b->cmpC b c<0)) (λi c hc=>by
  unfold scAt
  rw[hc,ZAJ,Bool.or_eq_true,ZAX]
  cases hb:l[i-1]? with
  | none=>simp
  | some b=>simp)]
 constructor
 ·rintro ⟨h1,h2⟩
  refine⟨h2,λc hc=> ?_,λi a b ha hb=> ?_⟩
  ·obtain⟨i,hi⟩:=List.mem_iff_getElem?.mp hc
   exact(h1 i c hi).1
  ·rcases (h1 (i+1) b hb).2 with h | h
   ·omega
   ·exact h a (by rw[Nat.add_sub_cancel];exact ha)
 ·rintro ⟨h1,h2,h3⟩
  refine⟨λi c hc=>⟨h2 c (ZFb hc),?_⟩,h1⟩
  by_cases hz:i=0
  ·exact .inl hz
  ·right
   intro b hb
   obtain⟨j,rfl⟩: ∃j,i=j+1:=⟨i-1,by omega⟩
   rw[Nat.add_sub_cancel]at hb
   exact h3 j b c hb hc
theorem ZRa{l:List Cue}(h:ScoreP l):ZCS l:=λc hc=>by
 have:=h.cue c hc
 unfold ZAz at this
 simp only[ZAJ]at this
 have:=ZBP this.2.1
 omega
structure WindP(l:List Gust):Prop where
 len:l.length<=8
 gust: ∀g∈l,(0<=g.From/\g.From<=64)/\isDr g.Drift=true
 lt: ∀i a b,l[i]?=some a->l[i+1]?=some b->a.From<b.From
def wdAt(l:List Gust)(i:Nat):Bool:=match l[i]? with
 | some c=>wi c.From 0 64 && (isDr c.Drift && (decide (i=0) || (match l[i-1]? with | some b=>decide (b.From<c.From) | none=>true)))
 | none=>true
theorem ZXp(l:List Gust)(hl:l.length<=1048576):G120 (l,())=some ((List.range l.length).all (wdAt l) && decide (l.length<=8),()):=by
 unfold G120 F120
 refine(ZDi (f:=s120_0 G121 G122) (K:=λt6=>some ((decide ((Int.ofNat (List.length t6.1))<=8)),())) (λi=>(l,l,Int.ofNat l.length,(i:Int),())) (wdAt l) (some (false,())) l.length (by omega) ?_ ?_).trans ?_
 ·intro i hi rec K
  have hx:l[i]?=some l[i]:=by simp
  have e1:w64 ((i:Int)+1)=((i+1:Nat):Int):=ZAC
  have hc:G121 (l[i].From,0,64,())=some (wi l[i].From 0 64,()):=ZA9 _ _ _
  have hd:G122 (l[i].Drift,())=some (isDr l[i].Drift,()):=drI _
  unfold wdAt
  rw[hx]
  simp only[s120_0]
  rw[ZA,ZAF hx,hc,e1]
  simp only[al_bind_some,Bool.not_not]
  cases wi l[i].From 0 64
  ·rfl
  ·simp only[al_cond_true,Bool.true_and,hd,al_bind_some]
   cases isDr l[i].Drift
   ·rfl
   ·simp only[al_cond_true,Bool.true_and,ZAG,ZAK]
    by_cases hz:i=0
    ·subst hz;rfl
    ·obtain⟨j,rfl⟩: ∃j,i=j+1:=⟨i-1,by omega⟩
     have hy:l[j]?=some l[j]:=by simp
     have e2:w64 (((j+1:Nat):Int) -1)=(j:Int):=by rw[ZAC];omega
     rw[ZA,e2,ZAF hy,ZAE hz,Nat.add_sub_cancel,hy]
     simp only[Bool.false_or]
     by_cases hlt:l[j].From<l[j+1].From
     ·rw[ZAA,ZA hlt]
     ·rw[ZA,ZAA hlt]
 ·intro rec K
  simp only[s120_0]
  rw[ZAA]
 ·cases (List.range l.length).all (wdAt l)
  ·rfl
  ·simp;omega
theorem ZFc{l:List Gust}(hl:l.length<=1048576):wdB l=true↔WindP l:=by
 unfold wdB
 rw[ZXp l hl]
 simp only[Option.map_some,Option.getD_some,ZAJ,ZAX]
 rw[ZRZ l (wdAt l) (λi c=>((0<=c.From/\c.From<=64)/\isDr c.Drift=true)/\(i=0\/ ∀b,l[i-1]?=some b->b.From<c.From)) (λi c hc=>by
  unfold wdAt
  rw[hc,ZAJ,ZAJ,Bool.or_eq_true,ZAX,ZAj,and_assoc]
  cases hb:l[i-1]? with
  | none=>simp[and_assoc]
  | some b=>simp[and_assoc])]
 constructor
 ·rintro ⟨h1,h2⟩
  refine⟨h2,λc hc=> ?_,λi a b ha hb=> ?_⟩
  ·obtain⟨i,hi⟩:=List.mem_iff_getElem?.mp hc
   exact(h1 i c hi).1
  ·rcases (h1 (i+1) b hb).2 with h | h
   ·omega
   ·exact h a (by rw[Nat.add_sub_cancel];exact ha)
 ·rintro ⟨h1,h2,h3⟩
  refine⟨λi c hc=>⟨h2 c (ZFb hc),?_⟩,h1⟩
  by_cases hz:i=0
  ·exact .inl hz
  ·right
   intro b hb
   obtain⟨j,rfl⟩: ∃j,i=j+1:=⟨i-1,by omega⟩
   rw[Nat.add_sub_cancel]at hb
   exact h3 j b c hb hc
end Ev
namespace Ev
open Go
section
variable {s:ZAM} (h:ShowV s) {t:Int}
include h
theorem ZFd:ScoreP s.2.1:=(ZHv h.ok.names h.ok.score).1 h.score
theorem ZEt:WindP s.2.2.1:=(ZFc h.ok.wind).1 h.wind
end
end Ev
end
noncomputable section
namespace Ev
open Go
def addB(l:List Device)(d:Device):Bool:=rigB l && (devB d && (!decide (0<=fnd l d.Name) && (!decide (8<=l.length) && ZBH l d)))
def addD(l:List Device)(d:Device):List Device:=if addB l d=true then insL l (lowN d.Name l) d else l
def ZXq(l:List Device)(hl:l.length<=1048576)(hn:ZCc l)(d:Device)(h1:d.Name.length<=1048576)(h2:d.Line.length<=1048576):G102 (l,d,())=some (addD l d,addB l d,()):=by
 unfold G102
 simp only
 rw[al_if_pos hl]
 have hb:ZHQ l d=some (addB l d):=by
  unfold ZHQ addB
  rw[ZDl l hl hn,show G192 (d,())=some (devB d,())from(ZC1 d h1 h2).2,ZLm l hl]
  simp only[al_bind_some]
  cases rigB l
  ·rfl
  ·cases hd:devB d
   ·rfl
   ·rw[ZLn l hl d (ZHd hd)]
    simp only[al_bind_some,ZAG,al_cond_false,Bool.true_and]
    by_cases c1:0<=fnd l d.Name
    ·rw[ZAH c1];rfl
    ·rw[ZAE c1]
     by_cases c2:8<=l.length
     ·rw[ZAH c2];rfl
     ·rw[ZAE c2];rfl
 rw[hb]
 simp only[al_bind_some]
 rfl
def ZJi(l:List Device)(hl:l.length<=1048576):G228 (l,())=some (l,()):=by
 unfold G228 F228
 rw[ZAB];rfl
def ZMb(s:Str): ∀(l:List Device),(∀j,j<lowN s l-> ∀x,l[j]?=some x->Op.bytesLess x.Name s=true)/\(∀x,l[lowN s l]?=some x->Op.bytesLess x.Name s=false)
 | []=>by simp[lowN]
 | x::r=>by
  obtain⟨h1,h2⟩:=ZMb s r
  unfold lowN
  cases hb:Op.bytesLess x.Name s
  ·rw[al_if_neg (by simp)]
   exact⟨λj hj=>absurd hj (Nat.not_lt_zero _),λy hy=>by simp at hy;subst hy;exact hb⟩
  ·rw[al_if_pos rfl]
   refine⟨λj hj y hy=> ?_,λy hy=>h2 y (by simpa using hy)⟩
   cases j with
   | zero=>simp at hy;subst hy;exact hb
   | succ j=>exact h1 j (by omega) y (by simpa using hy)
def ZCq(l:List Device)(n:Nat)(d:Device)(i:Nat):List Device:=if n<i then insL (l.take i) n d else l.take i
def ZXr(l:List Device)(n:Nat)(d:Device)(i:Nat)(hi:i<=l.length):(ZCq l n d i).length<=i+1:=by
 unfold ZCq
 split
 ·rw[ZDQ _ _ _ (by rw[al_len_take];omega),al_len_take];omega
 ·rw[al_len_take];omega
def ZXs(l:List Device)(hl:l.length<=1048576)(hn:ZCc l)(d:Device)(h1:d.Name.length<=1048576)(h2:d.Line.length<=1048576):G167 (l,d,())=some (addD l d,addB l d,()):=by
 unfold G167 F167 addD addB
 rw[ZEh l hl hn,show G169 (d,())=some (devB d,())from(ZC1 d h1 h2).1,ZJ l hl]
 simp only[al_bind_some,ZJi l hl]
 cases hr:rigB l
 ·rfl
 ·cases hd:devB d
  ·rfl
  ·rw[ZQE l hl d (ZHd hd)]
   have R:=(ZDS l).1 hr
   have hlen:=R.len
   simp only[al_bind_some,ZA4,Bool.true_and]
   by_cases c1:0<=fnd l d.Name
   ·rw[ZAH c1];rfl
   ·rw[ZAE c1]
    by_cases c2:8<=l.length
    ·rw[ZAH c2,ZAH (show(Int.ofNat l.length)=8 by simp only[ZAT];omega)];rfl
    ·rw[ZAE c2,ZAE (show¬(Int.ofNat l.length)=8 by simp only[ZAT];omega)]
     simp only[ZAK,al_cond_true,Bool.true_and]
     cases hh:ZBH l d
     ·rfl
     ·simp only[ZAG,al_cond_false,if_true]
      have hno: ∀x∈l,x.Name≠d.Name:=by
       rcases ZDk l d.Name with ⟨_,h⟩ | ⟨k,x,e,_⟩
       ·exact h
       ·omega
      obtain⟨q1,q2⟩:=ZMb d.Name l
      have qn:=ZLM d.Name l
      generalize lowN d.Name l=n at q1 q2 qn
      have run:=ZAU (f:=s167_0 G230 G169 G265 G266 G228)
       (K:=λx5=>cond (!x5.2.2.1) (capK (List.length x5.2.1+List.length ([x5.1]:List Device)) (some ((x5.2.1++([x5.1]:List Device)),true,()))) (some (x5.2.1,true,())))
       (λi=>(d,ZCq l n d i,decide (n<i),l,Int.ofNat l.length,(i:Int),())) l.length (by omega)
       (by
        intro i hi rec K
        have hx:l[i]?=some l[i]:=by simp
        have w1:w64 ((i:Int)+1)=((i+1:Nat):Int):=ZAC
        have hlo:=ZXr l n d i (by omega)
        have e:=ZBq l i hi
        simp only[s167_0,ZAF hx,w1]
        rw[ZA]
        by_cases hni:n<i
        ·rw[ZAH hni,ZAH (show n<i+1 by omega)]
         simp only[ZAG,al_cond_false]
         rw[ZAB (by simp only[al_len_cons,al_len_nil];omega)]
         congr 2
         unfold ZCq
         rw[al_if_pos hni,al_if_pos,e]
         unfold insL
         have hlt:n<=(l.take i).length:=by rw[al_len_take];omega
         rw[List.take_append_of_le_length hlt,List.drop_append_of_le_length hlt]
         simp
        ·rw[ZAE hni]
         simp only[ZAK,al_cond_true]
         have ho:ZCq l n d i=l.take i:=by unfold ZCq;rw[al_if_neg hni]
         rw[ho]
         by_cases hin:i=n
         ·subst hin
          have hb:=q2 _ hx
          have hne:=hno l[i] (by simp)
          rw[hb,ZAE hne,ZAH (show i<i+1 by omega)]
          simp only[Bool.false_or,ZAK,al_cond_true]
          rw[ZAB,ZAB]
          congr 2
          unfold ZCq
          rw[al_if_pos,e]
          unfold insL
          have hlt:(l.take i).length=i:=by rw[al_len_take];omega
          rw[List.take_left' hlt,List.drop_left' hlt]
          simp
         ·have hb:=q1 i (by omega) _ hx
          rw[hb,ZAE (show¬n<i+1 by omega)]
          simp only[Bool.true_or,ZAG,al_cond_false]
          rw[ZAB]
          congr 2
          unfold ZCq
          rw[al_if_neg,e])
       (by
        intro rec K
        simp only[s167_0]
        rw[ZAA])
      have h0:ZCq l n d 0=[]:=by unfold ZCq;rw[al_if_neg];rfl
      have hd0:decide (n<0)=false:=ZAE (by omega)
      rw[h0,hd0]at run
      refine run.trans ?_
      simp only
      by_cases hnl:n<l.length
      ·rw[ZAH hnl]
       simp only[ZAG,al_cond_false]
       unfold ZCq
       rw[al_if_pos hnl,List.take_length]
      ·have:n=l.length:=by omega
       subst this
       rw[ZAE hnl]
       simp only[ZAK,al_cond_true]
       have ho:ZCq l l.length d l.length=l:=by unfold ZCq;rw[al_if_neg,List.take_length]
       rw[ho,ZAB]
       unfold insL
       rw[List.take_length,List.drop_length]
def onF(s:Str)(o:List Str)(d:Device):List Str:=if d.Line=s then o++[d.Name]else o
def ZMc(s:Str): ∀(l:List Device) (o:List Str),(l.foldl (onF s) o).length<=o.length+l.length
 | [],o=>Nat.le_refl _
 | d::l,o=>by
  rw[List.foldl_cons]
  have:=ZMc s l (onF s o d)
  have h2:(onF s o d).length<=o.length+1:=by unfold onF;split<;>simp
  simp only[al_len_cons];omega
def onL(l:List Device)(s:Str):List Str:=if rigB l=true/\s≠[]then l.foldl (onF s) []else []
def ZXt(l:List Device)(hl:l.length<=1048576)(hn:ZCc l)(s:Str):G196 (l,s,())=some (onL l s,()):=by
 unfold G196 F196 onL
 rw[ZDl l hl hn]
 simp only[al_bind_some]
 cases hr:rigB l
 ·rfl
 ·simp only[ZAG,ZAK,al_cond_true]
  by_cases hs:s=[]
  ·rw[ZAH hs,al_if_neg (λh=>h.2 hs)];rfl
  ·rw[ZAE hs,al_if_pos ⟨trivial,hs⟩,al_cond_false]
   refine(ZAU (f:=s196_0 G118) (K:=λx2=>some (x2.2.1,())) (λi=>(s,(l.take i).foldl (onF s) [],l,Int.ofNat l.length,(i:Int),())) l.length (by omega) ?_ ?_).trans (by rw[List.take_length])
   ·intro i hi rec K
    have hx:l[i]?=some l[i]:=by simp
    have w1:w64 ((i:Int)+1)=((i+1:Nat):Int):=ZAC
    have hlo:=ZMc s (l.take i) []
    rw[al_len_take]at hlo
    simp only[al_len_nil]at hlo
    rw[ZBq l i hi,List.foldl_append,List.foldl_cons,List.foldl_nil]
    generalize (l.take i).foldl (onF s) []=o at hlo
    simp only[s196_0,ZAF hx,w1]
    rw[ZA]
    unfold onF
    by_cases h:l[i].Line=s
    ·rw[ZAH h,al_if_pos h,al_cond_true,ZAB]
    ·rw[ZAE h,al_if_neg h,al_cond_false]
   ·intro rec K
    simp only[s196_0]
    rw[ZAA]
def ZXu(l:List Device)(hl:l.length<=1048576)(hn:ZCc l)(s:Str):G321 (l,s,())=some (onL l s,()):=by
 unfold G321 F321
 have hr:=ZEh l hl hn
 have h0:(if rigB l=true/\s≠[]then(l.take 0).foldl (onF s) []else([]:List Str))=[]:=by split<;>rfl
 have run:ZAD (s321_0 G230) fuel (l,s,(if rigB l=true/\s≠[]then(l.take 0).foldl (onF s) []else []),l,Int.ofNat l.length,((0:Nat):Int),()) (λx1=>some (x1.2.2.1,()))=some ((if rigB l=true/\s≠[]then(l.take l.length).foldl (onF s) []else []),()):=by
  refine ZAU (f:=s321_0 G230) (K:=λx1=>some (x1.2.2.1,())) (λi=>(l,s,(if rigB l=true/\s≠[]then(l.take i).foldl (onF s) []else []),l,Int.ofNat l.length,(i:Int),())) l.length (by omega) ?_ ?_
  ·intro i hi rec K
   have hx:l[i]?=some l[i]:=by simp
   have w1:w64 ((i:Int)+1)=((i+1:Nat):Int):=ZAC
   have hlo:=ZMc s (l.take i) []
   rw[al_len_take]at hlo
   simp only[al_len_nil]at hlo
   rw[ZBq l i hi,List.foldl_append,List.foldl_cons,List.foldl_nil]
   generalize (l.take i).foldl (onF s) []=o at hlo
   simp only[s321_0,ZAF hx,w1,hr,al_bind_some]
   rw[ZA]
   cases rigB l
   ·simp
   ·by_cases hs:s=[]
    ·simp[hs]
    ·have hd:(!decide (s=[]))=true:=by simp[hs]
     simp only[al_cond_true,hd]
     rw[al_if_pos ⟨by simp,hs⟩,al_if_pos ⟨by simp,hs⟩]
     unfold onF
     by_cases h:l[i].Line=s
     ·rw[ZAH h,al_if_pos h,al_cond_true,ZAB,al_if_pos ⟨trivial,hs⟩]
     ·rw[ZAE h,al_if_neg h,al_cond_false,al_if_pos ⟨trivial,hs⟩]
  ·intro rec K
   simp only[s321_0]
   rw[ZAA]
 rw[h0,List.take_length]at run
 exact run
def remB(l:List Device)(s:Str):Bool:=rigB l && (!decide (fnd l s<0) && !decide (0<(onL l s).length))
def remD(l:List Device)(s:Str):List Device:=if remB l s=true then delL l (fnd l s).toNat else l
def ZMd(l:List Device)(s:Str)(h: ¬fnd l s<0):(fnd l s).toNat<l.length/\fnd l s=((fnd l s).toNat:Int):=by
 rcases ZDk l s with ⟨e,_⟩ | ⟨k,x,e,hk,_⟩
 ·omega
 ·have:=(al_get_iff.mp hk).1
  omega
def ZXv(l:List Device)(hl:l.length<=1048576)(hn:ZCc l)(s:Str):G103 (l,s,())=some (remD l s,remB l s,()):=by
 unfold G103
 simp only
 rw[al_if_pos hl]
 have hb:ZHR l s=some (fnd l s,remB l s):=by
  unfold ZHR remB
  rw[ZDl l hl hn,ZLm l hl,ZXt l hl hn]
  simp only[al_bind_some]
  cases rigB l
  ·rfl
  ·simp only[ZAG,al_cond_false,Bool.true_and]
   by_cases c1:fnd l s<0
   ·rw[ZAH c1];rfl
   ·rw[ZAE c1];rfl
 rw[hb]
 simp only[al_bind_some]
 rw[al_if_pos (λh=>by
  unfold remB at h
  simp only[ZAJ,Bool.not_eq_true',decide_eq_false_iff_not]at h
  exact(ZMd l s h.2.1).1)]
 rfl
def ZXw(l:List Device)(hl:l.length<=1048576)(hn:ZCc l)(s:Str):G244 (l,s,())=some (remD l s,remB l s,()):=by
 unfold G244 F244 remD remB
 rw[ZEh l hl hn,ZJ l hl,ZXu l hl hn]
 simp only[al_bind_some,ZJi l hl]
 cases rigB l
 ·rfl
 ·simp only[ZAG,ZAK,al_cond_true,Bool.true_and]
  by_cases c1:fnd l s<0
  ·rw[ZAH c1];rfl
  ·rw[ZAE c1]
   simp only[ZAK,al_cond_true,Bool.true_and]
   by_cases c2:0<(onL l s).length
   ·rw[ZAH c2,ZA (by simp only[ZAT];omega)];rfl
   ·rw[ZAE c2,ZAA (by simp only[ZAT];omega)]
    obtain⟨a1,a2⟩:=ZMd l s c1
    generalize (fnd l s).toNat=n at a1 a2
    rw[a2]
    have w1:w64 ((n:Int)+1)=((n+1:Nat):Int):=ZAC
    rw[ZBT ⟨by omega,by omega⟩,w1]
    simp only[ZAW]
    rw[ZJi _ (by rw[al_len_take];omega)]
    simp only[al_bind_some]
    rw[ZBT ⟨by omega,by omega⟩,ZAB]
    rfl
end Ev
end
noncomputable section
namespace Ev
open Go
def dAt(was:Place):List Gust->Int->Place
 | [],_=>was
 | g::r,t=>if g.From<=t then dAt g.Drift r t else dAt was r t
def chgL(was:Place):List Gust->List Gust
 | []=>[]
 | g::r=>if g.Drift=was then chgL was r else g::chgL g.Drift r
def ZDo(was:Place)(k:Int):List Place->List Gust
 | []=>[]
 | p::r=>if p=was then ZDo was (k+1) r else⟨k,p⟩::ZDo p (k+1) r
def Inc(k:Int):List Gust->Prop
 | []=>True
 | g::r=>k<=g.From/\Inc (g.From+1) r
def Inc.mono{k m:Int} : ∀ {w:List Gust},Inc m w->k<=m->Inc k w
 | [],_,_=>trivial
 | g::r,h,hk=>⟨Int.le_trans hk h.1,h.2⟩
def ZMe: ∀ {w:List Gust} {was:Place} {t:Int},Inc (t+1) w->dAt was w t=was
 | [],_,_,_=>rfl
 | g::r,was,t,h=>by
  unfold dAt
  rw[al_if_neg (by have:=h.1;omega),ZMe (h.2.mono (by have:=h.1;omega))]
def ZRb: ∀(n:Nat) (k:Int) (was:Place) (w:List Gust),Inc k w->(∀g∈w,g.From<k+n)->ZDo was k ((List.range n).map λi:Nat=>dAt was w (k+(i:Int)))=chgL was w
 | 0,k,was,w,h,hb=>by
  cases w with
  | nil=>rfl
  | cons g r=>have:=hb g (by simp);have:=h.1;omega
 | n+1,k,was,w,h,hb=>by
  have ih:=ZRb n (k+1)
  rw[List.range_succ_eq_map,List.map_cons,List.map_map]
  have hfun: ∀(was':Place) (w':List Gust),((λi:Nat=>dAt was' w' (k+(i:Int)))∘Nat.succ)=λi:Nat=>dAt was' w' (k+1+(i:Int)):=by
   intro was' w'
   funext i
   show dAt was' w' (k+((i+1:Nat):Int))=_
   congr 1;omega
  rw[hfun]
  have e0:k+((0:Nat):Int)=k:=by omega
  unfold ZDo
  rw[e0]
  cases w with
  | nil=>
   rw[show dAt was [] k=was from rfl,al_if_pos rfl]
   exact ih was [] trivial (by simp)
  | cons g r=>
   by_cases hg:g.From=k
   ·have h1:dAt was (g::r) k=g.Drift:=by
     unfold dAt
     rw[al_if_pos,ZMe (h.2.mono (by omega))]
    have h2:(λi:Nat=>dAt was (g::r) (k+1+(i:Int)))=λi:Nat=>dAt g.Drift r (k+1+(i:Int)):=by
     funext i
     show(if g.From<=k+1+(i:Int)then dAt g.Drift r (k+1+(i:Int))else dAt was r (k+1+(i:Int)))=_
     rw[al_if_pos]
    have h3:Inc (k+1) r:=h.2.mono (by omega)
    have h4: ∀x∈r,x.From<k+1+n:=λx hx=>by have:=hb x (by simp[hx]);omega
    rw[h1,h2]
    unfold chgL
    by_cases hd:g.Drift=was
    ·rw[al_if_pos hd,al_if_pos hd,hd]
     exact ih was r h3 h4
    ·rw[al_if_neg hd,al_if_neg hd,ih g.Drift r h3 h4,<-hg]
   ·have h1:Inc (k+1) (g::r):=⟨by have:=h.1;omega,h.2⟩
    rw[ZMe h1,al_if_pos rfl]
    exact ih was (g::r) h1 λx hx=>by have:=hb x hx;omega
def ZMf: ∀ {w:List Gust} {k t:Int} {p:Place},Inc k w->k<=t->Inc k ((w.filter λg=>decide (g.From<t))++[⟨t,p⟩])
 | [],k,t,p,_,hk=>⟨hk,trivial⟩
 | g::r,k,t,p,h,hk=>by
  by_cases hg:g.From<t
  ·rw[List.filter_cons_of_pos (by simpa using hg)]
   exact⟨h.1,ZMf h.2 (by omega)⟩
  ·rw[List.filter_cons_of_neg (by simpa using hg)]
   exact ZMf (h.2.mono (by have:=h.1;omega)) hk
def ZRc: ∀ {w:List Gust} {k t:Int} {p was:Place} (i:Int),Inc k w->dAt was ((w.filter λg=>decide (g.From<t))++[⟨t,p⟩]) i=if t<=i then p else dAt was w i
 | [],k,t,p,was,i,_=>by
  show dAt was [⟨t,p⟩] i=_
  unfold dAt
  rfl
 | g::r,k,t,p,was,i,h=>by
  have ih:=λwas=>ZRc (w:=r) (t:=t) (p:=p) (was:=was) i h.2
  by_cases hg:g.From<t
  ·rw[List.filter_cons_of_pos (by simpa using hg)]
   show(if g.From<=i then dAt g.Drift ((r.filter λg=>decide (g.From<t))++[⟨t,p⟩]) i else dAt was ((r.filter λg=>decide (g.From<t))++[⟨t,p⟩]) i)=_
   rw[ih,ih]
   by_cases ht:t<=i
   ·simp only[al_if_pos ht]
    split<;>rfl
   ·simp only[al_if_neg ht]
    rfl
  ·rw[List.filter_cons_of_neg (by simpa using hg),ih]
   by_cases ht:t<=i
   ·simp only[al_if_pos ht]
   ·simp only[al_if_neg ht]
    show _=(if g.From<=i then dAt g.Drift r i else dAt was r i)
    rw[al_if_neg]
def ZXx{w:List Gust}{t:Int}{p:Place}(h:Inc 0 w)(h0:0<=t)(h1:t<=64):ZDo ⟨0,0⟩ 0 ((List.range 65).map λi:Nat=>if t<=(i:Int)then p else dAt ⟨0,0⟩ w (i:Int))=chgL ⟨0,0⟩ ((w.filter λg=>decide (g.From<t))++[⟨t,p⟩]):=by
 rw[<-ZRb 65 0 ⟨0,0⟩ _ (ZMf h h0) λg hg=>by
  rcases List.mem_append.mp hg with hg | hg
  ·have:=(List.mem_filter.mp hg).2
   simp only[ZAX]at this
   omega
  ·obtain rfl:=List.mem_singleton.mp hg
   show t<_
   omega]
 congr 1
 refine List.map_congr_left λi _=> ?_
 rw[ZRc (k:=0) _ h]
 congr 1
 ·simp
 ·simp
end Ev
end
noncomputable section
namespace Ev
open Go
def ZMg{a b:Cue} :cmpC a b<0↔a.Tick<b.Tick\/a.Tick=b.Tick/\Op.bytesLess a.Name b.Name=true:=by
 unfold cmpC
 rcases ZRY a.Tick b.Tick with ⟨h,e⟩ | ⟨h,e⟩ | ⟨h,e⟩
 ·rw[e,al_if_neg];simp[h]
 ·rw[e,al_if_pos rfl]
  rcases ZJh a.Name b.Name with ⟨k,f⟩ | ⟨k,f⟩ | ⟨k,f⟩
  ·rw[f];simp[h,k]
  ·rw[f,k];simp[h,ZGK]
  ·rw[f]
   have:Op.bytesLess a.Name b.Name=false:=by
    cases hb:Op.bytesLess a.Name b.Name
    ·rfl
    ·have:=ZHc _ _ _ k hb
     rw[ZGK]at this;cases this
   simp[h,this]
 ·rw[e,al_if_neg]
  constructor
  ·intro h';omega
  ·rintro (h' | ⟨h',_⟩)<;>omega
def ZMh{a b:Cue} :cmpC a b=0↔a.Tick=b.Tick/\a.Name=b.Name:=by
 unfold cmpC
 rcases ZRY a.Tick b.Tick with ⟨h,e⟩ | ⟨h,e⟩ | ⟨h,e⟩
 ·rw[e,al_if_neg]
  constructor
  ·intro h';omega
  ·rintro ⟨h',_⟩;omega
 ·rw[e,al_if_pos rfl]
  rcases ZJh a.Name b.Name with ⟨k,f⟩ | ⟨k,f⟩ | ⟨k,f⟩
  ·rw[f];simp[h];exact ZI9 k
  ·rw[f];simp[h,k]
  ·rw[f];simp[h];exact λe=>ZI9 k e.symm
 ·rw[e,al_if_neg]
  constructor
  ·intro h';omega
  ·rintro ⟨h',_⟩;omega
def ZRd{a b c:Cue}(h1:cmpC a b<0)(h2:cmpC b c<0):cmpC a c<0:=by
 rw[ZMg]at*
 rcases h1 with h1 | ⟨h1,k1⟩
 ·rcases h2 with h2 | ⟨h2,_⟩
  ·left;omega
  ·left;omega
 ·rcases h2 with h2 | ⟨h2,k2⟩
  ·left;omega
  ·right;exact⟨by omega,ZHc _ _ _ k1 k2⟩
def ZMi{l:List Cue}(h:ScoreP l): ∀(k i:Nat) (a b:Cue),l[i]?=some a->l[i+k+1]?=some b->cmpC a b<0
 | 0,i,a,b,ha,hb=>h.lt i a b ha hb
 | k+1,i,a,b,ha,hb=>by
  have hi:i+k+1<l.length:=by have:=(al_get_iff.mp hb).1;omega
  have hm:l[i+k+1]?=some l[i+k+1]:=by simp[hi]
  exact ZRd (ZMi h k i a _ ha hm) (h.lt (i+k+1) _ b hm (by rw[show i+k+1+1=i+(k+1)+1 by omega];exact hb))
def lowK(x:Cue):List Cue->Nat
 | []=>0
 | y::r=>if cmpC y x<0 then lowK x r+1 else 0
def ZRe(x:Cue): ∀l,lowC x l=some (lowK x l)
 | []=>rfl
 | y::r=>by
  have e:G201 (y,x,())=some (cmpC y x,()):=ZHa y x
  unfold lowC lowK
  rw[e,ZRe x r]
  simp only[al_bind_some]
  by_cases h:cmpC y x<0
  ·rw[ZAH h,al_if_pos h];rfl
  ·rw[ZAE h,al_if_neg h];rfl
def ZJj(x:Cue): ∀(l:List Cue),lowK x l<=l.length/\(∀j,j<lowK x l-> ∀y,l[j]?=some y->cmpC y x<0)/\(∀y,l[lowK x l]?=some y-> ¬cmpC y x<0)
 | []=>by simp[lowK]
 | y::r=>by
  obtain⟨h0,h1,h2⟩:=ZJj x r
  unfold lowK
  by_cases hb:cmpC y x<0
  ·rw[al_if_pos hb]
   refine⟨by simp;omega,λj hj z hz=> ?_,λz hz=>h2 z (by simpa using hz)⟩
   cases j with
   | zero=>simp at hz;subst hz;exact hb
   | succ j=>exact h1 j (by omega) z (by simpa using hz)
  ·rw[al_if_neg hb]
   exact⟨Nat.zero_le _,λj hj=>absurd hj (Nat.not_lt_zero _),λz hz=>by simp at hz;subst hz;exact hb⟩
def eqAt(x:Cue)(l:List Cue):Bool:=match l[lowK x l]? with
 | some y=>decide (cmpC y x=0)
 | none=>false
def ZRf{t:Int}{s:Str} : ∀(l:List Cue) (i:Nat),0<=ZDh t s i l↔ ∃y∈l,y.Tick=t/\y.Name=s
 | [],i=>by unfold ZDh;simp
 | y::r,i=>by
  unfold ZDh
  by_cases h:ZCy t s y=true
  ·rw[al_if_pos h]
   unfold ZCy at h
   simp only[ZAJ,ZAX]at h
   exact⟨λ_=>⟨y,by simp,h⟩,λ_=>by omega⟩
  ·rw[al_if_neg h,ZRf r (i+1)]
   unfold ZCy at h
   simp only[ZAJ,ZAX]at h
   constructor
   ·rintro ⟨z,hz,k⟩;exact⟨z,by simp[hz],k⟩
   ·rintro ⟨z,hz,k⟩
    rcases List.mem_cons.mp hz with rfl | hz
    ·exact absurd k h
    ·exact⟨z,hz,k⟩
def ZXy{l:List Cue}(h:ScoreP l)(x:Cue):decide (0<=ZEe l x.Tick x.Name)=eqAt x l:=by
 obtain⟨h0,h1,h2⟩:=ZJj x l
 unfold ZEe eqAt
 rw[Bool.eq_iff_iff,ZAX,ZRf]
 constructor
 ·rintro ⟨y,hy,k⟩
  have hz:=ZMh.2 k
  obtain⟨i,hi⟩:=List.mem_iff_getElem?.mp hy
  have:lowK x l=i:=by
   rcases Nat.lt_trichotomy (lowK x l) i with hlt | heq | hgt
   ·exfalso
    have hlen:=(al_get_iff.mp hi).1
    have hm:l[lowK x l]?=some (l[lowK x l]'(by omega)):=al_get_get (by omega)
    have h3:=h2 _ hm
    have h4:=ZMi h (i-lowK x l-1) (lowK x l) _ y hm (by rw[show lowK x l+(i-lowK x l-1)+1=i by omega];exact hi)
    refine h3 ?_
    rw[ZMg]at h4⊢
    obtain⟨k1,k2⟩:=k
    rw[k1,k2]at h4
    exact h4
   ·exact heq
   ·have:=h1 i hgt y hi
    omega
  rw[this,hi]
  exact ZAH hz
 ·cases hq:l[lowK x l]? with
  | none=>intro h;cases h
  | some y=>
   intro hh
   exact⟨y,al_mem_get hq,ZMh.1 (of_decide_eq_true hh)⟩
def ZBs(l:List Cue)(x:Cue):Bool:=scB l && (ZAz x && (!eqAt x l && !decide (12<=l.length)))
def ZCr(l:List Cue)(x:Cue):List Cue:=if ZBs l x=true then insL l (lowK x l) x else l
def ZXz(l:List Cue)(hl:l.length<=1048576)(hn:ZCS l)(x:Cue)(h1:x.Name.length<=1048576):G105 (l,x,())=some (ZCr l x,ZBs l x,()):=by
 unfold G105
 simp only
 rw[al_if_pos hl]
 have hb:ZHS l x=some (ZBs l x):=by
  unfold ZHS ZBs
  rw[ZJA l hn hl,show G199 (x,())=some (ZAz x,())from cueI x h1]
  simp only[al_bind_some]
  cases hs:scB l
  ·rfl
  ·cases ZAz x
   ·rfl
   ·rw[ZXy ((ZHv hn hl).1 hs) x]
    simp only[ZAG,al_cond_false,Bool.true_and]
    cases eqAt x l
    ·by_cases c2:12<=l.length
     ·rw[ZAH c2];rfl
     ·rw[ZAE c2];rfl
    ·rfl
 rw[hb,ZRe]
 simp only[al_bind_some]
 unfold ZCr
 cases ZBs l x<;>rfl
def ZJk(l:List Cue)(hl:l.length<=1048576):G229 (l,())=some (l,()):=by
 unfold G229 F229
 rw[ZAB];rfl
def ZX0(l:List Cue)(hl:l.length<=1048576)(x:Cue):G322 (l,x,())=some (if eqAt x l=true then l else insL l (lowK x l) x,!eqAt x l,()):=by
 unfold G322 F322
 have hc: ∀y,G307 (y,x,())=some (cmpC y x,()):=λy=>ZPw y x
 obtain⟨h0,h1,h2⟩:=ZJj x l
 unfold eqAt
 generalize lowK x l=n at h0 h1 h2
 refine(ZAU (f:=s322_0 G307 G229) (λi=>(l,x,(i:Int),())) n (by omega) ?_ ?_).trans ?_
 ·intro i hi rec K
  have hx:l[i]?=some (l[i]'(by omega)):=al_get_get (by omega)
  have w1:w64 ((i:Int)+1)=((i+1:Nat):Int):=ZAC
  simp only[s322_0,ZAF hx,w1,hc,al_bind_some]
  rw[ZA (by simp only[ZAT];omega),ZA (h1 i hi _ hx)]
 ·intro rec K
  simp only[s322_0]
  by_cases hlt:n<l.length
  ·have hx:l[n]?=some l[n]:=by simp[hlt]
   rw[ZA (by simp only[ZAT];omega),ZAF hx,hc,al_bind_some,ZAA (h2 _ hx)]
  ·rw[ZAA (by simp only[ZAT];omega)]
 ·simp only
  have hcp: ∀i,G229 (l.take i,())=some (l.take i,()):=λi=>ZJk _ (by rw[al_len_take];omega)
  by_cases hlt:n<l.length
  ·have hx:l[n]?=some l[n]:=by simp[hlt]
   rw[ZA (by simp only[ZAT];omega),ZAF hx,hc,hx]
   simp only[al_bind_some]
   by_cases hz:cmpC l[n] x=0
   ·rw[ZA hz,ZJk l hl];simp[hz]
   ·rw[ZAA hz,ZBT ⟨by omega,by omega⟩,ZAW,hcp]
    simp only[al_bind_some]
    rw[ZAB,ZBT ⟨by omega,by omega⟩,ZAB]
    unfold insL
    simp[hz]
  ·rw[ZAA (by simp only[ZAT];omega),ZBT ⟨by omega,by omega⟩,ZAW,hcp,List.getElem?_eq_none (by omega)]
   simp only[al_bind_some]
   rw[ZAB,ZBT ⟨by omega,by omega⟩,ZAB]
   unfold insL
   simp
def ZX1(l:List Cue)(hl:l.length<=1048576)(hn:ZCS l)(x:Cue)(h1:x.Name.length<=1048576):G246 (l,x,())=some (ZCr l x,ZBs l x,()):=by
 unfold G246 F246 ZCr ZBs
 rw[ZX0 l hl x,ZLv l hn hl,show G171 (x,())=some (ZAz x,())from cueS x h1]
 simp only[al_bind_some,ZJk l hl]
 cases hs:scB l
 ·rfl
 ·have S:=(ZHv hn hl).1 hs
  have:=S.len
  cases ZAz x
  ·rfl
  ·cases eqAt x l
   ·simp only[ZAG,ZAK,al_cond_true,Bool.true_and]
    by_cases c2:12<=l.length
    ·rw[ZAH c2,ZA (show(Int.ofNat l.length)=12 by simp only[ZAT];omega)];rfl
    ·rw[ZAE c2,ZAA (show¬(Int.ofNat l.length)=12 by simp only[ZAT];omega)];rfl
   ·rfl
end Ev
end
noncomputable section
namespace Ev
open Go
def ZRg(t:Int): ∀(w:List Gust) (was:Place),w.foldl (drF t) was=dAt was w t
 | [],was=>rfl
 | g::r,was=>by
  rw[List.foldl_cons,ZRg t r]
  unfold drF
  show _=if g.From<=t then dAt g.Drift r t else dAt was r t
  split<;>rfl
def ZMj(w:List Gust)(t:Int):drL w t=dAt ⟨0,0⟩ w t:=ZRg t w ⟨0,0⟩
def ZX2{w:List Gust}(h:WindP w):Inc 0 w:=by
 have key: ∀(w:List Gust) (k:Int),(∀i a b,w[i]?=some a->w[i+1]?=some b->a.From<b.From)->(∀g,w[0]?=some g->k<=g.From)->Inc k w:=by
  intro w
  induction w with
  | nil=>intro k _ _;trivial
  | cons g r ih=>
   intro k hl h0
   exact⟨h0 g rfl,ih (g.From+1) (λi a b ha hb=>hl (i+1) a b (by simpa using ha) (by simpa using hb)) λx hx=>by have:=hl 0 g x rfl (by simpa using hx);omega⟩
 exact key w 0 h.lt λg hg=>(h.gust g (al_mem_get hg)).1.1
def ZMk(p:Place):wdB [⟨0,p⟩]=isDr p:=by
 rw[Bool.eq_iff_iff,ZFc (by simp)]
 constructor
 ·intro h;exact(h.gust ⟨0,p⟩ (by simp)).2
 ·intro h
  exact⟨by simp,λg hg=>by simp at hg;subst hg;exact⟨⟨by simp,by simp⟩,h⟩,λi a b ha hb=>by simp at hb⟩
def jnL(w:List Gust)(p:Place)(t:Int):List Gust:=chgL ⟨0,0⟩ ((w.filter λg=>decide (g.From<t))++[⟨t,p⟩])
def jnB(w:List Gust)(p:Place)(t:Int):Bool:=wdB w && (isDr p && (wi t 0 64 && !decide (8<(jnL w p t).length)))
def jnD(w:List Gust)(p:Place)(t:Int):List Gust:=if jnB w p t=true then jnL w p t else []
def chF(a:List Gust×Place)(g:Gust):List Gust×Place:=if g.Drift=a.2 then a else(a.1++[g],g.Drift)
def ZMl: ∀(w:List Gust) (o:List Gust) (was:Place),(w.foldl chF (o,was)).1=o++chgL was w
 | [],o,was=>by simp[chgL]
 | g::r,o,was=>by
  rw[List.foldl_cons]
  unfold chF chgL
  by_cases h:g.Drift=was
  ·rw[al_if_pos h,al_if_pos h];exact ZMl r o was
  ·rw[al_if_neg h,al_if_neg h]
   have:=ZMl r (o++[g]) g.Drift
   refine this.trans (by simp)
def ZRh: ∀(w:List Gust) (a:List Gust×Place),(w.foldl chF a).1.length<=a.1.length+w.length
 | [],a=>Nat.le_refl _
 | g::r,a=>by
  rw[List.foldl_cons]
  have:=ZRh r (chF a g)
  have h2:(chF a g).1.length<=a.1.length+1:=by unfold chF;split<;>simp
  simp only[al_len_cons];omega
def ZRi(p q:Place):(decide (p.X=q.X) && (decide (p.Y=q.Y) && true))=decide (p=q):=by
 cases p;cases q
 rw[Bool.eq_iff_iff]
 simp
def ZX3(w:List Gust)(hw:w.length<=1048576):G203 (w,())=some (chgL ⟨0,0⟩ w,()):=by
 unfold G203 F203
 have hall:=ZMl w [] ⟨0,0⟩
 rw[List.nil_append]at hall
 refine(ZAU (f:=s203_0) (K:=λx1=>some (x1.1,())) (λi=>(((w.take i).foldl chF ([],⟨0,0⟩)).1,((w.take i).foldl chF ([],⟨0,0⟩)).2,w,Int.ofNat w.length,(i:Int),())) w.length (by omega) ?_ ?_).trans (by rw[List.take_length];simp only[hall])
 ·intro i hi rec K
  have hx:w[i]?=some w[i]:=by simp
  have w1:w64 ((i:Int)+1)=((i+1:Nat):Int):=ZAC
  have hlo:=ZRh (w.take i) ([],⟨0,0⟩)
  rw[al_len_take]at hlo
  simp only[al_len_nil]at hlo
  rw[ZBq w i hi,List.foldl_append,List.foldl_cons,List.foldl_nil]
  generalize (w.take i).foldl chF ([],⟨0,0⟩)=a at hlo
  simp only[s203_0,ZAF hx,w1,ZRi]
  rw[ZA]
  unfold chF
  by_cases h:w[i].Drift=a.2
  ·rw[ZAH h,al_if_pos h];rfl
  ·rw[ZAE h,al_if_neg h]
   simp only[ZAK,al_cond_true]
   rw[ZAB]
 ·intro rec K
  simp only[s203_0]
  rw[ZAA]
def ZX4(p:Place)(hp:isDr p=true){t:Int}(h0:0<=t):G204 ([⟨0,p⟩],t,())=some ([⟨t,p⟩],()):=by
 unfold G204 F204
 have hd:G291 ([⟨0,p⟩],t,())=some (p,()):=by
  rw[ZQh [⟨0,p⟩] (by simp) (by rw[ZMk];exact hp),ZMj]
  unfold dAt
  rw[al_if_pos h0];rfl
 rw[hd]
 simp only[al_bind_some]
 obtain⟨m,hm⟩:=ZB0 3 (by omega)
 rw[hm,ZAS]
 simp only[s204_0,rd0,al_len_cons,al_len_nil]
 rw[ZA (by decide),ZAA,ZAS]
 simp only[s204_0]
 rw[ZAA (by decide)]
def ZX5(w:List Gust)(hl:w.length<=1048576)(p:Place)(t:Int):G106 (w,[⟨0,p⟩],t,())=some (jnD w p t,jnB w p t,()):=by
 unfold G106 F106 jnD jnB
 rw[ZFO w hl,ZFO [⟨0,p⟩] (by simp),ZMk,show G121 (t,0,64,())=some (wi t 0 64,())from ZA9 _ _ _]
 simp only[al_bind_some]
 cases hw:wdB w
 ·rfl
 ·cases hp:isDr p
  ·rfl
  ·cases ht:wi t 0 64
   ·rfl
   ·have h0:=(ZAj.1 ht).1
    have h8w:=((ZFc hl).1 hw).len
    simp only[ZA4,Bool.true_and]
    have run:=ZAU (f:=s106_0 G120 G121 G204 G203) (K:=λx4=>(G204 (x4.1,x4.2.1,())).bind λx5=>capK (List.length x4.2.2.1+List.length x5.1) ((G203 ((x4.2.2.1++x5.1),())).bind λx6=>cond (decide ((Int.ofNat (List.length x6.1))>8)) (some (([]:List Gust),false,())) (some (x6.1,true,()))))
     (λi=>([⟨0,p⟩],t,(w.take i).filter (λg=>decide (g.From<t)),w,Int.ofNat w.length,(i:Int),())) w.length (by omega)
     (by
      intro i hi rec K
      have hx:w[i]?=some w[i]:=by simp
      have w1:w64 ((i:Int)+1)=((i+1:Nat):Int):=ZAC
      have hlo:=List.length_filter_le (λg:Gust=>decide (g.From<t)) (w.take i)
      rw[al_len_take]at hlo
      rw[ZBq w i hi,List.filter_append]
      generalize (w.take i).filter (λg=>decide (g.From<t))=o at hlo
      simp only[s106_0,ZAF hx,w1]
      rw[ZA]
      by_cases h:w[i].From<t
      ·rw[ZA h,ZAB]
       simp[h]
      ·rw[ZAA h]
       simp[h])
     (by
      intro rec K
      simp only[s106_0]
      rw[ZAA])
    refine run.trans ?_
    have hlo:=List.length_filter_le (λg:Gust=>decide (g.From<t)) w
    simp only
    rw[List.take_length,ZX4 p hp h0]
    simp only[al_bind_some]
    rw[ZAB,ZX3 _ (by simp;omega)]
    simp only[al_bind_some]
    show cond (decide ((Int.ofNat (jnL w p t).length)>8)) _ (some (jnL w p t,true,()))=_
    by_cases h8:8<(jnL w p t).length
    ·rw[ZA (by simp only[ZAT];omega),ZAH h8];rfl
    ·rw[ZAA (by simp only[ZAT];omega),ZAE h8];rfl
def ZX6(w:List Gust)(hl:w.length<=1048576):G324 (w,0,64,())=some ((List.range 65).map λi:Nat=>dAt ⟨0,0⟩ w (i:Int),()):=by
 unfold G324 F324
 refine(ZAU (f:=s324_0 G325) (K:=λx1=>some (x1.2.2.1,())) (λi=>(w,64,(List.range i).map λi:Nat=>dAt ⟨0,0⟩ w (i:Int),(i:Int),())) 65 (by omega) ?_ ?_).trans rfl
 ·intro i hi rec K
  have w1:w64 ((i:Int)+1)=((i+1:Nat):Int):=ZAC
  simp only[s324_0,w1,ZL6 w hl,al_bind_some,ZMj]
  rw[ZA,ZAB,List.range_succ,List.map_append]
  rfl
 ·intro rec K
  simp only[s324_0]
  rw[ZAA]
def frF(a:List Gust×Place)(q:Place×Nat):List Gust×Place:=if q.1=a.2 then a else(a.1++[⟨(q.2:Int),q.1⟩],q.1)
def ZMm: ∀(l:List Place) (k:Nat) (o:List Gust) (was:Place),(l.zipIdx k |>.foldl frF (o,was)).1=o++ZDo was k l
 | [],k,o,was=>by simp[ZDo]
 | p::r,k,o,was=>by
  rw[List.zipIdx_cons,List.foldl_cons]
  unfold frF ZDo
  have e:((k:Int)+1)=((k+1:Nat):Int):=by omega
  by_cases h:p=was
  ·rw[al_if_pos h,al_if_pos h,e];exact ZMm r (k+1) o was
  ·rw[al_if_neg h,al_if_neg h,e]
   have:=ZMm r (k+1) (o++[⟨(k:Int),p⟩]) p
   refine this.trans (by simp)
def ZRj: ∀(l:List (Place×Nat)) (a:List Gust×Place),(l.foldl frF a).1.length<=a.1.length+l.length
 | [],a=>Nat.le_refl _
 | g::r,a=>by
  rw[List.foldl_cons]
  have:=ZRj r (frF a g)
  have h2:(frF a g).1.length<=a.1.length+1:=by unfold frF;split<;>simp
  simp only[al_len_cons];omega
def ZX7(l:List Place)(hl:l.length<=1048576):G326 (l,())=some (ZDo ⟨0,0⟩ 0 l,()):=by
 unfold G326 F326
 have hall:=ZMm l 0 [] ⟨0,0⟩
 rw[List.nil_append]at hall
 have hzl:l.zipIdx.length=l.length:=List.length_zipIdx
 refine(ZAU (f:=s326_0) (K:=λx1=>some (x1.1,())) (λi=>(((l.zipIdx.take i).foldl frF ([],⟨0,0⟩)).1,((l.zipIdx.take i).foldl frF ([],⟨0,0⟩)).2,l,Int.ofNat l.length,(i:Int),())) l.length (by omega) ?_ ?_).trans (by rw[<-hzl,List.take_length];exact congrArg (λz=>some (z,())) hall)
 ·intro i hi rec K
  have hx:l[i]?=some l[i]:=by simp
  have w1:w64 ((i:Int)+1)=((i+1:Nat):Int):=ZAC
  have hlo:=ZRj (l.zipIdx.take i) ([],⟨0,0⟩)
  rw[al_len_take]at hlo
  simp only[al_len_nil]at hlo
  have e:=ZBq l.zipIdx i (by omega)
  have e2:l.zipIdx[i]'(by omega)=(l[i],i):=by simp
  rw[e,List.foldl_append,List.foldl_cons,List.foldl_nil,e2]
  generalize (l.zipIdx.take i).foldl frF ([],⟨0,0⟩)=a at hlo
  simp only[s326_0,ZAF hx,w1,ZRi]
  rw[ZA]
  unfold frF
  by_cases h:l[i]=a.2
  ·rw[ZAH h,al_if_pos h];rfl
  ·rw[ZAE h,al_if_neg h]
   simp only[ZAK,al_cond_true]
   rw[ZAB]
 ·intro rec K
  simp only[s326_0]
  rw[ZAA]
def ZX8(w:List Gust)(hl:w.length<=1048576)(p:Place)(t:Int):G251 (w,[⟨0,p⟩],t,())=some (jnD w p t,jnB w p t,()):=by
 unfold G251 F251 jnD jnB
 rw[ZJB w hl,ZJB [⟨0,p⟩] (by simp),ZMk]
 simp only[al_bind_some]
 cases hw:wdB w
 ·rfl
 ·cases hp:isDr p
  ·rfl
  ·simp only[ZA4,Bool.true_and]
   by_cases c1:t<0
   ·have:wi t 0 64=false:=by unfold wi;rw[ZAE (by omega)];rfl
    rw[ZAH c1,this];rfl
   ·rw[ZAE c1]
    simp only[ZAK,al_cond_true]
    by_cases c2:t>64
    ·have:wi t 0 64=false:=by unfold wi;rw[ZAE (p:=t<=64) (by omega),Bool.and_false]
     rw[ZA c2,this];rfl
    ·have ht:wi t 0 64=true:=ZAZ (by omega) (by omega)
     rw[ZAA c2,ht,ZX6 w hl]
     simp only[al_bind_some,Bool.true_and]
     obtain⟨n,rfl⟩: ∃n:Nat,t=n:=⟨t.toNat,by omega⟩
     have hat: ∀i:Nat,G325 ([⟨0,p⟩],(i:Int),())=some (p,()):=λi=>by
      rw[ZL6 _ (by simp),ZMj]
      unfold dAt
      rw[al_if_pos (by show(0:Int)<=_;omega)];rfl
     have run:=ZAU (f:=s251_0 G232 G324 G325 G326) (K:=λx4=>(G326 (x4.2.1,())).bind λx5=>cond (decide ((Int.ofNat (List.length x5.1))>8)) (some (([]:List Gust),false,())) (some (x5.1,true,())))
      (λi=>(([⟨0,p⟩]:List Gust),(List.range 65).map (λj:Nat=>if n<=j/\j<n+i then p else dAt ⟨0,0⟩ w (j:Int)),((n+i:Nat):Int),())) (65-n) (by omega)
      (by
       intro i hi rec K
       have w1:w64 (((n+i:Nat):Int)+1)=((n+(i+1):Nat):Int):=by rw[ZAC];omega
       have hlen:((List.range 65).map (λj:Nat=>if n<=j/\j<n+i then p else dAt ⟨0,0⟩ w (j:Int))).length=65:=by simp
       have hx: ∃v,((List.range 65).map (λj:Nat=>if n<=j/\j<n+i then p else dAt ⟨0,0⟩ w (j:Int)))[n+i]?=some v:=⟨_,al_get_get (by omega)⟩
       obtain⟨v,hx⟩:=hx
       simp only[s251_0,w1,hat,al_bind_some,ZAF hx,ZAW,hx]
       rw[ZA]
       congr 3
       apply List.ext_getElem?
       intro j
       rw[List.getElem?_set]
       by_cases hj:n+i=j
       ·subst hj
        rw[al_if_pos rfl,al_if_pos]
        simp only[List.getElem?_map]
        rw[List.getElem?_range (by omega)]
        simp
       ·rw[al_if_neg hj]
        simp only[List.getElem?_map]
        by_cases h65:j<65
        ·rw[List.getElem?_range h65]
         simp only[Option.map_some]
         by_cases hc:n<=j/\j<n+i
         ·rw[al_if_pos hc,al_if_pos]
         ·rw[al_if_neg hc,al_if_neg]
        ·rw[List.getElem?_eq_none (by simp;omega)];rfl)
      (by
       intro rec K
       simp only[s251_0]
       rw[ZAA])
     have h00:(List.range 65).map (λj:Nat=>if n<=j/\j<n+0 then p else dAt ⟨0,0⟩ w (j:Int))=(List.range 65).map (λj:Nat=>dAt ⟨0,0⟩ w (j:Int)):=List.map_congr_left λj _=>al_if_neg
     have h01:(List.range 65).map (λj:Nat=>if n<=j/\j<n+(65-n)then p else dAt ⟨0,0⟩ w (j:Int))=(List.range 65).map (λj:Nat=>if(n:Int)<=(j:Int)then p else dAt ⟨0,0⟩ w (j:Int)):=List.map_congr_left λj hj=>by
      have:j<65:=by simpa using hj
      by_cases hc:n<=j
      ·rw[al_if_pos ⟨hc,by omega⟩,al_if_pos]
      ·rw[al_if_neg,al_if_neg]
     rw[h00,Nat.add_zero]at run
     refine run.trans ?_
     simp only
     rw[h01,ZX7 _ (by simp)]
     simp only[al_bind_some]
     have hj:ZDo ⟨0,0⟩ 0 ((List.range 65).map (λj:Nat=>if(n:Int)<=(j:Int)then p else dAt ⟨0,0⟩ w (j:Int)))=jnL w p n:=ZXx (ZX2 ((ZFc hl).1 hw)) (by omega) (by omega)
     rw[hj]
     by_cases h8:8<(jnL w p n).length
     ·rw[ZA (by simp only[ZAT];omega),ZAH h8];rfl
     ·rw[ZAA (by simp only[ZAT];omega),ZAE h8];rfl
end Ev
end
noncomputable section
namespace Ev
open Go
def noT:Str:=[110,111,116,104,105,110,103,32,116,111,32,115,97,121]
def ZRk:Str:=[115,97,102,101]
def wetT(r:List Place)(a:Throw×Nat):Str:=((((((([119,101,116,58,32]++a.1.name)++[32,97,116,32])++Go.Lib.itoa a.1.born)++[32,108,97,110,100,115,32,97,116,32])++ZAm (wq r a.1 a.2))++[32,105,110,32])++ZAm (wdV (a.2:Int) r))
def ZCV(s:ZAM)(r:List Place)(b:Bool)(c:Box):Str:=if ZA5 s=true/\b=true/\isBx c=true then(wwL s r c).elim ZRk (wetT r)else noT
def ZRl{s:ZAM}(h:ShowV s){x:Throw}(hx:x∈ZAO s):x.name.length<=1048576:=by
 obtain⟨i,d,hi,_,e,_⟩:=(ZFS h hx).dev
 rw[e]
 exact(h.ok.devs d (al_mem_get hi)).1
def ZRm(s:ZAM)(h:ShowOK s)(r:List Place)(hr:r.length<=1048576)(c:Box)(b:Bool)(hb:G51 (r,())=some (b,())):G19 (s,r,c,())=some (ZCV s r b c,()):=by
 obtain⟨b',r1,r2,r3⟩:=ZEl r hr
 obtain rfl:b'=b:=by rw[hb]at r1;cases r1;rfl
 unfold G19 F19 ZCV
 try simp only[ZBI]
 rw[ZDT s h,r1]
 simp only[al_bind_some,ZEk]
 by_cases hgo:ZA5 s=true/\b'=true/\isBx c=true
 ·rw[al_if_pos hgo]
  obtain⟨hsb,rfl,hc⟩:=hgo
  have hv:=ZD3 h hsb
  obtain⟨p1,p2,_⟩:=r3 rfl
  rw[hsb,hc,ZW1 hv hr r1 hc]
  simp only[ZA4]
  cases hw:wwL s r c with
  | none=>rfl
  | some a=>
   obtain⟨x,k⟩:=a
   have hx:=(ZJP hw).1
   have hn:=ZRl hv hx
   have hbo:=(ZFS hv hx).born
   have ht:=hv.tick
   have hi:=ZCp (n:=x.born) (by omega) (by omega)
   have l1:=ZCI (wq r x k)
   have l2:=ZCI (wdV (k:Int) r)
   simp only[Option.elim,al_bind_some,ZAG,al_cond_false,numI (n:=x.born) (by omega) (by omega),fpI]
   simp only[al_len_append,al_len_cons,al_len_nil]
   rw[ZAB,ZAB,ZAB,ZAB,ZAB,ZAB,ZAB]
   rfl
 ·rw[al_if_neg hgo]
  cases hsb:ZA5 s
  ·rfl
  ·cases b'
   ·rfl
   ·cases hc:isBx c
    ·rfl
    ·exact absurd ⟨hsb,rfl,hc⟩ hgo
def ZX9(s:ZAM)(h:ShowOK s)(r:List Place)(hr:r.length<=1048576)(c:Box)(b:Bool)(hb:G141 (r,())=some (b,())):G240 (s,r,c,())=some (ZCV s r b c,()):=by
 obtain⟨b',r1,r2,r3⟩:=ZEl r hr
 obtain rfl:b'=b:=by rw[hb]at r2;cases r2;rfl
 unfold G240 F240 ZCV
 try simp only[ZBI]
 rw[ZCd s h,r2]
 simp only[al_bind_some,ZHn]
 by_cases hgo:ZA5 s=true/\b'=true/\isBx c=true
 ·rw[al_if_pos hgo]
  obtain⟨hsb,rfl,hc⟩:=hgo
  have hv:=ZD3 h hsb
  obtain⟨p1,p2,_⟩:=r3 rfl
  rw[hsb,hc,ZW2 hv hr r2]
  simp only[ZA4]
  cases hw:wwL s r c with
  | none=>rfl
  | some a=>
   obtain⟨x,k⟩:=a
   have hx:=(ZJP hw).1
   have hk:=(ZQu (ZJP hw).2).1
   have hn:=ZRl hv hx
   have hbo:=(ZFS hv hx).born
   have ht:=hv.tick
   have hi:=ZCp (n:=x.born) (by omega) (by omega)
   have l1:=ZCI (wq r x k)
   have l2:=ZCI (wdV (k:Int) r)
   have f1:G311 (x.jet,())=some (fl x.jet,()):=flS x.jet
   have f2: ∀p q:Place,G317 (p,q,())=some (plus p q,()):=ZHl
   simp only[Option.elim,al_bind_some,ZAG,al_cond_false,ZQt r p2 p1 r2 (show 0<=(k:Int)/\(k:Int)<=3 by omega),ZQv,f1,f2,numS (n:=x.born) (by omega) (by omega),fpS]
   unfold wq at l1
   simp only[al_len_append,al_len_cons,al_len_nil]
   rw[ZAB,ZAB,ZAB,ZAB,ZAB,ZAB,ZAB]
   rfl
 ·rw[al_if_neg hgo]
  cases hsb:ZA5 s
  ·rfl
  ·cases b'
   ·rfl
   ·cases hc:isBx c
    ·rfl
    ·exact absurd ⟨hsb,rfl,hc⟩ hgo
end Ev
end
noncomputable section
namespace Ev
open Go
def ZY(s:ZAM)(h:ShowOK s)(c:Box): ∃L,G238 (s,())=some (L,())/\L.length<=512/\True/\G56 (s,c,())=some (wetL c L,()):=by
 obtain⟨L,g1,g2,hL⟩:=ZWf s h
 refine⟨L,g1,hL,trivial,?_⟩
 ·unfold G56 F56
  simp only[ZEk,al_bind_some]
  cases hc:isBx c
  ·simp only[ZAK,al_cond_true]
   unfold wetL;rw[hc];rfl
  ·simp only[ZAG,al_cond_false,g2,al_bind_some]
   exact ZWj c L (by omega) hc
def ZYA(s:ZAM)(h:ShowOK s)(c:Box): ∃L,G238 (s,())=some (L,())/\G242 (s,c,())=some (ZA5 s && (isBx c && dryB c L),())/\G20 (s,c,())=some (ZA5 s && (isBx c && dryB c L),()):=by
 obtain⟨L,g1,hL,g2,g3⟩:=ZY s h c
 refine⟨L,g1,?_,?_⟩
 ·unfold G242 F242
  try simp only[ZBI]
  rw[ZCd s h]
  simp only[al_bind_some]
  cases hb:ZA5 s
  ·rfl
  ·simp only[ZAG,al_cond_false,ZHn,al_bind_some,Bool.true_and]
   cases hc:isBx c
   ·rfl
   ·simp only[ZA4,g1,al_bind_some,Bool.true_and]
    have:=ZDi (f:=s242_0 G140 G142 G238 G320) (K:=λt5=>some (true,())) (λi=>(c,L,Int.ofNat L.length,(i:Int),())) (λi=>((L[i]?).map λx=>inBx c x.At).getD true) (some (false,())) L.length (by omega)
     (by
      intro i hi rec K
      have hx:L[i]?=some L[i]:=by simp
      have e1:w64 ((i:Int)+1)=((i+1:Nat):Int):=ZAC
      simp only[s242_0]
      have hx':=λ(K:Drop->Option (Bool×Unit))=>ZAF (K:=K) hx
      rw[ZA]
      simp only[hx',hx,ZAW,e1,ZWh,al_bind_some,Option.map_some,Option.getD_some]
      cases inBx c L[i].At<;>rfl)
     (by
      intro rec K
      simp only[s242_0]
      rw[ZAA])
    refine this.trans ?_
    have ea:(List.range L.length).all (λi=>((L[i]?).map λx=>inBx c x.At).getD true)=dryB c L:=by
     unfold dryB
     rw[Bool.eq_iff_iff,List.all_eq_true,List.all_eq_true]
     constructor
     ·intro h x hx
      obtain⟨i,hi⟩:=List.mem_iff_getElem?.mp hx
      have:=h i (by simpa using (al_get_iff.mp hi).1)
      rw[hi]at this;exact this
     ·intro h i hi
      have hi:i<L.length:=by simpa using hi
      have hx:L[i]?=some L[i]:=by simp
      rw[hx];exact h _ (by simp)
    rw[ea]
    cases dryB c L<;>rfl
 ·unfold G20 F20
  try simp only[ZBI]
  rw[ZDT s h]
  simp only[al_bind_some]
  cases hb:ZA5 s
  ·rfl
  ·simp only[al_cond_true,ZEk,al_bind_some,Bool.true_and]
   cases hc:isBx c
   ·rfl
   ·simp only[al_cond_true,g3,al_bind_some,Bool.true_and]
    unfold wetL
    rw[al_if_pos hc]
    have hw:=ZQq c L []
    have:decide ((Int.ofNat (L.foldl (wetF c) []).length)=0)=dryB c L:=by
     unfold dryB
     rw[Bool.eq_iff_iff,ZAX]
     simp only[true_and]at hw
     rw[<-hw];simp
    rw[this]
end Ev
end
noncomputable section
namespace Ev
open Go
theorem ZJl{A:Type}(p:A->Bool): ∀(l:List A) (a:Int),0<=a->a+l.length<=1099511627776->l.foldl (λa x=>if p x=true then w64 (a+1)else a) a=a+(l.countP p:Int)
 | [],a,_,_=>by simp
 | x::l,a,h0,h1=>by
  have h1':a+((l.length+1:Nat):Int)<=1099511627776:=by simpa using h1
  rw[List.foldl_cons]
  cases hp:p x
  ·rw[al_if_neg (by simp),ZJl p l a h0 (by omega),List.countP_cons_of_neg (by simp[hp])]
  ·rw[al_if_pos rfl,ZAC,ZJl p l (a+1) (by omega) (by omega),List.countP_cons_of_pos hp]
   omega
def ZFe(t:Int)(x:Throw):Bool:=decide (x.born<=t)
def ZHw(t:Int)(x:Throw):Bool:=decide (x.born+fl x.jet<=t)
theorem ZYB(t:Int)(l:List Throw)(hl:l.length<=1048576):l.foldl (ZGN t) 0=(l.countP (ZFe t):Int):=by
 have e:ZGN t=λa x=>if ZFe t x=true then w64 (a+1)else a:=by
  funext a x;unfold ZGN ZFe;simp only[ZAX]
 rw[e,ZJl _ l 0 (by omega) (by omega)]
 omega
theorem ZYC(t:Int)(l:List Throw)(hl:l.length<=1048576)(hf: ∀x∈l,FliesP x):l.foldl (ZD5 t) 0=(l.countP (ZHw t):Int):=by
 have: ∀(l:List Throw) (a:Int),(∀x∈l,FliesP x)->l.foldl (ZD5 t) a=l.foldl (λa x=>if ZHw t x=true then w64 (a+1)else a) a:=λl=>by
  induction l with
  | nil=>intro a _;rfl
  | cons x l ih=>
   intro a hx
   rw[List.foldl_cons,List.foldl_cons,ih _ λy hy=>hx y (by simp[hy])]
   unfold ZD5 ZHw
   rw[ZHm (hx x (by simp))]
   simp only[ZAX]
 rw[this l 0 hf,ZJl _ l 0 (by omega) (by omega)]
 omega
section
variable {s:ZAM} (h:ShowV s)
include h
theorem ZHx:(ZAO s).length<=1048576:=Nat.le_trans (ZB5 h) (by decide)
theorem ZRn(t:Int):G115 (s,t,())=some (((ZAO s).countP (ZFe t):Int),()):=by
 unfold G115 F115
 try simp only[ZBI]
 rw[ZDn h]
 simp only[al_bind_some]
 rw[ZJH t _ (ZHx h),ZYB t _ (ZHx h)]
theorem ZYD(t:Int):G256 (s,t,())=some (((ZAO s).countP (ZFe t):Int),()):=by
 obtain⟨v,h1,h2⟩:=ZWP s h.ok t
 rw[ZRn h t]at h2
 cases h2
 exact h1
theorem ZRo(t:Int):G116 (s,t,())=some (((ZAO s).countP (ZHw t):Int),()):=by
 unfold G116 F116
 try simp only[ZBI]
 rw[ZDn h]
 simp only[al_bind_some]
 rw[ZL4 t _ (ZHx h),ZYC t _ (ZHx h) (λx hx=>ZGP h hx)]
def ZEA(s:ZAM):Int:=(ZAO s).foldl ZHk 0
theorem ZMn:G22 (s,())=some (ZEA s,()):=by
 unfold G22 F22 ZEA
 try simp only[ZBI]
 rw[ZDn h]
 simp only[al_bind_some]
 exact ZL5 _ (ZHx h)
theorem ZYE:G239 (s,())=some (ZEA s,()):=by
 obtain⟨v,h1,h2⟩:=ZWY s h.ok
 rw[ZMn h]at h2
 cases h2
 exact h1
end
end Ev
namespace Ev
open Go
def Sm(m:Int)(p:Place):Prop:=(-m<=p.X/\p.X<=m)/\(-m<=p.Y/\p.Y<=m)
def rt(k:Nat)(p:Place):Place:=if k=0 then p else if k=1 then⟨-p.Y,p.X⟩else if k=2 then⟨-p.X,-p.Y⟩else⟨p.Y,-p.X⟩
theorem ZYF{p q:Place}(h1:p.X=q.X)(h2:p.Y=q.Y):p=q:=by
 cases p;cases q;simp only at h1 h2;subst h1 h2;rfl
theorem ZMo{m:Int}(hb:m<=1099511627776){p:Place}(h:Sm m p){k:Nat}(hk:k<4):rotN k p=rt k p:=by
 obtain⟨⟨h1,h2⟩,h3,h4⟩:=h
 have e1:w64 (0-p.Y)= -p.Y:=by rw[ZAC];omega
 have e2:w64 (0-p.X)= -p.X:=by rw[ZAC];omega
 have e3:w64 (0- -p.Y)=p.Y:=by rw[ZAC];omega
 rcases k4 hk with rfl | rfl | rfl | rfl
 ·rfl
 ·simp only[rotN,e1];rfl
 ·simp only[rotN,e1,e2];rfl
 ·simp only[rotN,e1,e2,e3];rfl
theorem ZYG{m:Int}{p:Place}(h:Sm m p)(k:Nat):Sm m (rt k p):=by
 obtain⟨⟨h1,h2⟩,h3,h4⟩:=h
 unfold rt Sm
 split
 ·exact⟨⟨h1,h2⟩,h3,h4⟩
 ·split
  ·exact⟨⟨by simp only;omega,by simp only;omega⟩,by simp only;omega,by simp only;omega⟩
  ·split
   ·exact⟨⟨by simp only;omega,by simp only;omega⟩,by simp only;omega,by simp only;omega⟩
   ·exact⟨⟨by simp only;omega,by simp only;omega⟩,by simp only;omega,by simp only;omega⟩
def add(p q:Place):Place:=⟨p.X+q.X,p.Y+q.Y⟩
theorem ZMp{m n:Int}(hb:m+n<=1099511627776){p q:Place}(hp:Sm m p)(hq:Sm n q):plus p q=add p q:=by
 obtain⟨⟨h1,h2⟩,h3,h4⟩:=hp
 obtain⟨⟨g1,g2⟩,g3,g4⟩:=hq
 unfold plus add
 rw[ZAC,ZAC]
theorem ZRp{m n:Int}{p q:Place}(hp:Sm m p)(hq:Sm n q):Sm (m+n) (add p q):=by
 obtain⟨⟨h1,h2⟩,h3,h4⟩:=hp
 obtain⟨⟨g1,g2⟩,g3,g4⟩:=hq
 exact⟨⟨by simp only[add];omega,by simp only[add];omega⟩,by simp only[add];omega,by simp only[add];omega⟩
theorem ZEu{p:Place}(h:isDr p=true):Sm 8 p:=by
 unfold isDr at h
 rw[ZAJ,ZAj,ZAj]at h
 exact h
def pN(j:Jet)(t:Int):Place:=add j.At (rt j.Heading.toNat ⟨t*j.Tilt,0⟩)
theorem ZRq{j:Jet}(J:JetOK j){t:Int}(h0:0<=t)(h1:t<=33):ZB7 j t=pN j t:=by
 obtain⟨_,ex,ey⟩:=ZL8 J h0 h1
 obtain⟨_,h2,h3⟩:=ZL7 J h0 h1
 have hk:j.Heading.toNat<4:=by have:=J.h;omega
 have hs:Sm 528 ⟨t*j.Tilt,0⟩:=⟨⟨by simp only;omega,by simp only;omega⟩,by simp only;omega,by simp only;omega⟩
 rw[ZMo (by omega) hs hk]at ex ey
 exact ZYF ex ey
theorem ZRr{j:Jet}(J:JetOK j){t:Int}(h0:0<=t)(h1:t<=33):Sm 1552 (pN j t):=by
 have:=(ZL8 J h0 h1).1
 rw[ZRq J h0 h1]at this
 exact⟨⟨this.1,this.2.1⟩,this.2.2.1,this.2.2.2⟩
def WdSm(w:List Gust):Prop:= ∀g∈w,Sm 8 g.Drift
theorem ZYH{w:List Gust}(h:WindP w):WdSm w:=λg hg=>ZEu (h.gust g hg).2
structure Keeps(f:Device->Device):Prop where
 name: ∀d,(f d).Name=d.Name
 kind: ∀d,(f d).Kind=d.Kind
 line: ∀d,(f d).Line=d.Line
 most: ∀d,(f d).Most=d.Most
theorem ZYI(n:Int):Keeps (mvD n):=⟨λ_=>rfl,λ_=>rfl,λ_=>rfl,λ_=>rfl⟩
theorem ZYJ{n:Int}{w:List Gust}(hw:WdSm w):WdSm (w.map (mvG n)):=λg hg=>by
 obtain⟨g0,h0,rfl⟩:=List.mem_map.mp hg
 unfold mvG
 have:=ZYG (hw g0 h0) (q4 n)
 rw[<-ZMo (m:=8) (by omega) (hw g0 h0) (ZEg n)]at this
 exact this
section
variable {f:Device->Device} (F:Keeps f)
include F
theorem ZRs(s:Str): ∀(l:List Device) (i:Nat),ZCo s i (l.map f)=ZCo s i l
 | [],i=>rfl
 | d::l,i=>by simp only[List.map_cons,ZCo,F.name,ZRs s l]
theorem ZYK(l:List Device)(s:Str):fnd (l.map f) s=fnd l s:=ZRs F s l 0
theorem ZYL(l:List Device)(d:Device):ZBH (l.map f) (f d)=ZBH l d:=by
 unfold ZBH
 rw[F.kind,F.line,ZYK F]
 congr 2
 unfold ZFN
 rw[List.getElem?_map]
 cases l[(fnd l d.Line).toNat]? with
 | none=>rfl
 | some x=>simp only[Option.map_some,Option.getD_some,F.kind]
theorem ZYM{l:List Device}(h:RigP l)(hd: ∀d∈l,devB (f d)=true):RigP (l.map f):=by
 refine⟨by simpa using h.len,λd hm=> ?_,λi d e h1 h2=> ?_,λd hm=> ?_⟩
 ·obtain⟨x,hx,rfl⟩:=List.mem_map.mp hm
  exact hd x hx
 ·rw[List.getElem?_map]at h1 h2
  cases h3:l[i]? with
  | none=>rw[h3]at h1;cases h1
  | some a=>
   cases h4:l[i+1]? with
   | none=>rw[h4]at h2;cases h2
   | some b=>
    rw[h3]at h1;rw[h4]at h2
    simp only[Option.map_some,Option.some.injEq]at h1 h2
    subst h1 h2
    rw[F.name,F.name]
    exact h.lt i a b h3 h4
 ·obtain⟨x,hx,rfl⟩:=List.mem_map.mp hm
  rw[ZYL F]
  exact h.hung x hx
end
theorem ZEB{r:List Device}{sc:List Cue}{w:List Gust}{T:Int}(hr:RigP r)(hs:ScoreP sc)(hw:WindP w)(hT:0<=T/\T<=64):ShowV (r,sc,w,T,()):=by
 have l1:=hr.len;have l2:=hs.len;have l3:=hw.len
 have hok:ShowOK (r,sc,w,T,()):=by
  constructor
  all_goals first
   | exact ZEs hr
   | exact ZRa hs
   | (show r.length<=1048576;omega)
   | (show sc.length<=1048576;omega)
   | (show w.length<=1048576;omega)
 exact⟨hok,hr,(ZHv (ZRa hs) (show sc.length<=1048576 by omega)).2 hs,(ZFc (show w.length<=1048576 by omega)).2 hw,hT⟩
theorem ZYN{w:List Gust}(h:WindP w)(n:Int):WindP (w.map (mvG n)):=by
 refine⟨by simpa using h.len,λg hg=> ?_,λi a b h1 h2=> ?_⟩
 ·have:=ZYJ (n:=n) (ZYH h) g hg
  obtain⟨x,hx,rfl⟩:=List.mem_map.mp hg
  refine⟨(h.gust x hx).1,?_⟩
  unfold isDr
  rw[ZAZ this.1.1 this.1.2,ZAZ this.2.1 this.2.2];rfl
 ·rw[List.getElem?_map]at h1 h2
  cases h3:w[i]? with
  | none=>rw[h3]at h1;cases h1
  | some x=>
   cases h4:w[i+1]? with
   | none=>rw[h4]at h2;cases h2
   | some y=>
    rw[h3]at h1;rw[h4]at h2
    simp only[Option.map_some,Option.some.injEq]at h1 h2
    subst h1 h2
    exact h.lt i x y h3 h4
theorem ZYO{s:ZAM}(h:ShowV s)(n:Int):ShowV (mvS n s):=
 ZEB (ZYM (ZYI n) h.rig λd hd=>ZQC n (h.rig.dev d hd)) (ZFd h) (ZYN (ZEt h) n) h.tick
end Ev
end
noncomputable section
namespace Ev
open Go
structure BoxP(l:List Place)(B:Box):Prop where
 inn: ∀p∈l,(B.Low.X<=p.X/\p.X<=B.High.X)/\B.Low.Y<=p.Y/\p.Y<=B.High.Y
 lx: ∃p∈l,p.X=B.Low.X
 hx: ∃p∈l,p.X=B.High.X
 ly: ∃p∈l,p.Y=B.Low.Y
 hy: ∃p∈l,p.Y=B.High.Y
def ZYP(p:Place):BoxP [p] ⟨p,p⟩:=
 ⟨λq hq=>by rw[List.mem_singleton]at hq;subst hq;exact⟨⟨Int.le_refl _,Int.le_refl _⟩,Int.le_refl _,Int.le_refl _⟩,⟨p,by simp,rfl⟩,⟨p,by simp,rfl⟩,⟨p,by simp,rfl⟩,⟨p,by simp,rfl⟩⟩
def ZYQ{l:List Place}{b:Box}(h:BoxP l b)(p:Place):BoxP (l++[p]) (grow b p):=by
 have e: ∀q:Place,q∈l->q∈l++[p]:=λq hq=>List.mem_append_left _ hq
 have ep:p∈l++[p]:=by simp
 have m1:=ZDy b.Low.X p.X;have m2:=ZDy b.Low.Y p.Y
 have m3:=ZGC b.High.X p.X;have m4:=ZGC b.High.Y p.Y
 refine⟨λq hq=> ?_,?_,?_,?_,?_⟩
 ·unfold grow
  simp only[m1,m2,m3,m4]
  rcases List.mem_append.mp hq with hq | hq
  ·have:=h.inn q hq
   refine⟨⟨?_,?_⟩,?_,?_⟩<;>split<;>omega
  ·rw[List.mem_singleton]at hq;subst hq
   refine⟨⟨?_,?_⟩,?_,?_⟩<;>split<;>omega
 ·obtain⟨q,hq,hx⟩:=h.lx
  unfold grow;simp only[m1]
  split
  ·exact⟨p,ep,rfl⟩
  ·exact⟨q,e q hq,hx⟩
 ·obtain⟨q,hq,hx⟩:=h.hx
  unfold grow;simp only[m3]
  split
  ·exact⟨p,ep,rfl⟩
  ·exact⟨q,e q hq,hx⟩
 ·obtain⟨q,hq,hx⟩:=h.ly
  unfold grow;simp only[m2]
  split
  ·exact⟨p,ep,rfl⟩
  ·exact⟨q,e q hq,hx⟩
 ·obtain⟨q,hq,hx⟩:=h.hy
  unfold grow;simp only[m4]
  split
  ·exact⟨p,ep,rfl⟩
  ·exact⟨q,e q hq,hx⟩
def ZYR{r:List Place}(hr:r.length<=1048576)(h1:1<=r.length)(hp: ∀p∈r,isPl p=true): ∃B,G214 (r,())=some (B,true,())/\BoxP r B:=by
 obtain⟨p0,l,rfl⟩: ∃p l,r=p::l:=by
  cases r with
  | nil=>simp at h1
  | cons p l=>exact⟨p,l,rfl⟩
 generalize hrr:p0::l=r at hr h1 hp⊢
 have h0:r[0]?=some p0:=by rw[<-hrr];rfl
 have inv: ∀i,i<r.length->BoxP (r.take (i+1)) ((r.take (i+1)).foldl grow ⟨p0,p0⟩):=by
  intro i
  induction i with
  | zero=>
   intro _
   have:r.take 1=[p0]:=by rw[<-hrr];rfl
   rw[this]
   have e:[p0].foldl grow ⟨p0,p0⟩=⟨p0,p0⟩:=by
    simp only[List.foldl_cons,List.foldl_nil,grow,ZLa,ZLb]
   rw[e]
   exact ZYP p0
  | succ i ih=>
   intro hi
   rw[ZDm r (i+1) hi,List.foldl_append]
   exact ZYQ (ih (by omega)) _
 refine⟨r.foldl grow ⟨p0,p0⟩,?_,?_⟩
 ·unfold G214 F214
  simp only
  rw[ZAA (by simp only[ZAT];omega),show rdL r 0=λ(K:Place->Option (Box×Bool×Unit))=>K p0 from funext λK=>ZAF (i:=0) h0]
  dsimp only
  have:=ZAU (f:=s214_0 G124) (K:=λt6=>some (t6.2.1,true,())) (λi=>((⟨⟨0,0⟩,⟨0,0⟩⟩:Box),(r.take i).foldl grow ⟨p0,p0⟩,r,Int.ofNat r.length,(i:Int),())) r.length (by omega)
   (by
    intro i hi rec K
    have hx:r[i]?=some r[i]:=by simp
    have e1:w64 ((i:Int)+1)=((i+1:Nat):Int):=ZAC
    have hpl:G124 (r[i],())=some (isPl r[i],()):=ZB1 _
    rw[ZB6 _ _ r i hi]
    simp only[s214_0]
    rw[ZA,ZAF hx,hpl,hp _ (by simp),e1]
    rfl)
   (by
    intro rec K
    simp only[s214_0]
    rw[ZAA])
  have e0:(r.take 0).foldl grow ⟨p0,p0⟩=⟨p0,p0⟩:=rfl
  have en:r.take r.length=r:=List.take_length
  simp only[en]at this
  rw[e0]at this
  exact this
 ·have:=inv (r.length-1) (by omega)
  rw[show r.length-1+1=r.length by omega,List.take_length]at this
  exact this
def ZCM(n:Int)(p:Place):Place:=⟨n*p.X,n*p.Y⟩
structure RoseV(r:List Place):Prop where
 len:1<=r.length/\r.length<=4
 sm: ∀p∈r,isDr p=true
 isI:G51 (r,())=some (true,())
def ZMq{r:List Place}(hr:r.length<=1048576)(h:G51 (r,())=some (true,())):RoseV r:=by
 obtain⟨b,q1,q3⟩:=ZLZ r hr
 have q1:G51 (r,())=some (b,()):=q1
 have hb:b=true:=by rw[h]at q1;cases q1;rfl
 subst hb
 obtain⟨p1,p2,p3⟩:=q3 rfl
 exact⟨⟨p1,p2⟩,p3,q1⟩
def ZEv{n x:Int}(h0:0<=n)(h1:n<=128)(hx: -8<=x/\x<=8):w64 (n*x)=n*x/\ -(8*n)<=n*x/\n*x<=8*n:=by
 have a:n*x<=n*8:=Int.mul_le_mul_of_nonneg_left hx.2 h0
 have b:n*(-8)<=n*x:=Int.mul_le_mul_of_nonneg_left hx.1 h0
 exact⟨ZAC,by omega,by omega⟩
def ZYS{r:List Place}(h:RoseV r): ∃C,BoxP r C/\(Sm 8 C.Low/\Sm 8 C.High)/\ ∀n:Int,0<=n->n<=128->G301 (r,n,())=some (⟨ZCM n C.Low,ZCM n C.High⟩,true,()):=by
 obtain⟨C,c1,c2⟩:=ZYR (r:=r) (by have:=h.len;omega) h.len.1 (λp hp=>by
  have:=ZEu (h.sm p hp)
  unfold isPl
  rw[ZAZ (by have:=this.1;omega) (by have:=this.1;omega),ZAZ (by have:=this.2;omega) (by have:=this.2;omega)];rfl)
 obtain⟨a1,p1,q1⟩:=c2.lx;obtain⟨a2,p2,q2⟩:=c2.hx;obtain⟨a3,p3,q3⟩:=c2.ly;obtain⟨a4,p4,q4⟩:=c2.hy
 have s1:=ZEu (h.sm a1 p1);have s2:=ZEu (h.sm a2 p2);have s3:=ZEu (h.sm a3 p3);have s4:=ZEu (h.sm a4 p4)
 have hC:Sm 8 C.Low/\Sm 8 C.High:=⟨⟨by rw[<-q1];exact s1.1,by rw[<-q3];exact s3.2⟩,by rw[<-q2];exact s2.1,by rw[<-q4];exact s4.2⟩
 refine⟨C,c2,hC,λn h0 h1=> ?_⟩
 have hw:G121 (n,0,128,())=some (wi n 0 128,()):=ZA9 _ _ _
 unfold G301 F301
 simp only[h.isI,hw,ZAZ h0 h1,c1,al_bind_some,ZA4]
 rw[(ZEv h0 h1 hC.1.1).1,(ZEv h0 h1 hC.1.2).1,(ZEv h0 h1 hC.2.1).1,(ZEv h0 h1 hC.2.2).1]
 rfl
def lbE(j:Jet)(C:Box):Box:=⟨add (pN j (fl j)) (ZCM (fl j) C.Low),add (pN j (fl j)) (ZCM (fl j) C.High)⟩
def ZRt{j:Jet}(h:ZAk j=true):ZBN j=(pN j (fl j),true):=by
 have hf:fl j=j.Lift+1:=by unfold fl;rw[al_if_pos h]
 have J:=ZBk h
 have hl:=J.l
 unfold ZBN
 rw[al_if_pos h,<-ZRq J (by omega) (by omega),hf]
 rfl
def ZMr{n:Int}(h0:0<=n)(h1:n<=33){p:Place}(h:Sm 8 p):Sm 264 (ZCM n p):=by
 have a:=ZEv h0 (by omega) h.1
 have b:=ZEv h0 (by omega) h.2
 exact⟨⟨by simp only[ZCM];omega,by simp only[ZCM];omega⟩,by simp only[ZCM];omega,by simp only[ZCM];omega⟩
def ZYT{r:List Place}{C:Box}(hC:Sm 8 C.Low/\Sm 8 C.High)(hB: ∀n:Int,0<=n->n<=128->G301 (r,n,())=some (⟨ZCM n C.Low,ZCM n C.High⟩,true,())){j:Jet}(h:ZAk j=true):
  G213 (j,r,())=some (lbE j C,true,())/\Sm 1816 (lbE j C).Low/\Sm 1816 (lbE j C).High:=by
 have hb:=ZC3 j
 have h1:=ZRr (ZBk h) hb.1 hb.2
 have s1:=ZMr hb.1 hb.2 hC.1
 have s2:=ZMr hb.1 hb.2 hC.2
 have hl:G125 (j,())=some ((ZBN j).1,(ZBN j).2,()):=ZLX j
 have e1:=ZMp (m:=1552) (n:=264) (by omega) h1 s1
 have e2:=ZMp (m:=1552) (n:=264) (by omega) h1 s2
 refine⟨?_,ZRp h1 s1,ZRp h1 s2⟩
 unfold G213 F213 lbE
 simp only[hl,ZHj,hB (fl j) hb.1 (by omega),ZRt h,al_bind_some,ZA4]
 rw[<-e1,<-e2]
 rfl
def InP(c:Box)(p:Place):Prop:=(c.Low.X<=p.X/\p.X<=c.High.X)/\c.Low.Y<=p.Y/\p.Y<=c.High.Y
def ZRu{c:Box}(hc:isBx c=true)(p:Place):inBx c p=true↔InP c p:=by
 unfold inBx InP
 rw[hc,Bool.true_and,ZAJ,ZAj,ZAj]
def ZYU{b c:Box}(hc:isBx c=true):isIn b c=true↔InP c b.Low/\InP c b.High:=by
 unfold isIn
 rw[ZAJ,ZRu hc,ZRu hc]
def ZRv(C:Box)(s:ZAM)(c:Box):Prop:= ∀x∈ZAO s,InP c (lbE x.jet C).Low/\InP c (lbE x.jet C).High
end Ev
end
noncomputable section
namespace Ev
open Go
theorem ZRw{d:Device}(hd:devB d=true)(hk:d.Kind=2):0<=d.Most/\d.Most<=32:=by
 unfold devB at hd
 rw[ZAJ]at hd
 have:=hd.2
 rw[al_if_neg (by rw[hk];decide),al_if_pos hk]at this
 simp only[ZAJ]at this
 exact ZAj.1 this.2.2.2
theorem ZYV(d:Device){r:List Place}(hr:r.length<=1048576)(c:Box)(x:Int):lbB d r c x=(lbb ⟨⟨d.At.X,d.At.Y⟩,d.Heading,d.Tilt,x⟩ r && isIn (lbx ⟨⟨d.At.X,d.At.Y⟩,d.Heading,d.Tilt,x⟩ r) c):=by
 have e:gLB ((⟨⟨d.At.X,d.At.Y⟩,d.Heading,d.Tilt,x⟩:Jet),r,())=some (lbx ⟨⟨d.At.X,d.At.Y⟩,d.Heading,d.Tilt,x⟩ r,lbb ⟨⟨d.At.X,d.At.Y⟩,d.Heading,d.Tilt,x⟩ r,()):=ZM _ r hr
 unfold lbB
 rw[e]
theorem ZYW(d:Device)(r:List Place)(c:Box)(h1:d.Name.length<=1048576)(h2:d.Line.length<=1048576)(hr:r.length<=1048576): ∃v,G208 (d,r,c,())=some (v,())/\((devB d=true/\d.Kind=2/\LimP d r c v)\/(¬(devB d=true/\d.Kind=2)/\v=0)):=by
 have hdv:G192 (d,())=some (devB d,()):=(ZC1 d h1 h2).2
 unfold G208 F208
 simp only[hdv,al_bind_some]
 cases hd:devB d
 ·exact⟨0,rfl,.inr ⟨by simp,rfl⟩⟩
 by_cases hk:d.Kind=2
 ·obtain⟨m0,m1⟩:=ZRw hd hk
  rw[ZAH hk]
  simp only[ZA4]
  have key: ∀(e i n:Nat),i+e=d.Most.toNat->e<n-> ∃v,
    ZAD (s208_0 G192 G213 G294) n (r,d,c,((i+1:Nat):Int),()) (λt5=>some (t5.2.1.Most,()))=some (v,())/\(i:Int)<=v/\v<=d.Most/\(∀x:Int,(i:Int)<x->x<=v->lbB d r c x=true)/\(v<d.Most->lbB d r c (v+1)=false):=by
   intro e
   induction e with
   | zero=>
    intro i n he hn
    obtain⟨n,rfl⟩: ∃k,n=k+1:=⟨n-1,by omega⟩
    refine⟨d.Most,?_,by omega,by omega,λx h1 h2=>by omega,λh=>by omega⟩
    rw[ZAS];simp only[s208_0];rw[ZAA]
   | succ e ih=>
    intro i n he hn
    obtain⟨n,rfl⟩: ∃k,n=k+1:=⟨n-1,by omega⟩
    have e1:w64 (((i+1:Nat):Int)+1)=((i+1+1:Nat):Int):=ZAC
    have e2:w64 (((i+1:Nat):Int) -1)=(i:Int):=by rw[ZAC];omega
    have hlb:=ZYV d hr c ((i+1:Nat):Int)
    have hl:=ZM ⟨⟨d.At.X,d.At.Y⟩,d.Heading,d.Tilt,((i+1:Nat):Int)⟩ r hr
    generalize lbb ⟨⟨d.At.X,d.At.Y⟩,d.Heading,d.Tilt,((i+1:Nat):Int)⟩ r=b at hlb hl
    generalize lbx ⟨⟨d.At.X,d.At.Y⟩,d.Heading,d.Tilt,((i+1:Nat):Int)⟩ r=B at hlb hl
    have hlb:lbB d r c ((i:Int)+1)=(b && isIn B c):=by rw[<-hlb];congr 1
    obtain⟨v,g2,g3,g4,g5,g6⟩:=ih (i+1) n (by omega) (by omega)
    cases hb:b
    ·refine⟨(i:Int),?_,by omega,by omega,λx h1 h2=>by omega,λ_=>by rw[hlb,hb];rfl⟩
     rw[ZAS];simp only[s208_0];rw[ZA]
     simp only[hl,hb,al_bind_some,e2]
     rfl
    ·cases hin:isIn B c
     ·refine⟨(i:Int),?_,by omega,by omega,λx h1 h2=>by omega,λ_=>by rw[hlb,hb,hin];rfl⟩
      rw[ZAS];simp only[s208_0];rw[ZA]
      simp only[hl,hb,al_bind_some,ZQs,hin,e2]
      rfl
     ·refine⟨v,?_,by omega,by omega,λx h1 h2=> ?_,g6⟩
      ·rw[ZAS];simp only[s208_0];rw[ZA]
       simp only[hl,hb,al_bind_some,ZQs,hin,e1]
       exact g2
      ·by_cases hx:x=(i:Int)+1
       ·rw[hx,hlb,hb,hin];rfl
       ·exact g5 x (by omega) h2
  obtain⟨v,g2,g3,g4,g5,g6⟩:=key d.Most.toNat 0 fuel (by omega) (by rw[ZBx];omega)
  exact⟨v,g2,.inl ⟨by first | rfl | trivial,hk,⟨by omega,g4⟩,λx h1 h2=>g5 x (by omega) h2,g6⟩⟩
 ·rw[ZAE hk]
  exact⟨0,rfl,.inr ⟨λh=>hk h.2,rfl⟩⟩
theorem ZMs(d:Device)(r:List Place)(c:Box)(h1:d.Name.length<=1048576)(h2:d.Line.length<=1048576)(hr:r.length<=1048576):G208 (d,r,c,())=some (limV r c d,())/\((devB d=true/\d.Kind=2/\LimP d r c (limV r c d))\/(¬(devB d=true/\d.Kind=2)/\limV r c d=0)):=by
 obtain⟨v,g2,g3⟩:=ZYW d r c h1 h2 hr
 have:limV r c d=v:=by unfold limV;rw[g2];rfl
 rw[this]
 exact⟨g2,g3⟩
theorem ZYX{s:ZAM}(h:ShowV s){r:List Place}(hr:RoseV r){c:Box}(hc:isBx c=true):G109 (s,r,c,())=some (lmS r c s,true,()):=by
 have hrl:r.length<=1048576:=by have:=hr.len;omega
 have hlen:=h.ok.rig
 have hI:G50 (s,())=some (true,()):=by rw[ZDT s h.ok,ZEi h]
 unfold G109 F109
 simp only[ZBI,hI,hr.isI,ZEk,hc,ZQw s h.ok,al_bind_some,ZA4]
 refine(ZAU (f:=s109_0 G50 G51 G52 G94 G208) (K:=λt9=>some ((t9.2.2.2.1.1,t9.2.2.2.1.2.1,t9.2.2.2.1.2.2.1,t9.2.2.2.1.2.2.2.1,()),true,())) (λi=>(r,c,([],[],[],0,()),(lmAt r c s.1 i,s.2.1,s.2.2.1,s.2.2.2.1,()),(),Int.ofNat s.1.length,(i:Int),())) s.1.length (by omega) ?_ ?_).trans ?_
 ·intro i hi rec K
  have hx:=ZJQ r c s.1 i hi
  have hx':=λ(K:Device->Option ((List Device×List Cue×List Gust×Int×Unit)×Bool×Unit))=>ZAF (K:=K) hx
  have e1:w64 ((i:Int)+1)=((i+1:Nat):Int):=ZAC
  obtain⟨n1,n2⟩:=h.ok.devs s.1[i] (by simp)
  have hv:=(ZMs s.1[i] r c n1 n2 hrl).1
  simp only[s109_0]
  rw[ZA]
  simp only[hx',hx,ZAW,al_bind_some,e1]
  by_cases hk:s.1[i].Kind=2
  ·rw[ZA hk,hv]
   simp only[hx',hx,al_bind_some]
   have:=ZJR r c s.1 i hi
   unfold lmD at this
   rw[al_if_pos hk]at this
   rw[this]
  ·rw[ZAA hk,<-ZMA r c s.1 i hi hk]
 ·intro rec K
  simp only[s109_0]
  rw[ZAA]
 ·simp[lmAt,lmS]
structure K3(f:Device->Device):Prop where
 name: ∀d,(f d).Name=d.Name
 kind: ∀d,(f d).Kind=d.Kind
 line: ∀d,(f d).Line=d.Line
section
variable {f:Device->Device} (F:K3 f)
include F
theorem ZRx(s:Str): ∀(l:List Device) (i:Nat),ZCo s i (l.map f)=ZCo s i l
 | [],i=>rfl
 | d::l,i=>by simp only[List.map_cons,ZCo,F.name,ZRx s l]
theorem ZYY(l:List Device)(s:Str):fnd (l.map f) s=fnd l s:=ZRx F s l 0
theorem ZYZ(l:List Device)(d:Device):ZBH (l.map f) (f d)=ZBH l d:=by
 unfold ZBH
 rw[F.kind,F.line,ZYY F]
 congr 2
 unfold ZFN
 rw[List.getElem?_map]
 cases l[(fnd l d.Line).toNat]? with
 | none=>rfl
 | some x=>simp only[Option.map_some,Option.getD_some,F.kind]
theorem ZRy{l:List Device}(h:RigP l)(hd: ∀d∈l,devB (f d)=true):RigP (l.map f):=by
 refine⟨by simpa using h.len,λd hm=> ?_,λi d e h1 h2=> ?_,λd hm=> ?_⟩
 ·obtain⟨x,hx,rfl⟩:=List.mem_map.mp hm
  exact hd x hx
 ·rw[List.getElem?_map]at h1 h2
  cases h3:l[i]? with
  | none=>rw[h3]at h1;cases h1
  | some a=>
   cases h4:l[i+1]? with
   | none=>rw[h4]at h2;cases h2
   | some b=>
    rw[h3]at h1;rw[h4]at h2
    simp only[Option.map_some,Option.some.injEq]at h1 h2
    subst h1 h2
    rw[F.name,F.name]
    exact h.lt i a b h3 h4
 ·obtain⟨x,hx,rfl⟩:=List.mem_map.mp hm
  rw[ZYZ F]
  exact h.hung x hx
end
theorem ZRz(r:List Place)(c:Box):K3 (lmD r c):=by
 constructor<;>intro d<;>unfold lmD<;>split<;>rfl
theorem ZYa{r:List Place}(hr:r.length<=1048576)(c:Box){d:Device}(h:devB d=true):devB (lmD r c d)=true:=by
 unfold lmD
 by_cases hk:d.Kind=2
 ·rw[al_if_pos hk]
  obtain⟨n1,n2⟩:=ZMa h
  obtain⟨m0,m1⟩:=ZRw h hk
  rcases (ZMs d r c (by omega) (by omega) hr).2 with ⟨_,_,hl⟩ | ⟨hn,_⟩
  ·have hb:=hl.range
   unfold devB at h
   rw[ZP7]
   rw[ZAJ]at h⊢
   refine⟨h.1,?_⟩
   have h:=h.2
   rw[al_if_neg (by rw[hk];decide),al_if_pos hk]at h⊢
   simp only[ZAJ]at h⊢
   exact⟨h.1,h.2.1,h.2.2.1,ZAZ (by omega) (by omega)⟩
  ·exact absurd ⟨h,hk⟩ hn
 ·rw[al_if_neg hk];exact h
theorem ZJm{s:ZAM}(h:ShowV s){r:List Place}(hr:r.length<=1048576)(c:Box):ShowV (lmS r c s):=
 ZEB (ZRy (ZRz r c) h.rig λd hd=>ZYa hr c (h.rig.dev d hd)) (ZFd h) (ZEt h) h.tick
theorem ZYb{s:ZAM}(h:ShowV s){r:List Place}(hr:RoseV r){C:Box}(hC:Sm 8 C.Low/\Sm 8 C.High)(hB: ∀n:Int,0<=n->n<=128->G301 (r,n,())=some (⟨ZCM n C.Low,ZCM n C.High⟩,true,())){c:Box}(hc:isBx c=true):ZRv C (lmS r c s) c:=by
 have hrl:r.length<=1048576:=by have:=hr.len;omega
 have hv:=ZJm h hrl c
 intro x hx
 have tp:=ZFS hv hx
 obtain⟨i,d',hd',hk,_,hj,_,hmost⟩:=tp.dev
 have hd2:(s.1.map (lmD r c))[i]?=some d':=hd'
 rw[List.getElem?_map]at hd2
 cases h3:s.1[i]? with
 | none=>rw[h3]at hd2;cases hd2
 | some d=>
  rw[h3]at hd2
  simp only[Option.map_some,Option.some.injEq]at hd2
  subst hd2
  have hdv:=h.rig.dev d (ZFb h3)
  have hkd:d.Kind=2:=by rw[(ZRz r c).kind]at hk;exact hk
  have el:lmD r c d=⟨d.Name,d.Kind,d.Line,⟨d.At.X,d.At.Y⟩,d.Heading,d.Tilt,limV r c d⟩:=by unfold lmD;rw[al_if_pos hkd]
  rw[el]at hj hmost
  simp only at hj hmost
  obtain⟨n1,n2⟩:=ZMa hdv
  rcases (ZMs d r c (by omega) (by omega) hrl).2 with ⟨_,_,hl⟩ | ⟨hn,_⟩
  ·have J:=ZBk tp.jet
   have hlb:=hl.below x.jet.Lift (by have:=J.l;omega) hmost
   have hbox:=(ZYT hC hB tp.jet).1
   unfold lbB at hlb
   rw[<-hj]at hlb
   have hbox:gLB (x.jet,r,())=some (lbE x.jet C,true,()):=hbox
   rw[hbox]at hlb
   simp only[Bool.true_and]at hlb
   exact(ZYU hc).1 hlb
  ·exact absurd ⟨hdv,hkd⟩ hn
theorem ZR0(l:List Device)(hl:l.length<=1048576):G23 (l,l,())=some (true,()):=by
 unfold G23 F23
 simp only[decide_true,ZAG,al_cond_false]
 refine(ZAU (f:=s23_0) (K:=λt4=>some (true,())) (λi=>(l,l,(i:Int),())) l.length (by omega) ?_ ?_).trans rfl
 ·intro i hi rec K
  have hx:l[i]?=some l[i]:=by simp
  have e1:w64 ((i:Int)+1)=((i+1:Nat):Int):=ZAC
  simp only[s23_0]
  rw[ZA,ZAF hx,ZAF hx,e1]
  simp only[decide_true,Bool.and_self,ZAG,al_cond_false]
 ·intro rec K
  simp only[s23_0]
  rw[ZAA]
end Ev
end
noncomputable section
namespace Ev
open Go
theorem ZR1(sep x:Str): ∀(l:List Str),l≠[]->Go.Lib.join (l++[x]) sep=(Go.Lib.join l sep++sep)++x
 | [],h=>absurd rfl h
 | [y],_=>by
  rw[Go.Lib.join_one,show [y]++[x]=[y,x]from rfl,Go.Lib.join_cons]
  simp[Go.Lib.joinTail]
 | y::z::l,_=>by
  have ih:=ZR1 sep x (z::l) (by simp)
  rw[Go.Lib.join_cons]at ih
  rw[show y::z::l++[x]=y::(z::(l++[x]))from rfl,Go.Lib.join_cons,Go.Lib.join_cons]
  have e: ∀a (m:List Str),Go.Lib.joinTail sep (a::m)=(sep++a)++Go.Lib.joinTail sep m:=λa m=>by simp[Go.Lib.joinTail]
  rw[e,e]
  rw[show z::l++[x]=z::(l++[x])from rfl,Go.Lib.join_cons]at ih
  have ih':=ih
  simp only[List.append_assoc]at ih'⊢
  rw[ih']
theorem ZR2(sep:Str)(M:Nat): ∀(l:List Str),(∀x∈l,x.length<=M)->(Go.Lib.join l sep).length<=l.length*(M+sep.length)
 | [],_=>by simp[Go.Lib.join_nil]
 | x::l,h=>by
  rw[Go.Lib.join_cons,al_len_append]
  have hx:=h x (by simp)
  have ht:(Go.Lib.joinTail sep l).length<=l.length*(M+sep.length):=by
   have: ∀l:List Str,(∀x∈l,x.length<=M)->(Go.Lib.joinTail sep l).length<=l.length*(M+sep.length):=by
    intro l
    induction l with
    | nil=>intro _;simp[Go.Lib.joinTail]
    | cons y r ih=>
     intro hr
     have e:Go.Lib.joinTail sep (y::r)=(sep++y)++Go.Lib.joinTail sep r:=by simp[Go.Lib.joinTail]
     rw[e,al_len_append,al_len_append,al_len_cons,Nat.add_mul,Nat.one_mul]
     have:=ih λz hz=>hr z (by simp[hz])
     have:=hr y (by simp)
     omega
   exact this l λy hy=>h y (by simp[hy])
  rw[al_len_cons,Nat.add_mul,Nat.one_mul]
  omega
theorem ZR3(l:List Str)(sep:Str)(M:Nat)(hM: ∀x∈l,x.length<=M)(hb:l.length*(M+sep.length)<=1073741824)(hl:l.length<=1048577):G12 (l,sep,())=some (Go.Lib.join l sep,()):=by
 unfold G12 F12
 have:G40 (l,sep,())=some (Go.Lib.join l sep,()):=by
  show ZIu (l,sep,())=_
  unfold ZIu
  have:=ZR2 sep M l hM
  rw[al_if_pos ⟨by show l.length<=_;omega,by show(Go.Lib.join l sep).length<=_;omega⟩]
 rw[this];rfl
theorem ZR4(l:List Str)(sep:Str)(M:Nat)(hM: ∀x∈l,x.length<=M)(hb:l.length*(M+sep.length)<=1073741824)(hl:l.length<=1048577):G37 (l,sep,())=some (Go.Lib.join l sep,()):=by
 unfold G37 F37
 refine(ZAU (f:=s37_0) (K:=λx1=>some (x1.2.1,())) (λi=>(sep,Go.Lib.join (l.take i) sep,l,Int.ofNat l.length,(i:Int),())) l.length (by omega) ?_ ?_).trans (by rw[List.take_length])
 ·intro i hi rec K
  have hx:l[i]?=some l[i]:=by simp
  have w1:w64 ((i:Int)+1)=((i+1:Nat):Int):=ZAC
  have hb1:=ZR2 sep M (l.take i) λx hx=>hM x (List.mem_of_mem_take hx)
  have hlx:=hM l[i] (by simp)
  have hmul:(l.take i).length*(M+sep.length)+(M+sep.length)<=1073741824:=by
   have e:(l.take i).length+1<=l.length:=by rw[al_len_take];omega
   have:=Nat.mul_le_mul_right (M+sep.length) e
   rw[Nat.add_mul,Nat.one_mul]at this
   omega
  simp only[s37_0,ZAF hx,w1]
  rw[ZA,ZBq l i hi]
  by_cases h0:i=0
  ·subst h0
   rw[ZAA (by decide),ZAB (by simp[Go.Lib.join_nil];omega)]
   simp[Go.Lib.join_nil,Go.Lib.join_one]
  ·have hne:l.take i≠[]:=λe=>h0 (by have:=congrArg List.length e;rw[al_len_take,al_len_nil]at this;omega)
   generalize (l.take i).length*(M+sep.length)=q at hmul hb1
   have a1:(Go.Lib.join (l.take i) sep).length+sep.length<=1099511627776:=by omega
   have a2:(Go.Lib.join (l.take i) sep++sep).length+(l[i]).length<=1099511627776:=by rw[al_len_append];omega
   rw[ZA,ZAB a1,ZAB a2,ZR1 _ _ _ hne]
 ·intro rec K
  simp only[s37_0]
  rw[ZAA]
def ZJn:Str:=[110,111,110,101]
def ZBt(l:List Str):Str:=if l=[]then ZJn else Go.Lib.join l [59,32]
theorem ZMt(l:List Str)(M:Nat)(hM: ∀x∈l,x.length<=M)(hb:l.length*(M+2)<=1073741824)(hl:l.length<=1048577):G112 (l,())=some (ZBt l,()):=by
 unfold G112 F112 ZBt
 by_cases h:l=[]
 ·subst h;rfl
 ·rw[al_if_neg h,ZAA (by simp[h]),ZR3 l [59,32] M hM hb hl];rfl
theorem ZR5(l:List Str)(M:Nat)(hM: ∀x∈l,x.length<=M)(hb:l.length*(M+2)<=1073741824)(hl:l.length<=1048577):G254 (l,())=some (ZBt l,()):=by
 unfold G254 F254 ZBt
 by_cases h:l=[]
 ·subst h;rfl
 ·rw[al_if_neg h,ZAA (by simp[h]),ZR4 l [59,32] M hM hb hl];rfl
structure DropK(x:Drop):Prop where
 nm:x.From.length<=8
 b:0<=x.Born/\x.Born<=1000000
def ZHy(x:Drop):Str:=(((x.From++[32])++Go.Lib.itoa x.Born)++[32])++ZAm x.At
def ZBQ(high:Bool)(x:Drop):Str:=if high=true then(ZHy x++[32])++ZAQ x.Height else ZHy x
theorem ZYc{x:Drop}(h:DropK x):(ZHy x).length<=100:=by
 have:=h.nm;have:=h.b
 have:=ZCp (n:=x.Born) (by omega) (by omega)
 have:=ZCI x.At
 unfold ZHy
 simp only[al_len_append,al_len_cons,al_len_nil];omega
theorem ZMu{x:Drop}(h:DropK x)(high:Bool):(ZBQ high x).length<=130:=by
 have:=ZYc h
 have:=ZBg x.Height
 unfold ZBQ
 split
 ·simp only[al_len_append,al_len_cons,al_len_nil];omega
 ·omega
theorem ZMv{α β:Type}(f:α->β)(r:List α)(i:Nat)(h:i<r.length):(r.take (i+1)).map f=(r.take i).map f++[f r[i]]:=(ZD2 f r i h).symm
theorem ZR6(L:List Drop)(hL:L.length<=512)(hK: ∀x∈L,DropK x)(high:Bool):G237 (L,high,())=some (ZBt (L.map (ZBQ high)),()):=by
 unfold G237 F237
 refine(ZAU (f:=s237_0 G78 G88 G147 G254) (K:=λx1=>(G254 (x1.2.1,())).bind λx2=>some (x2.1,())) (λi=>(high,(L.take i).map (ZBQ high),L,Int.ofNat L.length,(i:Int),())) L.length (by omega) ?_ ?_).trans ?_
 ·intro i hi rec K
  have hx:L[i]?=some L[i]:=by simp
  have hk:=hK L[i] (by simp)
  have w1:w64 ((i:Int)+1)=((i+1:Nat):Int):=ZAC
  have b0:=hk.nm;have b1:=hk.b
  have l1:=ZCp (n:=L[i].Born) (by omega) (by omega)
  have l2:=ZCI L[i].At
  have l3:=ZBg L[i].Height
  rw[ZMv (ZBQ high) L i hi]
  have hlo:((L.take i).map (ZBQ high)).length<=512:=by simp;omega
  generalize (L.take i).map (ZBQ high)=o at hlo
  simp only[s237_0,ZAF hx,w1,numS (n:=L[i].Born) (by omega) (by omega),fpS,fmS,al_bind_some,al_len_append,al_len_cons,al_len_nil]
  rw[ZA,ZAB,ZAB,ZAB,ZAB,ZAB,ZAB,ZAB,ZAB]
  unfold ZBQ ZHy
  cases high<;>rfl
 ·intro rec K
  simp only[s237_0]
  rw[ZAA]
 ·simp only
  rw[List.take_length,ZR5 _ 130 (λx hx=>by
   obtain⟨y,hy,rfl⟩:=List.mem_map.mp hx
   exact ZMu (hK y hy) high) (by simp;omega) (by simp;omega)]
  rfl
end Ev
namespace Ev
open Go
theorem ZR7{s:ZAM}(h:ShowV s)(t:Int): ∀x∈nowL s t,DropK x:=by
 have key: ∀(l:List Throw) (a:List Drop),(∀x∈l,x∈ZAO s)->(∀x∈a,DropK x)-> ∀x∈l.foldl (nowF s.2.2.1 t) a,DropK x:=by
  intro l
  induction l with
  | nil=>intro a _ ha;exact ha
  | cons y r ih=>
   intro a hl ha
   rw[List.foldl_cons]
   refine ih _ (λx hx=>hl x (by simp[hx])) λx hx=> ?_
   unfold nowF at hx
   split at hx
   ·rcases List.mem_append.mp hx with hx | hx
    ·exact ha x hx
    ·obtain rfl:=List.mem_singleton.mp hx
     have T:=ZFS h (hl y (by simp))
     obtain⟨i,d,hd,_,e,_⟩:=T.dev
     have hb:=T.born;have ht:=h.tick
     exact⟨by show y.name.length<=8;rw[e];exact ZBP (ZC7 (h.rig.dev d (al_mem_get hd))).nm,by show 0<=y.born;omega,by show y.born<=1000000;omega⟩
   ·exact ha x hx
 exact key (ZAO s) [] (λ_ h=>h) (by simp)
theorem ZR8{s:ZAM}(h:ShowV s): ∀x∈ZDV s,DropK x:=by
 have key: ∀(l:List Throw) (a:List Drop),(∀x∈l,x∈ZAO s)->(∀x∈a,DropK x)-> ∀x∈l.foldl (allF s.2.2.1) a,DropK x:=by
  intro l
  induction l with
  | nil=>intro a _ ha;exact ha
  | cons y r ih=>
   intro a hl ha
   rw[List.foldl_cons]
   refine ih _ (λx hx=>hl x (by simp[hx])) λx hx=> ?_
   unfold allF at hx
   rcases List.mem_append.mp hx with hx | hx
   ·exact ha x hx
   ·obtain rfl:=List.mem_singleton.mp hx
    have T:=ZFS h (hl y (by simp))
    obtain⟨i,d,hd,_,e,_⟩:=T.dev
    have hb:=T.born;have ht:=h.tick
    exact⟨by show y.name.length<=8;rw[e];exact ZBP (ZC7 (h.rig.dev d (al_mem_get hd))).nm,by show 0<=y.born;omega,by show y.born<=1000000;omega⟩
 exact key (ZAO s) [] (λ_ h=>h) (by simp)
section
variable (f110:T249) (f111:T329) (f113:T255) (f114:T238) (f115:T256) (f116:T256) (f22:T22) (f19:T19) (f117:T241) (f20:T20)
theorem ZYd(L:List Drop)(hL:L.length<=512)(hK: ∀x∈L,DropK x):ZAD (s49_3 f110 G21 f111 G112 f113 G54 G55 f114 f115 f116 f22 f19 f117 f20) fuel (([]:List Str),L,Int.ofNat L.length,0,()) (λx2=>(G112 (x2.1,())).bind λx3=>some (x3.1,()))=some (ZBt (L.map (ZBQ true)),()):=by
 refine(ZAU (f:=s49_3 f110 G21 f111 G112 f113 G54 G55 f114 f115 f116 f22 f19 f117 f20) (K:=λx2=>(G112 (x2.1,())).bind λx3=>some (x3.1,())) (λi=>((L.take i).map (ZBQ true),L,Int.ofNat L.length,(i:Int),())) L.length (by omega) ?_ ?_).trans ?_
 ·intro i hi rec K
  have hx:L[i]?=some L[i]:=by simp
  have hk:=hK L[i] (by simp)
  have w1:w64 ((i:Int)+1)=((i+1:Nat):Int):=ZAC
  have b0:=hk.nm;have b1:=hk.b
  have l1:=ZCp (n:=L[i].Born) (by omega) (by omega)
  have l2:=ZCI L[i].At
  have l3:=ZBg L[i].Height
  rw[ZMv (ZBQ true) L i hi]
  have hlo:((L.take i).map (ZBQ true)).length<=512:=by simp;omega
  generalize (L.take i).map (ZBQ true)=o at hlo
  simp only[s49_3,ZAF hx,ZAW,hx,w1,numI (n:=L[i].Born) (by omega) (by omega),fpI,fmI,al_bind_some,al_len_append,al_len_cons,al_len_nil]
  rw[ZA,ZAB,ZAB,ZAB,ZAB,ZAB,ZAB,ZAB]
  rfl
 ·intro rec K
  simp only[s49_3]
  rw[ZAA]
 ·simp only
  rw[List.take_length,ZMt _ 130 (λx hx=>by
   obtain⟨y,hy,rfl⟩:=List.mem_map.mp hx
   exact ZMu (hK y hy) true) (by simp;omega) (by simp;omega)]
  rfl
theorem ZYe(L:List Drop)(hL:L.length<=512)(hK: ∀x∈L,DropK x):ZAD (s49_5 f110 G21 f111 G112 f113 G54 G55 f114 f115 f116 f22 f19 f117 f20) fuel (([]:List Str),L,Int.ofNat L.length,0,()) (λx2=>(G112 (x2.1,())).bind λx3=>some (x3.1,()))=some (ZBt (L.map (ZBQ false)),()):=by
 refine(ZAU (f:=s49_5 f110 G21 f111 G112 f113 G54 G55 f114 f115 f116 f22 f19 f117 f20) (K:=λx2=>(G112 (x2.1,())).bind λx3=>some (x3.1,())) (λi=>((L.take i).map (ZBQ false),L,Int.ofNat L.length,(i:Int),())) L.length (by omega) ?_ ?_).trans ?_
 ·intro i hi rec K
  have hx:L[i]?=some L[i]:=by simp
  have hk:=hK L[i] (by simp)
  have w1:w64 ((i:Int)+1)=((i+1:Nat):Int):=ZAC
  have b0:=hk.nm;have b1:=hk.b
  have l1:=ZCp (n:=L[i].Born) (by omega) (by omega)
  have l2:=ZCI L[i].At
  rw[ZMv (ZBQ false) L i hi]
  have hlo:((L.take i).map (ZBQ false)).length<=512:=by simp;omega
  generalize (L.take i).map (ZBQ false)=o at hlo
  simp only[s49_5,ZAF hx,ZAW,hx,w1,numI (n:=L[i].Born) (by omega) (by omega),fpI,al_bind_some,al_len_append,al_len_cons,al_len_nil]
  rw[ZA,ZAB,ZAB,ZAB,ZAB,ZAB]
  rfl
 ·intro rec K
  simp only[s49_5]
  rw[ZAA]
 ·simp only
  rw[List.take_length,ZMt _ 130 (λx hx=>by
   obtain⟨y,hy,rfl⟩:=List.mem_map.mp hx
   exact ZMu (hK y hy) false) (by simp;omega) (by simp;omega)]
  rfl
def ZCs(r:List Device)(o:List Str)(q:Int×Nat):List Str:=if q.1=0 then o else o++[(ZC2 r q.2++[32])++ZAQ q.1]
def ZJo(s:ZAM)(L:List Int):List Str:=L.zipIdx.foldl (ZCs s.1) []
theorem ZHz(r:List Device): ∀(l:List (Int×Nat)) (o:List Str),(l.foldl (ZCs r) o).length<=o.length+l.length
 | [],o=>Nat.le_refl _
 | q::l,o=>by
  rw[List.foldl_cons]
  have:=ZHz r l (ZCs r o q)
  have h2:(ZCs r o q).length<=o.length+1:=by unfold ZCs;split<;>simp
  simp only[al_len_cons];omega
theorem ZMw(r:List Device)(hr: ∀d∈r,d.Name.length<=8): ∀(l:List (Int×Nat)) (o:List Str),(∀x∈o,x.length<=40)-> ∀x∈l.foldl (ZCs r) o,x.length<=40
 | [],o,h=>h
 | q::l,o,h=>by
  rw[List.foldl_cons]
  refine ZMw r hr l _ λx hx=> ?_
  unfold ZCs at hx
  split at hx
  ·exact h x hx
  ·rcases List.mem_append.mp hx with hx | hx
   ·exact h x hx
   ·obtain rfl:=List.mem_singleton.mp hx
    have:=ZBg q.1
    have hn:(ZC2 r q.2).length<=8:=by
     unfold ZC2
     cases e:r[q.2]? with
     | none=>simp
     | some d=>exact hr d (al_mem_get e)
    simp only[al_len_append,al_len_cons,al_len_nil];omega
theorem ZYf(s:ZAM)(hr: ∀d∈s.1,d.Name.length<=8)(L:List Int)(hL:L.length=s.1.length)(h8:L.length<=8):ZAD (s49_1 f110 G21 f111 G112 f113 G54 G55 f114 f115 f116 f22 f19 f117 f20) fuel (s,([]:List Str),L,Int.ofNat L.length,0,()) (λx2=>(G112 (x2.2.1,())).bind λx3=>some (x3.1,()))=some (ZBt (ZJo s L),()):=by
 have hzl:L.zipIdx.length=L.length:=List.length_zipIdx
 refine(ZAU (f:=s49_1 f110 G21 f111 G112 f113 G54 G55 f114 f115 f116 f22 f19 f117 f20) (K:=λx2=>(G112 (x2.2.1,())).bind λx3=>some (x3.1,())) (λi=>(s,(L.zipIdx.take i).foldl (ZCs s.1) [],L,Int.ofNat L.length,(i:Int),())) L.length (by omega) ?_ ?_).trans ?_
 ·intro i hi rec K
  have hx:L[i]?=some L[i]:=by simp
  have hd:s.1[i]?=some (s.1[i]'(by omega)):=al_get_get (by omega)
  have hnm:=hr (s.1[i]'(by omega)) (by simp)
  have w1:w64 ((i:Int)+1)=((i+1:Nat):Int):=ZAC
  have hlo:=ZHz s.1 (L.zipIdx.take i) []
  rw[al_len_take]at hlo
  simp only[al_len_nil]at hlo
  have e:=ZBq L.zipIdx i (by omega)
  have e2:L.zipIdx[i]'(by omega)=(L[i],i):=by simp
  have l3:=ZBg L[i]
  rw[e,List.foldl_append,List.foldl_cons,List.foldl_nil,e2]
  generalize (L.zipIdx.take i).foldl (ZCs s.1) []=o at hlo
  have hna:ZC2 s.1 i=(s.1[i]'(by omega)).Name:=by unfold ZC2;rw[hd];rfl
  simp only[s49_1,ZAF hx,ZAF hd,ZAW,hx,w1,fmI,al_bind_some,al_len_append,al_len_cons,al_len_nil]
  rw[ZA]
  unfold ZCs
  by_cases h0:L[i]=0
  ·rw[ZAH h0,al_if_pos h0];rfl
  ·rw[ZAE h0,al_if_neg h0]
   simp only[ZAK,al_cond_true]
   rw[ZAB,ZAB,ZAB,hna]
 ·intro rec K
  simp only[s49_1]
  rw[ZAA]
 ·simp only
  rw[<-hzl,List.take_length]
  have hlo:=ZHz s.1 L.zipIdx []
  simp only[al_len_nil]at hlo
  rw[ZMt _ 40 (ZMw s.1 hr _ [] (by simp)) (by omega) (by omega)]
  rfl
end
theorem ZYg(x y:List Device×List Cue×List Gust×Int×List Place×Int×Int×Int×Int×Unit)(s:ZAM)(hs:s.1=x.1)(hr: ∀d∈s.1,d.Name.length<=8)(L:List Int)(hL:L.length=s.1.length)(h8:L.length<=8)(hn: ∀v∈L,0<=v)(f1 f2 f3 f4 f5 f6 f7 f8 f9):
  ZAD (s151_1 f1 f2 f3 G147 f4 f5 f6 f7 f8 f9) fuel (x,y,([]:List Str),L,Int.ofNat L.length,0,()) (λx2=>(G254 (x2.2.2.1,())).bind λx3=>some (x2.1,x3.1,()))=some (x,ZBt (ZJo s L),()):=by
 have hzl:L.zipIdx.length=L.length:=List.length_zipIdx
 refine(ZAU (f:=s151_1 f1 f2 f3 G147 f4 f5 f6 f7 f8 f9) (K:=λx2=>(G254 (x2.2.2.1,())).bind λx3=>some (x2.1,x3.1,())) (λi=>(x,y,(L.zipIdx.take i).foldl (ZCs s.1) [],L,Int.ofNat L.length,(i:Int),())) L.length (by omega) ?_ ?_).trans ?_
 ·intro i hi rec K
  have hx:L[i]?=some L[i]:=by simp
  have hlx:i<x.1.length:=by rw[<-hs];omega
  obtain⟨d,hd⟩: ∃d,x.1[i]?=some d:=⟨_,al_get_get hlx⟩
  have hnm:=hr d (by rw[hs];exact al_mem_get hd)
  have w1:w64 ((i:Int)+1)=((i+1:Nat):Int):=ZAC
  have hlo:=ZHz s.1 (L.zipIdx.take i) []
  rw[al_len_take]at hlo
  simp only[al_len_nil]at hlo
  have e:=ZBq L.zipIdx i (by omega)
  have e2:L.zipIdx[i]'(by omega)=(L[i],i):=by simp
  have l3:=ZBg L[i]
  have hnn:=hn L[i] (by simp)
  rw[e,List.foldl_append,List.foldl_cons,List.foldl_nil,e2]
  generalize (L.zipIdx.take i).foldl (ZCs s.1) []=o at hlo
  have hna:ZC2 s.1 i=d.Name:=by unfold ZC2;rw[hs,hd];rfl
  simp only[s151_1,ZAF hx,ZAF hd,ZAW,hx,w1,fmS,al_bind_some,al_len_append,al_len_cons,al_len_nil]
  rw[ZA]
  unfold ZCs
  by_cases h0:L[i]=0
  ·rw[ZAA,al_if_pos h0]
  ·rw[ZA,al_if_neg h0]
   rw[ZAB,ZAB,ZAB,hna]
 ·intro rec K
  simp only[s151_1]
  rw[ZAA]
 ·simp only
  rw[<-hzl,List.take_length]
  have hlo:=ZHz s.1 L.zipIdx []
  simp only[al_len_nil]at hlo
  rw[ZR5 _ 40 (ZMw s.1 hr _ [] (by simp)) (by omega) (by omega)]
  rfl
end Ev
end
noncomputable section
namespace Ev
open Go
def devW:Str:=[100,101,118,105,99,101]
def remW:Str:=[114,101,109,111,118,101]
def cueW:Str:=[99,117,101]
def ZAc:Str:=[103,117,115,116]
def ZAv:Str:=[116,105,99,107,115]
def ZAa:Str:=[114,111,115,101]
def ZAh:Str:=[98,97,115,105,110]
def ZAn:Str:=[116,117,114,110]
def ZAi:Str:=[115,104,105,102,116]
def ZAw:Str:=[108,105,109,105,116]
def ZAd:Str:=[108,101,118,101,108]
def ZAt:Str:=[108,105,102,116,115]
def ZAu:Str:=[100,114,111,112,115]
def ZAo:Str:=[108,97,110,100,105,110,103,115]
def ZAx:Str:=[99,111,117,110,116]
def ZAp:Str:=[104,105,103,104]
def ZAq:Str:=[115,97,102,101]
def ZAr:Str:=[108,101,97,115,116]
def dryW:Str:=[100,114,121]
def ZDY:List Str:=[ZAw,ZAo,ZAp,ZAq,ZAr,dryW]
def ZBu:List Str:=[ZAv,ZAn,ZAt,ZAu,ZAx]
def ZC9:List Str:=[devW,cueW,remW,ZAc]++ZBu++[ZAa,ZAh,ZAi,ZAd]
theorem ZR9{w:Str}(h1:w∉ZDY)(h2:w∉ZC9):G97 (w,())=some ([],false,()):=by
 simp only[ZDY,ZC9,ZBu,List.mem_cons,List.mem_append,List.not_mem_nil,or_false,not_or]at h1 h2
 obtain⟨a1,a2,a3,a4,a5,a6⟩:=h1
 obtain⟨⟨⟨b1,b2,b3,b4⟩,b5,b6,b7,b8,b9⟩,b10,b11,b12,b13⟩:=h2
 unfold G97 F97
 unfold devW at b1;unfold cueW at b2;unfold remW at b3;unfold ZAc at b4;unfold ZAv at b5;unfold ZAn at b6;unfold ZAt at b7;unfold ZAu at b8;unfold ZAx at b9;unfold ZAa at b10;unfold ZAh at b11;unfold ZAi at b12;unfold ZAd at b13
 unfold ZAw at a1;unfold ZAo at a2;unfold ZAp at a3;unfold ZAq at a4;unfold ZAr at a5;unfold dryW at a6
 simp only[ZAE a1,ZAE a2,ZAE a3,ZAE a4,ZAE a5,ZAE a6,ZAE b1,ZAE b2,ZAE b3,ZAE b4,ZAE b5,ZAE b6,ZAE b7,ZAE b8,ZAE b9,ZAE b10,ZAE b11,ZAE b12,ZAE b13,al_cond_false]
theorem ZS{w:Str}(h:w∈ZDY):G97 (w,())=some ([],true,()):=by
 simp only[ZDY,List.mem_cons,List.not_mem_nil,or_false]at h
 rcases h with rfl | rfl | rfl | rfl | rfl | rfl<;>rfl
theorem ZYh{w:Str}(h:w∈ZBu):G97 (w,())=some ([78],true,()):=by
 simp only[ZBu,List.mem_cons,List.not_mem_nil,or_false]at h
 rcases h with rfl | rfl | rfl | rfl | rfl<;>rfl
abbrev PT:=Str×Str×Int×List Place×Unit
theorem ZYi{line:Str}(hl:line.length<=1048576)(h: ∀x∈line,x≠32):(line∈ZDY->G47 (line,())=some ((line,[],0,[],()),true,()))/\(line∉ZDY-> ∃y:PT,G47 (line,())=some (y,false,())):=by
 have hc:G96 (line,[32],())=some (line,[],false,()):=by
  rw[ZMU line [32] hl]
  rcases ZQ2 line 32 with ⟨_,_,e⟩ | ⟨p,r,e,_⟩
  ·rw[e]
  ·exact absurd rfl (h 32 (by rw[e];simp))
 unfold G47 F47
 rw[hc]
 simp only[al_bind_some]
 refine⟨λhm=> ?_,λhm=> ?_⟩
 ·rw[ZS hm];rfl
 ·by_cases h2:line∈ZC9
  ·refine⟨(line,[],0,[],()),?_⟩
   simp only[ZC9,ZBu,List.mem_cons,List.mem_append,List.not_mem_nil,or_false]at h2
   rcases h2 with (((rfl | rfl | rfl | rfl) | (rfl | rfl | rfl | rfl | rfl)) | (rfl | rfl | rfl | rfl))<;>rfl
  ·rw[ZR9 hm h2]
   exact⟨_,rfl⟩
def ZA7(ws:List Str):List Place:=ws.map λw=>(ZAR w).1
def ZAe(ws:List Str):Bool:=ws.all λw=>(ZAR w).2
theorem ZYj(ws:List Str)(hw: ∀w∈ws,w.length<=1048576)(hl:ws.length<=1048577):G98 (ws,())=some (if ZAe ws=true then ZA7 ws else [],ZAe ws,()):=by
 unfold G98 F98
 have run:=ZDi (f:=s98_0 G100) (K:=λx1=>some (x1.1,true,())) (λi=>(ZA7 (ws.take i),ws,Int.ofNat ws.length,(i:Int),())) (λi=>((ws[i]?).map λw=>(ZAR w).2).getD true) (some (([]:List Place),false,())) ws.length (by omega)
  (by
   intro i hi rec K
   have hx:ws[i]?=some ws[i]:=by simp
   have w1:w64 ((i:Int)+1)=((i+1:Nat):Int):=ZAC
   have hlo:(ZA7 (ws.take i)).length<=1048577:=by unfold ZA7;simp;omega
   simp only[s98_0,ZAF hx,hx,w1,ZGf ws[i] (hw _ (by simp)),al_bind_some,Option.map_some,Option.getD_some]
   rw[ZA,ZAB (by simp only[al_len_cons,al_len_nil];omega)]
   have e:ZA7 (ws.take (i+1))=ZA7 (ws.take i)++[(ZAR ws[i]).1]:=by unfold ZA7;rw[ZBq ws i hi,List.map_append];rfl
   rw[e]
   cases (ZAR ws[i]).2<;>rfl)
  (by
   intro rec K
   simp only[s98_0]
   rw[ZAA])
 have ea:(List.range ws.length).all (λi=>((ws[i]?).map λw=>(ZAR w).2).getD true)=ZAe ws:=by
  unfold ZAe
  rw[Bool.eq_iff_iff,List.all_eq_true,List.all_eq_true]
  constructor
  ·intro h x hx
   obtain⟨i,hi⟩:=List.mem_iff_getElem?.mp hx
   have:=h i (by simpa using (al_get_iff.mp hi).1)
   rw[hi]at this;exact this
  ·intro h i hi
   have hi:i<ws.length:=by simpa using hi
   have hx:ws[i]?=some ws[i]:=by simp
   rw[hx];exact h _ (by simp)
 rw[ea]at run
 refine run.trans ?_
 cases ZAe ws
 ·rfl
 ·rw[List.take_length];rfl
theorem ZYk(ws:List Str)(hw: ∀w∈ws,w.length<=1048576)(hl:ws.length<=1048577): ∃L,G145 (ws,())=some (L,ZAe ws && decide (0<ws.length),())/\(ZAe ws=true->L=ZA7 ws):=by
 unfold G145 F145
 have run:=ZJc (f:=s145_0 G149) (K:=λx1=>some (x1.2.1,(decide ((Int.ofNat (List.length x1.1))>0)),())) (λi=>(ws,ZA7 (ws.take i),ws,Int.ofNat ws.length,(i:Int),())) (λi=>((ws[i]?).map λw=> !(ZAR w).2).getD false) (λi=>some (ZA7 (ws.take i),false,())) ws.length (by omega)
  (by
   intro i hi rec K
   have hx:ws[i]?=some ws[i]:=by simp
   have w1:w64 ((i:Int)+1)=((i+1:Nat):Int):=ZAC
   have hlo:(ZA7 (ws.take i)).length<=1048577:=by unfold ZA7;simp;omega
   simp only[s145_0,ZAF hx,hx,w1,ZMY ws[i] (hw _ (by simp)),al_bind_some,Option.map_some,Option.getD_some]
   rw[ZA,ZAB (by simp only[al_len_cons,al_len_nil];omega)]
   have e:ZA7 (ws.take (i+1))=ZA7 (ws.take i)++[(ZAR ws[i]).1]:=by unfold ZA7;rw[ZBq ws i hi,List.map_append];rfl
   rw[e])
  (by
   intro rec K
   simp only[s145_0]
   rw[ZAA])
 rcases run with ⟨j,hj,hh,hr⟩ | ⟨hh,hr⟩
 ·have hx:ws[j]?=some ws[j]:=by simp[hj]
  rw[hx]at hh
  simp only[Option.map_some,Option.getD_some,Bool.not_eq_true']at hh
  have hb:ZAe ws=false:=by
   unfold ZAe
   rw[List.all_eq_false]
   exact⟨ws[j],by simp,by simp[hh]⟩
  refine⟨ZA7 (ws.take j),hr.trans ?_,λh=>by rw[hb]at h;cases h⟩
  rw[hb];rfl
 ·have hb:ZAe ws=true:=by
   unfold ZAe
   rw[List.all_eq_true]
   intro x hx
   obtain⟨i,hi⟩:=List.mem_iff_getElem?.mp hx
   have:=hh i (al_get_iff.mp hi).1
   rw[hi]at this
   simpa using this
  refine⟨ZA7 ws,hr.trans ?_,λ_=>rfl⟩
  rw[hb,List.take_length]
  simp only[Bool.true_and,ZAT]
  congr 3
  exact decide_eq_decide.2 (by omega)
section
variable {p r:Str} (hl:(p++32::r).length<=1048576) (h: ∀x∈p,x≠32)
include hl h
theorem ZJp:G96 (p++32::r,[32],())=some (p,r,true,()):=by
 rw[ZMU _ [32] hl]
 unfold Go.Lib.cut
 rw[ZGT h,al_if_pos]
 simp
 rfl
omit h in
theorem rlen:r.length<=1048576:=by simp at hl;omega
omit h in
theorem ZSA:(∀w∈splC 32 r,w.length<=1048576)/\(splC 32 r).length<=1048577:=by
 have:=rlen hl
 exact⟨λw hw=>by have:=(ZD6 32 r w hw).2;omega,by have:=ZGU 32 r;omega⟩
theorem ZYl(h1:p∉ZC9): ∃y:PT,G47 (p++32::r,())=some (y,false,()):=by
 unfold G47 F47
 rw[ZJp hl h]
 simp only[al_bind_some]
 by_cases h2:p∈ZDY
 ·rw[ZS h2];exact⟨_,rfl⟩
 ·rw[ZR9 h2 h1];exact⟨_,rfl⟩
theorem ZSB(h1:p=devW\/p=cueW):G47 (p++32::r,())=some ((p,r,0,[],()),true,()):=by
 unfold G47 F47
 rw[ZJp hl h]
 simp only[al_bind_some]
 have hs:G97 (p,())=some ([84],true,()):=by rcases h1 with rfl | rfl<;>rfl
 rw[hs];rfl
theorem ZYm(h1:p=ZAa):G47 (p++32::r,())=some ((p,r,0,if ZAe (splC 32 r)=true then ZA7 (splC 32 r)else [],()),ZAe (splC 32 r),()):=by
 obtain⟨g1,g2⟩:=ZSA hl
 unfold G47 F47
 rw[ZJp hl h]
 simp only[al_bind_some]
 have hs:G97 (p,())=some ([42],true,()):=by subst h1;rfl
 rw[hs]
 simp only[al_bind_some,ZGd r 32 (rlen hl),ZYj _ g1 g2]
 rfl
theorem ZFf{c:Str}(hs:G97 (p,())=some (c,true,()))(hc:c≠[]/\c≠[84]/\c≠[42]):G47 (p++32::r,())=
  (if(splC 32 r).length=c.length then ZAD (s47_0 G96 G97 G10 G98 G99 G100) fuel (([],[],0,[],()),c,true,(p,r,0,[],()),splC 32 r,(Int.ofNat (List.length (splC 32 r))),0,()) (λx4=>some (x4.2.2.2.1,true,()))else some ((p,r,0,[],()),false,())):=by
 unfold G47 F47
 rw[ZJp hl h]
 simp only[al_bind_some]
 rw[hs]
 simp only[al_bind_some,ZGd r 32 (rlen hl)]
 rw[ZAE hc.1,ZAE hc.2.1,ZAE hc.2.2]
 simp only[ZA4,decide_true]
 by_cases hk:(splC 32 r).length=c.length
 ·rw[al_if_pos hk,ZAH (show(Int.ofNat (splC 32 r).length)=Int.ofNat c.length by rw[hk])];rfl
 ·rw[al_if_neg hk,ZAE (show¬(Int.ofNat (splC 32 r).length)=Int.ofNat c.length by simp only[ZAT];omega)];rfl
end
section
variable (z y:PT) (ok:Bool) (a b:Str) (K:PT×Str×Bool×PT×List Str×Int×Int×Unit->Option (PT×Bool×Unit))
abbrev ZGg:=s47_0 G96 G97 G10 G98 G99 G100
theorem ZYn(n:Nat):ZAD ZGg (n+2) (z,[78],ok,y,[a],1,0,()) K=(G99 (a,())).bind λx=>cond (!x.2.1) (some ((y.1,y.2.1,x.1,y.2.2.2.1,()),false,())) (K (z,[78],x.2.1,(y.1,y.2.1,x.1,y.2.2.2.1,()),[a],1,1,())):=by kernel_rfl
theorem ZYo(n:Nat):ZAD ZGg (n+2) (z,[110],ok,y,[a],1,0,()) K=cond (!ok) (some ((y.1,a,y.2.2.1,y.2.2.2.1,()),false,())) (K (z,[110],ok,(y.1,a,y.2.2.1,y.2.2.2.1,()),[a],1,1,())):=by kernel_rfl
theorem ZYp(n:Nat):ZAD ZGg (n+2) (z,[80],ok,y,[a],1,0,()) K=(G100 (a,())).bind λx=>capK (List.length y.2.2.2.1+1) (cond (!x.2.1) (some ((y.1,y.2.1,y.2.2.1,y.2.2.2.1++[x.1],()),false,())) (K (z,[80],x.2.1,(y.1,y.2.1,y.2.2.1,y.2.2.2.1++[x.1],()),[a],1,1,()))):=by kernel_rfl
theorem ZYq(n:Nat):ZAD ZGg (n+3) (z,[78,80],ok,y,[a,b],2,0,()) K=(G99 (a,())).bind λx=>cond (!x.2.1) (some ((y.1,y.2.1,x.1,y.2.2.2.1,()),false,()))
  ((G100 (b,())).bind λq=>capK (List.length y.2.2.2.1+1) (cond (!q.2.1) (some ((y.1,y.2.1,x.1,y.2.2.2.1++[q.1],()),false,())) (K (z,[78,80],q.2.1,(y.1,y.2.1,x.1,y.2.2.2.1++[q.1],()),[a,b],2,2,())))):=by kernel_rfl
theorem ZYr(n:Nat):ZAD ZGg (n+3) (z,[80,80],ok,y,[a,b],2,0,()) K=(G100 (a,())).bind λx=>capK (List.length y.2.2.2.1+1) (cond (!x.2.1) (some ((y.1,y.2.1,y.2.2.1,y.2.2.2.1++[x.1],()),false,()))
  ((G100 (b,())).bind λq=>capK (List.length (y.2.2.2.1++[x.1])+1) (cond (!q.2.1) (some ((y.1,y.2.1,y.2.2.1,(y.2.2.2.1++[x.1])++[q.1],()),false,())) (K (z,[80,80],q.2.1,(y.1,y.2.1,y.2.2.1,(y.2.2.2.1++[x.1])++[q.1],()),[a,b],2,2,()))))):=by kernel_rfl
theorem ZYs(n:Nat):ZAD ZGg (n+3) (z,[110,78],ok,y,[a,b],2,0,()) K=cond (!ok) (some ((y.1,a,y.2.2.1,y.2.2.2.1,()),false,())) ((G99 (b,())).bind λx=>cond (!x.2.1) (some ((y.1,a,x.1,y.2.2.2.1,()),false,())) (K (z,[110,78],x.2.1,(y.1,a,x.1,y.2.2.2.1,()),[a,b],2,2,()))):=by kernel_rfl
end
end Ev
end
