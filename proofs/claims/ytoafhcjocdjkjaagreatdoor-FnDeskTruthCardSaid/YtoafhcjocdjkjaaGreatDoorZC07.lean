/- Laid together by program (what the claim does not reach is left out): RowT, Known, InsE, InsS, InsG, InsJ, DelE, AddD, RemD, CueAt, AddC, AddG, LastP, Last. -/
import Derived.Test.YtoafhcjocdjkjaaGreatDoorZC06
import Derived.WalkKit
import Derived.ProofKit
import Derived.Laws.IdiomCopy
import Derived.Lib.Overlaps
import Derived.Lib.AppendZerosOnto
import Derived.Deep.RegionLaw
import Derived.Shelf.Spec.SlicesInsert
import Derived.LoopN
import Derived.BigQuiet
import Derived.Deep.RegionHeld
import Derived.Lib.SpaceUEq
import Derived.Shelf.Strings.IndexAnyAll
import Derived.Laws.Runes
import Derived.Scope
import Derived.RegionTactic
import Derived.Deep.QuietTactic
import Derived.WalkMore
set_option linter.all false
set_option maxRecDepth 1000000
open Go.Proofs.Tryz
noncomputable section
namespace Ev
open Go Go.Proofs Go.RowKit
def ZDP{b:Nat} : ∀(vs:List Value) (w:World) (arr:Array Value) (o:Nat),RowB w b arr->o+vs.length<=arr.size->
  ∃arr',RowB (w.setCells b o vs) b arr'/\arr'.size=arr.size/\(∀j:Nat,arr'[j]?=if o<=j/\j<o+vs.length then vs[j-o]? else arr[j]?)/\Chg (λx=>x=b) w (w.setCells b o vs)/\(w.setCells b o vs).heap.size=w.heap.size
 | [],w,arr,o,hr,hl=>⟨arr,hr,rfl,λj=>by simp only[al_len_nil];rw[al_if_neg],Chg.refl _ _,rfl⟩
 | v::vs,w,arr,o,hr,hl=>by
  simp only[al_len_cons]at hl
  obtain⟨arr',g1,g2,g3,g4,g5⟩:=ZDP vs (w.setCell ⟨b,o,none⟩ v) (arr.setIfInBounds o v) (o+1) (ZNt hr _ _) (by simp;omega)
  refine⟨arr',g1,by rw[g2];simp,λj=> ?_,(ZNu w b o v).trans g4 (λx h=>h) (λx _ h=>h),by rw[World.setCells,g5];simp⟩
  rw[g3]
  by_cases hj:j=o
  ·subst hj
   rw[al_if_neg,al_if_pos (by simp only[al_len_cons];omega),Nat.sub_self,Array.getElem?_setIfInBounds_self_of_lt (by omega)]
   rfl
  ·by_cases hin:o+1<=j/\j<o+1+vs.length
   ·rw[al_if_pos hin,al_if_pos (by simp only[al_len_cons];omega),show j-o=(j-(o+1))+1 by omega,List.getElem?_cons_succ]
   ·rw[al_if_neg hin,al_if_neg (by simp only[al_len_cons];omega),Array.getElem?_setIfInBounds_ne (λe=>hj e.symm)]
def ZEb{P:Program}(w:World)(dT sT ty elem:TypeId)(k:Nat)(b o dLen dCap:Nat)(a:Addr)(sLen sCap n:Nat)(cs:List Value)
  (hu:P.underlying dT=some (.slice elem)) (hs:ZBV P elem k) (hn:Nat.min sLen dLen=n) (hl:cs.length=n*k)
  (hsrc: ∀j v,cs[j]?=some v->w.cell? (a.add j)=some v) (hc: ∀j,j<cs.length->(w.cell? ⟨b,o+j,none⟩).isSome=true) (hf: ∀j,j<cs.length->w.frozen? ⟨b,o+j,none⟩=false) (h1: ∀v∈cs,v.oneCell'=true):
  (Builtin.copy_ #[dT,sT] ty #[.slice (some ⟨b,o,none⟩) dLen dCap,.slice (some a) sLen sCap]).run P w= .ok (goInt n) (w.setCells b o cs):=by
 have hst:=run_storeCells_cells (P:=P) b o cs 0 w (by simpa using hc) (by simpa using hf) h1
 have hfc:=run_firstCells_some (P:=P) w k n a sLen sCap cs hl hsrc
 simp only[Nat.add_zero]at hst
 simp[Builtin.copy_,run_underlying hu,Builtin.lenOf,ZBj hs,hn,hfc,hst]
def ZLH{w:World}{b:Nat}{arr:Array Value}(h:RowB w b arr){i:Nat}(hi:i<arr.size):w.frozen? ⟨b,i,none⟩=false:=by
 obtain⟨e,lo,hi',h,hf⟩:=h
 have:=hf i hi
 simp only[World.frozen?,h]
 rw[Bool.eq_false_iff]
 intro hc
 rw[ZAJ,ZAX,ZAX]at hc
 exact this hc
def ZLI{w:World}{b:Nat}{arr:Array Value}(h:RowB w b arr){i:Nat}(hi:i<arr.size):(w.cell? ⟨b,i,none⟩).isSome=true:=by
 rw[ZAs h,Array.getElem?_eq_getElem hi];rfl
def ZPL{w:World}{b:Nat}{arr:Array Value}(h:RowB w b arr): ∃t,w.shape? b=some (t,arr.size):=by
 obtain⟨e,lo,hi,h,_⟩:=h
 exact⟨e,by simp[World.shape?,h]⟩
def insL{α:Type}(l:List α)(i:Nat)(x:α):List α:=l.take i++x::l.drop i
def ZDQ{α:Type}(l:List α)(i:Nat)(x:α)(h:i<=l.length):(insL l i x).length=l.length+1:=by
 unfold insL
 simp only[al_len_append,al_len_take,al_len_cons,List.length_drop];omega
def ZU5{τ:Ty}(l:List τ.den)(i:Nat)(x:τ.den):flat τ (insL l i x)=flat τ (l.take i)++(flat τ [x]++flat τ (l.drop i)):=by
 unfold insL
 rw[ZEQ,show x::l.drop i=[x]++l.drop i from rfl,ZEQ]
def ZIv{τ:Ty}{l:List τ.den}{i:Nat}{x:τ.den}{w:World}{b s:Nat}{arr:Array Value}(hr:RowB w b arr)(hi:i<=l.length)
  (h0: ∀j,j<i*τ.width->arr[s+j]?=(flat τ (l.take i))[j]?) (h1: ∀j,j<τ.width->arr[s+(i*τ.width+j)]?=(flat τ [x])[j]?)
  (h2: ∀j,j<(l.length-i)*τ.width->arr[s+((i+1)*τ.width+j)]?=(flat τ (l.drop i))[j]?):At w b s (flat τ (insL l i x)):=by
 rw[ZU5]
 have e1:(flat τ (l.take i)).length=i*τ.width:=by rw[ZAy,al_len_take,Nat.min_eq_left hi]
 have e2:(flat τ [x]).length=τ.width:=by rw[ZAy];simp
 have e3:(i+1)*τ.width=i*τ.width+τ.width:=by rw[Nat.add_mul,Nat.one_mul]
 refine At.join (λj v hv=> ?_) (At.join (λj v hv=> ?_) (λj v hv=> ?_))
 ·have hj:=(al_get_iff.mp hv).1
  rw[ZAs hr,h0 j (by omega)];exact hv
 ·have hj:=(al_get_iff.mp hv).1
  rw[ZAs hr,e1,Nat.add_assoc,h1 j (by omega)];exact hv
 ·have hj:=(al_get_iff.mp hv).1
  rw[ZAy,List.length_drop]at hj
  have:=h2 j hj
  rw[ZAs hr,e1,e2,show s+i*τ.width+τ.width+j=s+((i+1)*τ.width+j)by rw[e3];omega,this];exact hv
end Ev
end
noncomputable section
namespace Ev
open Go Go.Proofs Go.RowKit
abbrev Rel0(w:World)(v:V)(c:Value):Prop:=RelA (λ_=>none) (λb=>b<w.heap.size) w v c
def ZFG{P:Program}{f:Nat}{ps rs:List SP}{sh:Bool}{G:ZAL ps->Option (ZAL (muts ps++rs))}(ok:OK P f (mkE ps rs sh G)){av:List V}{a:ZAL ps}{x:ZAL (muts ps++rs)}(hd:decE ps av 0 []=some a)(hx:G a=some x)
  {v:V} (hres:pack ((encF (muts ps++rs) x).drop (muts ps).length)=v) {w:World} (hg:Glob (λb=>b<w.heap.size) w) {ca:Array Value}
  (hs:ca.size=av.length) (hv: ∀(i:Nat) v,av[i]?=some v-> ∃c,ca[i]?=some c/\Rel0 w v c) {c0:Value} (hp: ∀ρ F w c,RelT ρ F w v c->c=c0):
  Calls P f ca w λen w'=>en= .returned c0/\Chg (λ_=>False) w w':=by
 obtain⟨res,out,hk,hE⟩:=ok.ent _ av [] _ _ (ZP hd hx)
 cases hk
 refine(hE w _ (λ_=>none) ca ⟨λid loc blk h=>(by cases h),λi j li lj b h=>(by cases h),λb hb=>⟨hb,no_M b⟩,hg⟩ (λid l h=>(by cases h)) hs hv).mono λen w' ⟨c,ρ1,F1,he,_,_,_,hr,hc,_,_⟩=> ?_
 rw[hres]at hr
 exact⟨by rw[he,hp _ _ _ _ hr],hc.mono λx hx=>(no_M x hx).elim⟩
def ZLJ{P:Program}{f:Nat}{ps rs:List SP}{sh:Bool}{G:ZAL ps->Option (ZAL (muts ps++rs))}(ok:OK P f (mkE ps rs sh G)){av:List V}{a:ZAL ps}{x:ZAL (muts ps++rs)}(hd:decE ps av 0 []=some a)(hx:G a=some x)
  {τ:Ty} {l:List τ.den} (hres:pack ((encF (muts ps++rs) x).drop (muts ps).length)= .own 0) (hout:(encB (muts ps++rs) x).map Prod.snd=[.rows τ l]) {w:World} (hg:Glob (λb=>b<w.heap.size) w) {ca:Array Value}
  (hs:ca.size=av.length) (hv: ∀(i:Nat) v,av[i]?=some v-> ∃c,ca[i]?=some c/\Rel0 w v c):
  Calls P f ca w λen w'=> ∃a cap,en= .returned (.slice a l.length cap)/\Fresh τ w w' l a cap/\Chg (λ_=>False) w w':=by
 obtain⟨res,out,hk,hE⟩:=ok.ent _ av [] _ _ (ZP hd hx)
 cases hk
 refine(hE w _ (λ_=>none) ca ⟨λid loc blk h=>(by cases h),λi j li lj b h=>(by cases h),λb hb=>⟨hb,no_M b⟩,hg⟩ (λid l h=>(by cases h)) hs hv).mono λen w' ⟨c,ρ1,F1,he,hC,_,_,hr,hc,hM,_⟩=> ?_
 rw[hres]at hr
 rw[hout]at hC
 obtain⟨t,a,len,cap,hρ,rfl⟩:=hr
 obtain⟨ht,hl,hle,hat⟩:=hC.heap 0 _ (.rows τ l) hρ (by simp[ZBA,look])
 subst ht
 subst hl
 refine⟨a,cap,he,⟨hle,hat.elim .inl λ⟨b,s,arr,e,h3,h4,h5⟩=> ?_⟩,hc.mono λx hx=>(no_M x hx).elim⟩
 by_cases h0:cap=0
 ·exact .inl h0
 ·refine .inr ⟨b,s,arr,e,?_,h3,h4,h5⟩
  rcases hM b ⟨0,_,hρ,by subst e;simp[Loc.block,h0]⟩with h | h
  ·exact(no_M b h).elim
  ·exact h
def ZCl{w w':World}(h:Glob (λb=>b<w.heap.size) w)(k:Chg (λb=>False) w w'):Glob (λb=>b<w'.heap.size) w':=
 h.keep (λb hb=>Nat.lt_of_lt_of_le hb k.size) λb hb=>k.block b hb (λe=>e)
def ZLK{F:Nat->Prop}{w:World}(h:Glob F w)(hs: ∀b,F b->b<w.heap.size):Glob (λb=>b<w.heap.size) w:=h.keep hs λb hb=>rfl
def ZLL{F:Nat->Prop}{w:World}(hs: ∀b,F b->b<w.heap.size){v:V}{c:Value}(h:RelA (λ_=>none) F w v c):Rel0 w v c:=
 RelA.ext0 ⟨λ_ _ _ h=>h,hs,λ_ _=>rfl⟩ h
def ZCm{w w':World}{v:V}{c:Value}(h:Rel0 w v c)(k:Chg (λ_=>False) w w'):Rel0 w' v c:=
 RelA.ext0 ⟨λ_ _ _ h=>h,λb hb=>Nat.lt_of_lt_of_le hb k.size,λb hb=>k.block b hb (λe=>e)⟩ h
def chgF{w0 w:World}(k:Chg (λb=>w0.heap.size<=b) w0 w):Chg (λ_=>False) w0 w:=⟨k.os,k.tape,k.output,k.size,λb hb _=>k.block b hb (by omega),k.drew⟩
def ZBy{τ:Ty}{w w' w'':World}{l:List τ.den}{a:Option Addr}{cap:Nat}(H:Fresh τ w w' l a cap)(k:Chg (λ_=>False) w' w''):Fresh τ w w'' l a cap:=by
 refine⟨H.len,H.at_.imp id ?_⟩
 rintro ⟨b,s,arr,rfl,hb,hr,hsz,hat⟩
 have e:=k.block b hr.lt (λe=>e)
 exact⟨b,s,arr,rfl,hb,hr.of_block e,hsz,hat.of_block e⟩
def ZPM{τ:Ty}{w0 w w':World}{l:List τ.den}{a:Option Addr}{cap:Nat}(H:Fresh τ w w' l a cap)(h:w0.heap.size<=w.heap.size):Fresh τ w0 w' l a cap:=by
 refine⟨H.len,H.at_.imp id ?_⟩
 rintro ⟨b,s,arr,rfl,hb,hr⟩
 exact⟨b,s,arr,rfl,Nat.le_trans h hb,hr⟩
def a1{w:World}{v:V}{c:Value}(h:Rel0 w v c): ∀(i:Nat) u,[v][i]?=some u-> ∃c', #[c][i]?=some c'/\Rel0 w u c':=ZUl h
def a2{w:World}{v v':V}{c c':Value}(h:Rel0 w v c)(h':Rel0 w v' c'): ∀(i:Nat) u,[v,v'][i]?=some u-> ∃c'', #[c,c'][i]?=some c''/\Rel0 w u c'':=
 ZUn (ZPA h (ZPA h' ZUm))
def a3{w:World}{v v' v'':V}{c c' c'':Value}(h:Rel0 w v c)(h':Rel0 w v' c')(h'':Rel0 w v'' c''): ∀(i:Nat) u,[v,v',v''][i]?=some u-> ∃x, #[c,c',c''][i]?=some x/\Rel0 w u x:=
 ZUn (ZPA h (ZPA h' (ZPA h'' ZUm)))
def ZPN{P:Program}{t u e:Nat}{τ:Ty}(A:AppTys P t u e τ){w0 w:World}{l m:List τ.den}{cy:Value}{a:Option Addr}{cap:Nat}(H:Fresh τ w0 w l a cap)(hm:Src τ w m cy)(hlim:l.length+m.length<=lim)(h0:w0.heap.size<=w.heap.size):
  ∃w' a' cap',(∀ty,(Builtin.append_ #[t,u] ty #[.slice a l.length cap,cy]).run P w= .ok (.slice a' (l.length+m.length) cap') w')/\Fresh τ w0 w' (l++m) a' cap'/\Chg (λb=>w0.heap.size<=b) w w':=by
 have hsl:Src τ w l (.slice a l.length cap):=by
  refine⟨a,cap,rfl,H.len,?_⟩
  by_cases hl:l=[]
  ·exact .inl hl
  ·rcases H.at_ with h | ⟨b,s,arr,rfl,_,_,_,h⟩
   ·have:=H.len
    exact .inl (List.length_eq_zero_iff.mp (by omega))
   ·exact .inr ⟨b,s,rfl,h⟩
 by_cases hroom:l.length+m.length<=cap
 ·by_cases hm0:m=[]
  ·subst hm0
   refine⟨w,a,cap,λty=> ?_,by rw[List.append_nil];exact H,Chg.refl _ _⟩
   rw[ZIX (ty:=ty) A (base:=a) (len:=l.length) hm hroom]
   cases a<;>simp[ZDs,storeCells]
  ·have hpos:0<m.length:=List.length_pos_iff.mpr hm0
   rcases H.at_ with h4 | ⟨b,s,arr,rfl,hge,hrow,hfit,hatl⟩
   ·omega
   ·obtain⟨w',arr',g1,g2,g3,g4,g5,g6⟩:=ZHB (P:=P) (flat τ m) w arr (s+l.length*τ.width) 0 hrow (by
     rw[ZAy,Nat.add_zero,Nat.add_assoc,<-Nat.add_mul]
     exact Nat.le_trans (Nat.add_le_add_left (Nat.mul_le_mul_right _ hroom) _) hfit) (ZCx τ m)
    refine⟨w',some ⟨b,s,none⟩,cap,λty=> ?_,⟨by simpa using hroom,.inr ⟨b,s,arr',rfl,hge,g4,by rw[g5];exact hfit,?_⟩⟩,g2.mono λx hx=>by rw[hx];exact hge⟩
    ·rw[ZIX (ty:=ty) A (base:=some ⟨b,s,none⟩) (len:=l.length) hm hroom]
     simp[ZBE,g1]
    ·rw[ZEQ]
     refine At.join (λi v hv=> ?_) (λi v hv=> ?_)
     ·have hi:=(al_get_iff.mp hv).1
      rw[ZAy]at hi
      have:=hatl i v hv
      rw[ZAs hrow]at this
      rw[ZAs g4,g6,al_if_neg];exact this
     ·have hi:=(al_get_iff.mp hv).1
      rw[ZAy]at hi
      rw[ZAs g4,g6,ZAy,ZAy,al_if_pos,show s+l.length*τ.width+i-(s+l.length*τ.width+0)=i by omega];exact hv
 ·have hz: ∃(z:Array Value) (nc:Nat),l.length+m.length<=nc/\z.size=(nc-(l.length+m.length))*τ.width/\ ∀ty,(Builtin.append_ #[t,u] ty #[.slice a l.length cap,cy]).run P w=
    .ok (.slice (some ⟨w.heap.size,0,none⟩) (l.length+m.length) nc) (w.drew.alloc (.cells ((flat τ l).toArray++(flat τ m).toArray++z) e)):=by
   obtain⟨z,nc,hnc,hz,hout⟩:=ZKe (ty:=0) A hsl hm hroom hlim
   refine⟨z,nc,hnc,hz,λty=> ?_⟩
   rw[<-hout]
   unfold Builtin.append_
   rfl
  obtain⟨z,nc,hnc,hz,hout⟩:=hz
  refine⟨_,_,nc,hout,⟨by simpa using hnc,.inr ⟨w.heap.size,0,_,rfl,h0,ZIR w _ e,?_,?_⟩⟩,(ZKW w _).mono λ_ h=>h.elim⟩
  ·have h1:(flat τ l).length=l.length*τ.width:=ZAy τ l
   have h2:(flat τ m).length=m.length*τ.width:=ZAy τ m
   simp only[Array.size_append,List.size_toArray,h1,h2,hz,Nat.zero_add]
   rw[<-Nat.add_mul,<-Nat.add_mul]
   exact Nat.mul_le_mul_right _ (by omega)
  ·intro i v hv
   have hi:=(al_get_iff.mp hv).1
   rw[ZAs (ZIR w _ e),Nat.zero_add]
   rw[ZEQ]at hv hi
   rw[Array.getElem?_append_left (by simpa using hi)]
   simpa using hv
end Ev
end
noncomputable section
namespace Ev
open Go Go.Proofs Go.RowKit Go.Lib
def ZEc:AppTys prog 32 32 107 .device:=by
 obtain⟨d,hd,hk,_⟩:=(ZLF 32 _ rfl).1.kind
 have hu:=underlying32
 rw[hu]at hd;cases hd
 exact⟨hu,⟨_,hu⟩,hk⟩
def ZU6{w0 w:World}{l:List Device}{x:Device}{a:Option Addr}{cap B e:Nat}(H:Fresh .device w0 w l a cap)(h0:w0.heap.size<=w.heap.size)(hl:l.length<=1048576)(hB:w.heap[B]?=some (.cells ((flat .device [x]).toArray) e (0,0))):
  Calls prog 195 #[.slice a l.length cap,.int .i64 l.length,.slice (some ⟨B,0,none⟩) 1 1] w λen w'=> ∃a' cap',en= .returned (.slice a' (l.length+1) cap')/\Fresh .device w0 w' (l++[x]) a' cap'/\Chg (λb=>w0.heap.size<=b) w w':=by
 have hsrc:Src .device w [x] (.slice (some ⟨B,0,none⟩) 1 1):=⟨_,1,rfl,by simp,.inr ⟨B,0,rfl,λi v hv=>by
  unfold World.cell?
  rw[hB,Nat.zero_add]
  simpa using hv⟩⟩
 obtain⟨w',a',cap',hr,hF,hk⟩:=ZPN ZEc H hsrc (by unfold lim;simp;omega) h0
 have hr': ∀ty,(Builtin.append_ #[32,32] ty #[.slice a l.length cap,.slice (some ⟨B,0,none⟩) 1 1]).run prog w= .ok (.slice a' (l.length+1) cap') w':=hr
 clear hr hsrc hB
 have hlen:=H.len
 go_enter func195,ntmps195
 cases a with
 | none=>
  go_wp2_with (at_builtin;refine Lib.wpList_append_run _ rfl _ _ _ _ rfl _ _ rfl rfl _ _ (hr' _) ?_)
  go_ret
  exact⟨a',cap',rfl,hF,hk⟩
 | some a=>
  obtain⟨ab,ao,asp⟩:=a
  go_wp2_with (at_builtin;refine Lib.wpList_append_run _ rfl _ _ _ _ rfl _ _ rfl rfl _ _ (hr' _) ?_)
  all_goals (go_ret;exact⟨a',cap',rfl,hF,hk⟩)
def ZGF:AppTys prog 33 33 111 .cue:=by
 obtain⟨d,hd,hk,_⟩:=(ZLF 33 _ rfl).1.kind
 have hu:=underlying33
 rw[hu]at hd;cases hd
 exact⟨hu,⟨_,hu⟩,hk⟩
def ZU7{w0 w:World}{l:List Cue}{x:Cue}{a:Option Addr}{cap B e:Nat}(H:Fresh .cue w0 w l a cap)(h0:w0.heap.size<=w.heap.size)(hl:l.length<=1048576)(hB:w.heap[B]?=some (.cells ((flat .cue [x]).toArray) e (0,0))):
  Calls prog 202 #[.slice a l.length cap,.int .i64 l.length,.slice (some ⟨B,0,none⟩) 1 1] w λen w'=> ∃a' cap',en= .returned (.slice a' (l.length+1) cap')/\Fresh .cue w0 w' (l++[x]) a' cap'/\Chg (λb=>w0.heap.size<=b) w w':=by
 have hsrc:Src .cue w [x] (.slice (some ⟨B,0,none⟩) 1 1):=⟨_,1,rfl,by simp,.inr ⟨B,0,rfl,λi v hv=>by
  unfold World.cell?
  rw[hB,Nat.zero_add]
  simpa using hv⟩⟩
 obtain⟨w',a',cap',hr,hF,hk⟩:=ZPN ZGF H hsrc (by unfold lim;simp;omega) h0
 have hr': ∀ty,(Builtin.append_ #[33,33] ty #[.slice a l.length cap,.slice (some ⟨B,0,none⟩) 1 1]).run prog w= .ok (.slice a' (l.length+1) cap') w':=hr
 clear hr hsrc hB
 have hlen:=H.len
 go_enter func202,ntmps202
 cases a with
 | none=>
  go_wp2_with (at_builtin;refine Lib.wpList_append_run _ rfl _ _ _ _ rfl _ _ rfl rfl _ _ (hr' _) ?_)
  go_ret
  exact⟨a',cap',rfl,hF,hk⟩
 | some a=>
  obtain⟨ab,ao,asp⟩:=a
  go_wp2_with (at_builtin;refine Lib.wpList_append_run _ rfl _ _ _ _ rfl _ _ rfl rfl _ _ (hr' _) ?_)
  all_goals (go_ret;exact⟨a',cap',rfl,hF,hk⟩)
end Ev
end
noncomputable section
namespace Ev
open Go Go.Proofs Go.RowKit Go.Lib
set_option maxHeartbeats 4000000 in
def ZU8(b off n c i vb voff m vc:Nat)(cs vs:List Value)(w:World)(hi:i<n)(hm:0<m)(hroom:n+m<=c)(hvb:vb≠b)
  (hcl:cs.length=n*8) (hvl:vs.length=m*8) (hn20:n+m<=1048600)
  (hcs: ∀j v,cs[j]?=some v->w.cell? ⟨b,off+j,none⟩=some v) (hsp: ∀j,j<(n+m)*8->(w.cell? ⟨b,off+j,none⟩).isSome=true) (hfz: ∀j,j<(n+m)*8->w.frozen? ⟨b,off+j,none⟩=false)
  (hvs: ∀j v,vs[j]?=some v->w.cell? ⟨vb,voff+j,none⟩=some v) (h1c: ∀v∈cs,v.oneCell'=true) (h1v: ∀v∈vs,v.oneCell'=true)
  (tA tB:TypeId) (kA kB:Nat) (hsa:w.shape? vb=some (tA,kA)) (hsb:w.shape? b=some (tB,kB)) (hkB:kB≠0) (hfa:w.frozen? ⟨vb,voff,none⟩=false) (hfe:w.frozen? ⟨vb,kA,none⟩=false):
  Calls prog 195 #[.slice (some ⟨b,off,none⟩) n c,.int .i64 i,.slice (some ⟨vb,voff,none⟩) m vc] w λe w'=>
   e= .returned (.slice (some ⟨b,off,none⟩) (n+m) c)/\w'=(w.drew.setCells b (off+(i+m)*8) (cs.drop (i*8))).setCells b (off+i*8) vs:=by
 have hz1: ¬((m:Int)=0):=by omega
 have hz2: ¬((i:Int)=(n:Int)):=by omega
 have hse:ZBV prog 107 8:=ZEc.he.1
 have hu:=ZEc.ht
 have hov: ∀lb cb,(callFunc 284 #[.slice (some ⟨vb,voff,none⟩) m vc,.slice (some ⟨b,off+(i+m)*8,none⟩) lb cb]).run prog w= .ok (.value (.bool false)) w:=λlb cb=>by
  rw[run_callFunc_extern func284 (by kernel_rfl) (by kernel_rfl) (by kernel_rfl) (e:=Extern.SlicesOverlaps.overlaps #[32,32] #[4]) (by kernel_rfl),
   Lib.run_overlaps_apart w 32 4 107 hu 8 (ZBj hse) ⟨vb,voff,none⟩ ⟨b,off+(i+m)*8,none⟩ m vc lb cb hvb tA tB kA kB hsa hsb hkB hfa hfe]
  rfl
 have hdl:(cs.drop (i*8)).length=(n-i)*8:=by rw[List.length_drop,hcl];omega
 have mixed:prog.follows .mixedOrders=true:=by kernel_rfl
 have hw1:IntKind.i64.wrap ((i:Int)+(m:Int))=(i:Int)+(m:Int):=by rw[IntKind.wrap_i64];omega
 have hb1:(0:Int)<=(i:Int)+(m:Int):=by omega
 have hin:i<=n:=by omega
 have htn:((i:Int)+(m:Int)).toNat=i+m:=by omega
 have hb2: ¬(c=i+m):=by omega
 have hb3:(i:Int)<=(n:Int)+(m:Int):=by omega
 have hb4: ¬(c=i):=by omega
 have hcp1: ∀ty dl dc sl sc,Nat.min sl dl=n-i->(Builtin.copy_ #[32,32] ty #[.slice (some ⟨b,off+(i+m)*8,none⟩) dl dc,.slice (some ⟨b,off+i*8,none⟩) sl sc]).run prog w.drew= .ok (goInt ((n-i:Nat):Int)) (w.drew.setCells b (off+(i+m)*8) (cs.drop (i*8))):=λty dl dc sl sc hmin=>
  ZEb w.drew _ _ ty 107 8 b (off+(i+m)*8) dl dc ⟨b,off+i*8,none⟩ sl sc (n-i) (cs.drop (i*8)) hu hse hmin hdl
   (λj v hj=>by rw[ZBE,Nat.add_assoc];exact hcs (i*8+j) v (by rwa[List.getElem?_drop]at hj))
   (λj hj=>by rw[Nat.add_assoc];exact hsp _ (by omega)) (λj hj=>by rw[Nat.add_assoc];exact hfz _ (by omega)) (λv hv=>h1c v (List.mem_of_mem_drop hv))
 obtain⟨W1,hW1⟩: ∃W1,W1=w.drew.setCells b (off+(i+m)*8) (cs.drop (i*8)):=⟨_,rfl⟩
 have hsp1: ∀k,k<(n+m)*8->(W1.cell? ⟨b,off+k,none⟩).isSome=true:=λk hk=>by
  rw[hW1]
  exact isSome_setCells b _ _ _ (λj hj=>by rw[Nat.add_assoc];exact hsp _ (by omega)) _ (hsp k hk)
 have hcp2: ∀(W:World),(∀x,W.cell? x=W1.cell? x)->(∀x,W.frozen? x=W1.frozen? x)-> ∀ty dl dc,Nat.min m dl=m->(Builtin.copy_ #[32,32] ty #[.slice (some ⟨b,off+i*8,none⟩) dl dc,.slice (some ⟨vb,voff,none⟩) m vc]).run prog W= .ok (goInt m) (W.setCells b (off+i*8) vs):=λW hWc hWf ty dl dc hmin=>
  ZEb W _ _ ty 107 8 b (off+i*8) dl dc ⟨vb,voff,none⟩ m vc m vs hu hse hmin hvl
   (λj v hj=>by
    rw[ZBE,hWc,hW1,World.cell?_setCells_out b _ _ _ _ (λh _=>absurd h hvb)]
    exact hvs j v hj)
   (λj hj=>by rw[hWc,Nat.add_assoc];exact hsp1 _ (by omega)) (λj hj=>by rw[hWf,hW1,World.frozen?_setCells,Nat.add_assoc];exact hfz _ (by omega)) h1v
 rw[<-hW1]at hcp1
 have hmn2:Nat.min m (n+m-i)=m:=by simp only[Nat.min_def];split<;>omega
 have hmn:Nat.min (n+m-i) (n+m-(i+m))=n-i:=by simp only[Nat.min_def];split<;>omega
 go_enter func195,ntmps195
 go_wp2_with (simp only[hov])
 go_region_law_o (refine step_copy_runI rfl _ _ 32 32 rfl (.slice (some ⟨b,off+(i+m)*8,none⟩) (n+m-(i+m)) (c-(i+m))) (.slice (some ⟨b,off+i*8,none⟩) (n+m-i) (c-i)) (by simp[Act.eval,Act.put]) (by simp[Act.eval,Act.put]) (hcp1 3 _ _ _ _ hmn) ?_)
 go_wp2_with (at_builtin;refine wpList_copy_runI _ rfl _ _ 32 32 rfl _ _ rfl rfl (hcp2 _ (λ_=>rfl) (λ_=>rfl) _ _ _ hmn2) ?_)
 go_ret
 first | exact⟨rfl,rfl⟩ | exact⟨rfl,by rw[hW1]⟩
set_option maxHeartbeats 4000000 in
def ZU9(b off n c i vb voff m vc:Nat)(cs vs:List Value)(w:World)(hi:i<n)(hm:0<m)(hroom:n+m<=c)(hvb:vb≠b)
  (hcl:cs.length=n*4) (hvl:vs.length=m*4) (hn20:n+m<=1048600)
  (hcs: ∀j v,cs[j]?=some v->w.cell? ⟨b,off+j,none⟩=some v) (hsp: ∀j,j<(n+m)*4->(w.cell? ⟨b,off+j,none⟩).isSome=true) (hfz: ∀j,j<(n+m)*4->w.frozen? ⟨b,off+j,none⟩=false)
  (hvs: ∀j v,vs[j]?=some v->w.cell? ⟨vb,voff+j,none⟩=some v) (h1c: ∀v∈cs,v.oneCell'=true) (h1v: ∀v∈vs,v.oneCell'=true)
  (tA tB:TypeId) (kA kB:Nat) (hsa:w.shape? vb=some (tA,kA)) (hsb:w.shape? b=some (tB,kB)) (hkB:kB≠0) (hfa:w.frozen? ⟨vb,voff,none⟩=false) (hfe:w.frozen? ⟨vb,kA,none⟩=false):
  Calls prog 202 #[.slice (some ⟨b,off,none⟩) n c,.int .i64 i,.slice (some ⟨vb,voff,none⟩) m vc] w λe w'=>
   e= .returned (.slice (some ⟨b,off,none⟩) (n+m) c)/\w'=(w.drew.setCells b (off+(i+m)*4) (cs.drop (i*4))).setCells b (off+i*4) vs:=by
 have hz1: ¬((m:Int)=0):=by omega
 have hz2: ¬((i:Int)=(n:Int)):=by omega
 have hse:ZBV prog 111 4:=ZGF.he.1
 have hu:=ZGF.ht
 have hov: ∀lb cb,(callFunc 289 #[.slice (some ⟨vb,voff,none⟩) m vc,.slice (some ⟨b,off+(i+m)*4,none⟩) lb cb]).run prog w= .ok (.value (.bool false)) w:=λlb cb=>by
  rw[run_callFunc_extern func289 (by kernel_rfl) (by kernel_rfl) (by kernel_rfl) (e:=Extern.SlicesOverlaps.overlaps #[33,33] #[4]) (by kernel_rfl),
   Lib.run_overlaps_apart w 33 4 111 hu 4 (ZBj hse) ⟨vb,voff,none⟩ ⟨b,off+(i+m)*4,none⟩ m vc lb cb hvb tA tB kA kB hsa hsb hkB hfa hfe]
  rfl
 have hdl:(cs.drop (i*4)).length=(n-i)*4:=by rw[List.length_drop,hcl];omega
 have mixed:prog.follows .mixedOrders=true:=by kernel_rfl
 have hw1:IntKind.i64.wrap ((i:Int)+(m:Int))=(i:Int)+(m:Int):=by rw[IntKind.wrap_i64];omega
 have hb1:(0:Int)<=(i:Int)+(m:Int):=by omega
 have hin:i<=n:=by omega
 have htn:((i:Int)+(m:Int)).toNat=i+m:=by omega
 have hb2: ¬(c=i+m):=by omega
 have hb3:(i:Int)<=(n:Int)+(m:Int):=by omega
 have hb4: ¬(c=i):=by omega
 have hcp1: ∀ty dl dc sl sc,Nat.min sl dl=n-i->(Builtin.copy_ #[33,33] ty #[.slice (some ⟨b,off+(i+m)*4,none⟩) dl dc,.slice (some ⟨b,off+i*4,none⟩) sl sc]).run prog w.drew= .ok (goInt ((n-i:Nat):Int)) (w.drew.setCells b (off+(i+m)*4) (cs.drop (i*4))):=λty dl dc sl sc hmin=>
  ZEb w.drew _ _ ty 111 4 b (off+(i+m)*4) dl dc ⟨b,off+i*4,none⟩ sl sc (n-i) (cs.drop (i*4)) hu hse hmin hdl
   (λj v hj=>by rw[ZBE,Nat.add_assoc];exact hcs (i*4+j) v (by rwa[List.getElem?_drop]at hj))
   (λj hj=>by rw[Nat.add_assoc];exact hsp _ (by omega)) (λj hj=>by rw[Nat.add_assoc];exact hfz _ (by omega)) (λv hv=>h1c v (List.mem_of_mem_drop hv))
 obtain⟨W1,hW1⟩: ∃W1,W1=w.drew.setCells b (off+(i+m)*4) (cs.drop (i*4)):=⟨_,rfl⟩
 have hsp1: ∀k,k<(n+m)*4->(W1.cell? ⟨b,off+k,none⟩).isSome=true:=λk hk=>by
  rw[hW1]
  exact isSome_setCells b _ _ _ (λj hj=>by rw[Nat.add_assoc];exact hsp _ (by omega)) _ (hsp k hk)
 have hcp2: ∀(W:World),(∀x,W.cell? x=W1.cell? x)->(∀x,W.frozen? x=W1.frozen? x)-> ∀ty dl dc,Nat.min m dl=m->(Builtin.copy_ #[33,33] ty #[.slice (some ⟨b,off+i*4,none⟩) dl dc,.slice (some ⟨vb,voff,none⟩) m vc]).run prog W= .ok (goInt m) (W.setCells b (off+i*4) vs):=λW hWc hWf ty dl dc hmin=>
  ZEb W _ _ ty 111 4 b (off+i*4) dl dc ⟨vb,voff,none⟩ m vc m vs hu hse hmin hvl
   (λj v hj=>by
    rw[ZBE,hWc,hW1,World.cell?_setCells_out b _ _ _ _ (λh _=>absurd h hvb)]
    exact hvs j v hj)
   (λj hj=>by rw[hWc,Nat.add_assoc];exact hsp1 _ (by omega)) (λj hj=>by rw[hWf,hW1,World.frozen?_setCells,Nat.add_assoc];exact hfz _ (by omega)) h1v
 rw[<-hW1]at hcp1
 have hmn2:Nat.min m (n+m-i)=m:=by simp only[Nat.min_def];split<;>omega
 have hmn:Nat.min (n+m-i) (n+m-(i+m))=n-i:=by simp only[Nat.min_def];split<;>omega
 go_enter func202,ntmps202
 go_wp2_with (simp only[hov])
 go_region_law_o (refine step_copy_runI rfl _ _ 33 33 rfl (.slice (some ⟨b,off+(i+m)*4,none⟩) (n+m-(i+m)) (c-(i+m))) (.slice (some ⟨b,off+i*4,none⟩) (n+m-i) (c-i)) (by simp[Act.eval,Act.put]) (by simp[Act.eval,Act.put]) (hcp1 3 _ _ _ _ hmn) ?_)
 go_wp2_with (at_builtin;refine wpList_copy_runI _ rfl _ _ 33 33 rfl _ _ rfl rfl (hcp2 _ (λ_=>rfl) (λ_=>rfl) _ _ _ hmn2) ?_)
 go_ret
 first | exact⟨rfl,rfl⟩ | exact⟨rfl,by rw[hW1]⟩
end Ev
end
noncomputable section
namespace Ev
open Go Go.Proofs Go.RowKit Go.Lib
set_option maxHeartbeats 4000000 in
def ZV(b off n c i vb voff m vc:Nat)(cs vs:List Value)(w:World)(hi:i<n)(hm:0<m)(hnc:n<=c)(hroom:c<n+m)(hn20:n+m<=1048600)
  (hcl:cs.length=n*8) (hvl:vs.length=m*8)
  (hcs: ∀j v,cs[j]?=some v->w.cell? ⟨b,off+j,none⟩=some v)
  (hvs: ∀j v,vs[j]?=some v->w.cell? ⟨vb,voff+j,none⟩=some v) (h1c: ∀v∈cs,v.oneCell'=true) (h1v: ∀v∈vs,v.oneCell'=true) (i0:TypeInfo) (z0:Value) (hi0:prog.info? 107=some i0) (hz0:i0.zero=some z0) (hzs:i0.size=8) (hzb:i0.bytes<=128) (hzc:z0.cells.size=8):
  Calls prog 195 #[.slice (some ⟨b,off,none⟩) n c,.int .i64 i,.slice (some ⟨vb,voff,none⟩) m vc] w λe w'=>
   e= .returned (.slice (some ⟨w.heap.size,0,none⟩) (n+m) (grownCap w (n+m) c 107))/\
   w'=(((w.alloc (.cells ((cs.take (i*8)).toArray++Builtin.zeroCells z0.cells (n+m-i)++Builtin.zeroCells z0.cells (grownCap w (n+m) c 107-(n+m))) 107)).drew.setCells w.heap.size (i*8) vs).drew).setCells w.heap.size ((i+m)*8) (cs.drop (i*8)):=by
 have hz1: ¬((m:Int)=0):=by omega
 have hz2: ¬((i:Int)=(n:Int)):=by omega
 have hz3:(c:Int)<(n:Int)+(m:Int):=by omega
 have hse:ZBV prog 107 8:=ZEc.he.1
 have hu:=ZEc.ht
 have hu3:=underlying3
 have mixed:prog.follows .mixedOrders=true:=by kernel_rfl
 have hbw:b<w.heap.size:=block_lt_of_cell (hcs 0 _ (al_get_get (by omega)))
 have hvw:vb<w.heap.size:=block_lt_of_cell (hvs 0 _ (al_get_get (by omega)))
 have hkk:(n:Int)+(m:Int) -(i:Int)=((n+m-i:Nat):Int):=by omega
 have hik:i+(n+m-i)=n+m:=by omega
 have hold:(Builtin.firstCells i0.size i (.slice (some ⟨b,off,none⟩) i c)).run prog w.drew= .ok (cs.take (i*8)).toArray w.drew:=by
  rw[hzs]
  exact run_firstCells_some w.drew 8 i ⟨b,off,none⟩ i c (cs.take (i*8)) (by rw[al_len_take];omega) (λj v hj=>by
   rw[ZBE]
   rw[List.getElem?_take]at hj
   split at hj
   ·exact hcs j v hj
   ·cases hj)
 have hmul:(n+m-i)*i0.bytes<=281474976710656:=by
  have:=Nat.mul_le_mul (show n+m-i<=1048600 by omega) hzb
  omega
 have hfit:Builtin.nextslicecap (n+m) c*i0.bytes<=281474976710656:=growslice_fits hroom (by
  have:=Nat.mul_le_mul (show n+m<=1048600 by omega) hzb
  omega)
 have hrz: ∀ty,(Builtin.append_ #[32,3] ty #[.slice (some ⟨b,off,none⟩) i c,.int .i64 ((n:Int)+(m:Int) -(i:Int))]).run prog w=
   .ok (.slice (some ⟨w.heap.size,0,none⟩) (n+m) (grownCap w (n+m) c 107)) (w.drew.alloc (.cells ((cs.take (i*8)).toArray++Builtin.zeroCells z0.cells (n+m-i)++Builtin.zeroCells z0.cells (grownCap w (n+m) c 107-(n+m))) 107)):=λty=>by
  have h:=Lib.run_append_grow_zeros w 32 3 ty 107 i0 _ .i64 .i64 hu hu3 hi0 hz0 (some ⟨b,off,none⟩) i c (cs.take (i*8)) hold (n+m-i) (by omega) (by omega) (by omega) (by omega) hmul (by rw[hik];exact hfit)
  rw[hik]at h
  rw[hkk]
  exact h
 obtain⟨G,hG⟩: ∃G,G=grownCap w (n+m) c 107:=⟨_,rfl⟩
 obtain⟨ROW,hROW⟩: ∃ROW:Array Value,ROW=(cs.take (i*8)).toArray++Builtin.zeroCells z0.cells (n+m-i)++Builtin.zeroCells z0.cells (G-(n+m)):=⟨_,rfl⟩
 rw[<-hG]at hrz⊢
 rw[<-hROW]at hrz⊢
 have hRl:(n+m)*8<=ROW.size:=by
  rw[hROW]
  simp only[Array.size_append,List.size_toArray,al_len_take,size_zeroCells,hzc,hcl]
  omega
 obtain⟨W1,hW1⟩: ∃W1,W1=w.drew.alloc (.cells ROW 107):=⟨_,rfl⟩
 rw[<-hW1]at hrz
 have hN: ∀j,j<(n+m)*8->(W1.cell? ⟨w.heap.size,j,none⟩).isSome=true:=λj hj=>by
  rw[hW1,World.cell?_alloc_at (w:=w.drew) ROW _ w.heap.size j rfl,Array.getElem?_eq_getElem (by omega)];rfl
 have hNf: ∀j,W1.frozen? ⟨w.heap.size,j,none⟩=false:=λj=>by rw[hW1];exact World.frozen?_alloc_at (w:=w.drew) ROW _ w.heap.size j rfl
 have hOb: ∀j v,w.cell? ⟨b,j,none⟩=some v->W1.cell? ⟨b,j,none⟩=some v:=λj v h=>by rw[hW1,World.cell?_alloc_past (w:=w.drew) _ b j hbw];exact h
 have hOv: ∀j v,w.cell? ⟨vb,j,none⟩=some v->W1.cell? ⟨vb,j,none⟩=some v:=λj v h=>by rw[hW1,World.cell?_alloc_past (w:=w.drew) _ vb j hvw];exact h
 have hcpA: ∀(W:World),(∀x,W.cell? x=W1.cell? x)->(∀x,W.frozen? x=W1.frozen? x)-> ∀ty dl dc,Nat.min m dl=m->(Builtin.copy_ #[32,32] ty #[.slice (some ⟨w.heap.size,i*8,none⟩) dl dc,.slice (some ⟨vb,voff,none⟩) m vc]).run prog W= .ok (goInt m) (W.setCells w.heap.size (i*8) vs):=λW hWc hWf ty dl dc hmin=>
  ZEb W _ _ ty 107 8 w.heap.size (i*8) dl dc ⟨vb,voff,none⟩ m vc m vs hu hse hmin hvl
   (λj v hj=>by rw[ZBE,hWc];exact hOv _ v (hvs j v hj))
   (λj hj=>by rw[hWc];exact hN _ (by omega)) (λj hj=>by rw[hWf];exact hNf _) h1v
 have hGn:n+m<=G:=by rw[hG];exact grownCap_ge w _ _ _
 have hGi: ¬(G=i):=by omega
 have hGim: ¬(G=i+m):=by omega
 have hci: ¬(c=i):=by omega
 have hbN:b≠w.heap.size:=by omega
 have hdl:(cs.drop (i*8)).length=(n-i)*8:=by rw[List.length_drop,hcl];omega
 have hcpB: ∀(W:World),(∀x,W.cell? x=(W1.setCells w.heap.size (i*8) vs).cell? x)->(∀x,W.frozen? x=(W1.setCells w.heap.size (i*8) vs).frozen? x)-> ∀ty dl dc sl sc,Nat.min sl dl=n-i->(Builtin.copy_ #[32,32] ty #[.slice (some ⟨w.heap.size,(i+m)*8,none⟩) dl dc,.slice (some ⟨b,off+i*8,none⟩) sl sc]).run prog W= .ok (goInt ((n-i:Nat):Int)) (W.setCells w.heap.size ((i+m)*8) (cs.drop (i*8))):=λW hWc hWf ty dl dc sl sc hmin=>
  ZEb W _ _ ty 107 8 w.heap.size ((i+m)*8) dl dc ⟨b,off+i*8,none⟩ sl sc (n-i) (cs.drop (i*8)) hu hse hmin hdl
   (λj v hj=>by
    rw[ZBE,hWc,World.cell?_setCells_out _ _ _ _ _ (λh _=>absurd h hbN),Nat.add_assoc]
    exact hOb _ v (hcs (i*8+j) v (by rwa[List.getElem?_drop]at hj)))
   (λj hj=>by rw[hWc];exact isSome_setCells _ _ _ _ (λt ht=>hN _ (by omega)) _ (hN _ (by omega)))
   (λj hj=>by rw[hWf,World.frozen?_setCells];exact hNf _) (λv hv=>h1c v (List.mem_of_mem_drop hv))
 subst hW1
 have hE1: ∀x,((w.alloc (.cells ROW 107)).drew).cell? x=(w.drew.alloc (.cells ROW 107)).cell? x:=λx=>rfl
 have hE2: ∀x,((w.alloc (.cells ROW 107)).drew).frozen? x=(w.drew.alloc (.cells ROW 107)).frozen? x:=λx=>rfl
 have hF1: ∀x,(((w.alloc (.cells ROW 107)).drew.setCells w.heap.size (i*8) vs).drew).cell? x=((w.drew.alloc (.cells ROW 107)).setCells w.heap.size (i*8) vs).cell? x:=λx=>rfl
 have hF2: ∀x,(((w.alloc (.cells ROW 107)).drew.setCells w.heap.size (i*8) vs).drew).frozen? x=((w.drew.alloc (.cells ROW 107)).setCells w.heap.size (i*8) vs).frozen? x:=λx=>rfl
 have hw1:IntKind.i64.wrap ((i:Int)+(m:Int))=(i:Int)+(m:Int):=by rw[IntKind.wrap_i64];omega
 have hb1:(0:Int)<=(i:Int)+(m:Int):=by omega
 have hin:i<=n:=by omega
 have htn:((i:Int)+(m:Int)).toNat=i+m:=by omega
 have hb3:(i:Int)<=(n:Int):=by omega
 have hmA:Nat.min m (n+m-i)=m:=by simp only[Nat.min_def];split<;>omega
 have hmB:Nat.min (n-i) (n+m-(i+m))=n-i:=by simp only[Nat.min_def];split<;>omega
 clear hkk hik hold hROW hG hRl hmul hfit
 go_enter func195,ntmps195
 go_wp2_with (first
  | (at_builtin;refine Lib.wpList_append_run _ rfl _ _ _ _ rfl _ _ rfl rfl _ _ (hrz _) ?_)
  | (at_builtin;refine wpList_copy_runI _ rfl _ _ 32 32 rfl _ _ rfl rfl (hcpA _ hE1 hE2 _ _ _ hmA) ?_)
  | (at_builtin;refine wpList_copy_runI _ rfl _ _ 32 32 rfl _ _ rfl rfl (hcpB _ (λ_=>rfl) (λ_=>rfl) _ _ _ _ _ hmB) ?_))
 go_region_law_o (refine step_copy_runI rfl _ _ 32 32 rfl (.slice (some ⟨w.heap.size,(i+m)*8,none⟩) (n+m-(i+m)) (G-(i+m))) (.slice (some ⟨b,off+i*8,none⟩) (n-i) (c-i)) (by simp[Act.eval,Act.put]) (by simp[Act.eval,Act.put]) (hcpB _ hF1 hF2 3 (n+m-(i+m)) (G-(i+m)) (n-i) (c-i) hmB) ?_)
 go_wp2
 go_ret
 exact⟨rfl,rfl⟩
set_option maxHeartbeats 4000000 in
def ZVA(b off n c i vb voff m vc:Nat)(cs vs:List Value)(w:World)(hi:i<n)(hm:0<m)(hnc:n<=c)(hroom:c<n+m)(hn20:n+m<=1048600)
  (hcl:cs.length=n*4) (hvl:vs.length=m*4)
  (hcs: ∀j v,cs[j]?=some v->w.cell? ⟨b,off+j,none⟩=some v)
  (hvs: ∀j v,vs[j]?=some v->w.cell? ⟨vb,voff+j,none⟩=some v) (h1c: ∀v∈cs,v.oneCell'=true) (h1v: ∀v∈vs,v.oneCell'=true) (i0:TypeInfo) (z0:Value) (hi0:prog.info? 111=some i0) (hz0:i0.zero=some z0) (hzs:i0.size=4) (hzb:i0.bytes<=128) (hzc:z0.cells.size=4):
  Calls prog 202 #[.slice (some ⟨b,off,none⟩) n c,.int .i64 i,.slice (some ⟨vb,voff,none⟩) m vc] w λe w'=>
   e= .returned (.slice (some ⟨w.heap.size,0,none⟩) (n+m) (grownCap w (n+m) c 111))/\
   w'=(((w.alloc (.cells ((cs.take (i*4)).toArray++Builtin.zeroCells z0.cells (n+m-i)++Builtin.zeroCells z0.cells (grownCap w (n+m) c 111-(n+m))) 111)).drew.setCells w.heap.size (i*4) vs).drew).setCells w.heap.size ((i+m)*4) (cs.drop (i*4)):=by
 have hz1: ¬((m:Int)=0):=by omega
 have hz2: ¬((i:Int)=(n:Int)):=by omega
 have hz3:(c:Int)<(n:Int)+(m:Int):=by omega
 have hse:ZBV prog 111 4:=ZGF.he.1
 have hu:=ZGF.ht
 have hu3:=underlying3
 have mixed:prog.follows .mixedOrders=true:=by kernel_rfl
 have hbw:b<w.heap.size:=block_lt_of_cell (hcs 0 _ (al_get_get (by omega)))
 have hvw:vb<w.heap.size:=block_lt_of_cell (hvs 0 _ (al_get_get (by omega)))
 have hkk:(n:Int)+(m:Int) -(i:Int)=((n+m-i:Nat):Int):=by omega
 have hik:i+(n+m-i)=n+m:=by omega
 have hold:(Builtin.firstCells i0.size i (.slice (some ⟨b,off,none⟩) i c)).run prog w.drew= .ok (cs.take (i*4)).toArray w.drew:=by
  rw[hzs]
  exact run_firstCells_some w.drew 4 i ⟨b,off,none⟩ i c (cs.take (i*4)) (by rw[al_len_take];omega) (λj v hj=>by
   rw[ZBE]
   rw[List.getElem?_take]at hj
   split at hj
   ·exact hcs j v hj
   ·cases hj)
 have hmul:(n+m-i)*i0.bytes<=281474976710656:=by
  have:=Nat.mul_le_mul (show n+m-i<=1048600 by omega) hzb
  omega
 have hfit:Builtin.nextslicecap (n+m) c*i0.bytes<=281474976710656:=growslice_fits hroom (by
  have:=Nat.mul_le_mul (show n+m<=1048600 by omega) hzb
  omega)
 have hrz: ∀ty,(Builtin.append_ #[33,3] ty #[.slice (some ⟨b,off,none⟩) i c,.int .i64 ((n:Int)+(m:Int) -(i:Int))]).run prog w=
   .ok (.slice (some ⟨w.heap.size,0,none⟩) (n+m) (grownCap w (n+m) c 111)) (w.drew.alloc (.cells ((cs.take (i*4)).toArray++Builtin.zeroCells z0.cells (n+m-i)++Builtin.zeroCells z0.cells (grownCap w (n+m) c 111-(n+m))) 111)):=λty=>by
  have h:=Lib.run_append_grow_zeros w 33 3 ty 111 i0 _ .i64 .i64 hu hu3 hi0 hz0 (some ⟨b,off,none⟩) i c (cs.take (i*4)) hold (n+m-i) (by omega) (by omega) (by omega) (by omega) hmul (by rw[hik];exact hfit)
  rw[hik]at h
  rw[hkk]
  exact h
 obtain⟨G,hG⟩: ∃G,G=grownCap w (n+m) c 111:=⟨_,rfl⟩
 obtain⟨ROW,hROW⟩: ∃ROW:Array Value,ROW=(cs.take (i*4)).toArray++Builtin.zeroCells z0.cells (n+m-i)++Builtin.zeroCells z0.cells (G-(n+m)):=⟨_,rfl⟩
 rw[<-hG]at hrz⊢
 rw[<-hROW]at hrz⊢
 have hRl:(n+m)*4<=ROW.size:=by
  rw[hROW]
  simp only[Array.size_append,List.size_toArray,al_len_take,size_zeroCells,hzc,hcl]
  omega
 obtain⟨W1,hW1⟩: ∃W1,W1=w.drew.alloc (.cells ROW 111):=⟨_,rfl⟩
 rw[<-hW1]at hrz
 have hN: ∀j,j<(n+m)*4->(W1.cell? ⟨w.heap.size,j,none⟩).isSome=true:=λj hj=>by
  rw[hW1,World.cell?_alloc_at (w:=w.drew) ROW _ w.heap.size j rfl,Array.getElem?_eq_getElem (by omega)];rfl
 have hNf: ∀j,W1.frozen? ⟨w.heap.size,j,none⟩=false:=λj=>by rw[hW1];exact World.frozen?_alloc_at (w:=w.drew) ROW _ w.heap.size j rfl
 have hOb: ∀j v,w.cell? ⟨b,j,none⟩=some v->W1.cell? ⟨b,j,none⟩=some v:=λj v h=>by rw[hW1,World.cell?_alloc_past (w:=w.drew) _ b j hbw];exact h
 have hOv: ∀j v,w.cell? ⟨vb,j,none⟩=some v->W1.cell? ⟨vb,j,none⟩=some v:=λj v h=>by rw[hW1,World.cell?_alloc_past (w:=w.drew) _ vb j hvw];exact h
 have hcpA: ∀(W:World),(∀x,W.cell? x=W1.cell? x)->(∀x,W.frozen? x=W1.frozen? x)-> ∀ty dl dc,Nat.min m dl=m->(Builtin.copy_ #[33,33] ty #[.slice (some ⟨w.heap.size,i*4,none⟩) dl dc,.slice (some ⟨vb,voff,none⟩) m vc]).run prog W= .ok (goInt m) (W.setCells w.heap.size (i*4) vs):=λW hWc hWf ty dl dc hmin=>
  ZEb W _ _ ty 111 4 w.heap.size (i*4) dl dc ⟨vb,voff,none⟩ m vc m vs hu hse hmin hvl
   (λj v hj=>by rw[ZBE,hWc];exact hOv _ v (hvs j v hj))
   (λj hj=>by rw[hWc];exact hN _ (by omega)) (λj hj=>by rw[hWf];exact hNf _) h1v
 have hGn:n+m<=G:=by rw[hG];exact grownCap_ge w _ _ _
 have hGi: ¬(G=i):=by omega
 have hGim: ¬(G=i+m):=by omega
 have hci: ¬(c=i):=by omega
 have hbN:b≠w.heap.size:=by omega
 have hdl:(cs.drop (i*4)).length=(n-i)*4:=by rw[List.length_drop,hcl];omega
 have hcpB: ∀(W:World),(∀x,W.cell? x=(W1.setCells w.heap.size (i*4) vs).cell? x)->(∀x,W.frozen? x=(W1.setCells w.heap.size (i*4) vs).frozen? x)-> ∀ty dl dc sl sc,Nat.min sl dl=n-i->(Builtin.copy_ #[33,33] ty #[.slice (some ⟨w.heap.size,(i+m)*4,none⟩) dl dc,.slice (some ⟨b,off+i*4,none⟩) sl sc]).run prog W= .ok (goInt ((n-i:Nat):Int)) (W.setCells w.heap.size ((i+m)*4) (cs.drop (i*4))):=λW hWc hWf ty dl dc sl sc hmin=>
  ZEb W _ _ ty 111 4 w.heap.size ((i+m)*4) dl dc ⟨b,off+i*4,none⟩ sl sc (n-i) (cs.drop (i*4)) hu hse hmin hdl
   (λj v hj=>by
    rw[ZBE,hWc,World.cell?_setCells_out _ _ _ _ _ (λh _=>absurd h hbN),Nat.add_assoc]
    exact hOb _ v (hcs (i*4+j) v (by rwa[List.getElem?_drop]at hj)))
   (λj hj=>by rw[hWc];exact isSome_setCells _ _ _ _ (λt ht=>hN _ (by omega)) _ (hN _ (by omega)))
   (λj hj=>by rw[hWf,World.frozen?_setCells];exact hNf _) (λv hv=>h1c v (List.mem_of_mem_drop hv))
 subst hW1
 have hE1: ∀x,((w.alloc (.cells ROW 111)).drew).cell? x=(w.drew.alloc (.cells ROW 111)).cell? x:=λx=>rfl
 have hE2: ∀x,((w.alloc (.cells ROW 111)).drew).frozen? x=(w.drew.alloc (.cells ROW 111)).frozen? x:=λx=>rfl
 have hF1: ∀x,(((w.alloc (.cells ROW 111)).drew.setCells w.heap.size (i*4) vs).drew).cell? x=((w.drew.alloc (.cells ROW 111)).setCells w.heap.size (i*4) vs).cell? x:=λx=>rfl
 have hF2: ∀x,(((w.alloc (.cells ROW 111)).drew.setCells w.heap.size (i*4) vs).drew).frozen? x=((w.drew.alloc (.cells ROW 111)).setCells w.heap.size (i*4) vs).frozen? x:=λx=>rfl
 have hw1:IntKind.i64.wrap ((i:Int)+(m:Int))=(i:Int)+(m:Int):=by rw[IntKind.wrap_i64];omega
 have hb1:(0:Int)<=(i:Int)+(m:Int):=by omega
 have hin:i<=n:=by omega
 have htn:((i:Int)+(m:Int)).toNat=i+m:=by omega
 have hb3:(i:Int)<=(n:Int):=by omega
 have hmA:Nat.min m (n+m-i)=m:=by simp only[Nat.min_def];split<;>omega
 have hmB:Nat.min (n-i) (n+m-(i+m))=n-i:=by simp only[Nat.min_def];split<;>omega
 clear hkk hik hold hROW hG hRl hmul hfit
 go_enter func202,ntmps202
 go_wp2_with (first
  | (at_builtin;refine Lib.wpList_append_run _ rfl _ _ _ _ rfl _ _ rfl rfl _ _ (hrz _) ?_)
  | (at_builtin;refine wpList_copy_runI _ rfl _ _ 33 33 rfl _ _ rfl rfl (hcpA _ hE1 hE2 _ _ _ hmA) ?_)
  | (at_builtin;refine wpList_copy_runI _ rfl _ _ 33 33 rfl _ _ rfl rfl (hcpB _ (λ_=>rfl) (λ_=>rfl) _ _ _ _ _ hmB) ?_))
 go_region_law_o (refine step_copy_runI rfl _ _ 33 33 rfl (.slice (some ⟨w.heap.size,(i+m)*4,none⟩) (n+m-(i+m)) (G-(i+m))) (.slice (some ⟨b,off+i*4,none⟩) (n-i) (c-i)) (by simp[Act.eval,Act.put]) (by simp[Act.eval,Act.put]) (hcpB _ hF1 hF2 3 (n+m-(i+m)) (G-(i+m)) (n-i) (c-i) hmB) ?_)
 go_wp2
 go_ret
 exact⟨rfl,rfl⟩
end Ev
end
noncomputable section
namespace Ev
open Go Go.Proofs Go.RowKit Go.Lib
def ZEd(w:World):Chg (λ_=>False) w w.drew:=⟨rfl,rfl,rfl,Nat.le_refl _,λ_ _ _=>rfl,DR.succ _⟩
def ZFH{w:World}{b:Nat}{arr:Array Value}(h:RowB w b arr):RowB w.drew b arr:=h
def ZPO{w0 w:World}{l:List Device}{x:Device}{a:Option Addr}{cap i B e:Nat}(H:Fresh .device w0 w l a cap)(h0:w0.heap.size<=w.heap.size)(hi:i<=l.length)(hl:l.length<=1048576)(hB:w.heap[B]?=some (.cells ((flat .device [x]).toArray) e (0,0)))
  (hne: ∀b s,a=some ⟨b,s,none⟩->cap≠0->B≠b):
  Calls prog 195 #[.slice a l.length cap,.int .i64 i,.slice (some ⟨B,0,none⟩) 1 1] w λen w'=> ∃a' cap',en= .returned (.slice a' (l.length+1) cap')/\Fresh .device w0 w' (insL l i x) a' cap'/\Chg (λb=>w0.heap.size<=b) w w':=by
 by_cases hend:i=l.length
 ·subst hend
  have e1:insL l l.length x=l++[x]:=by unfold insL;rw[List.take_length,List.drop_length]
  rw[e1]
  exact ZU6 H h0 hl hB
 ·have hlt:i<l.length:=by omega
  have hcl:=H.len
  rcases H.at_ with h | ⟨b,s,arr,rfl,hge,hr,hsz,hat⟩
  ·omega
  ·have hsz:s+cap*8<=arr.size:=hsz
   have hfl:(flat .device l).length=l.length*8:=ZAy .device l
   have hfx:(flat .device [x]).length=1*8:=ZAy .device [x]
   have hvs: ∀j v,(flat .device [x])[j]?=some v->w.cell? ⟨B,0+j,none⟩=some v:=λj v hv=>by
    unfold World.cell?
    rw[hB,Nat.zero_add]
    simpa using hv
   have htk: ∀j,j<i*8->(flat .device (l.take i))[j]?=(flat .device l)[j]?:=λj hj=>by
    rw[ZER .device l i,List.getElem?_append_left (by rw[ZAy,al_len_take,Nat.min_eq_left hi];exact hj)]
   have hdr: ∀j,(flat .device (l.drop i))[j]?=(flat .device l)[i*8+j]?:=λj=>by
    have el:(flat .device (l.take i)).length=i*8:=by rw[ZAy,al_len_take,Nat.min_eq_left hi];rfl
    rw[ZER .device l i,List.getElem?_append_right (by omega),el,Nat.add_sub_cancel_left]
   have hdl:((flat .device l).drop (i*8)).length=(l.length-i)*8:=by rw[List.length_drop,hfl];omega
   by_cases hroom:l.length+1<=cap
   ·have hBb:=hne b s rfl (by omega)
    obtain⟨tB,hsb⟩:=ZPL hr
    have hsa:w.shape? B=some (e,8):=by
     have:((flat .device [x]).toArray).size=8:=by rw[List.size_toArray,hfx]
     simp[World.shape?,hB,hfx]
    refine(ZU8 b s l.length cap i B 0 1 1 (flat .device l) (flat .device [x]) w hlt (by omega) hroom hBb hfl hfx (by omega) hat
     (λj hj=>ZLI hr (by omega)) (λj hj=>ZLH hr (by omega)) hvs (ZCx .device l) (ZCx .device [x]) e tB 8 arr.size hsa hsb (by omega)
     (by simp[World.frozen?,hB]) (by simp[World.frozen?,hB])).mono ?_
    rintro en w' ⟨rfl,rfl⟩
    obtain⟨arr1,r1,s1,g1,c1,z1⟩:=ZDP ((flat .device l).drop (i*8)) w.drew arr (s+(i+1)*8) (ZFH hr) (by rw[hdl];omega)
    obtain⟨arr2,r2,s2,g2,c2,z2⟩:=ZDP (flat .device [x]) _ arr1 (s+i*8) r1 (by rw[hfx];omega)
    refine⟨_,cap,rfl,⟨by rw[ZDQ l i x hi];exact hroom,.inr ⟨b,s,arr2,rfl,hge,r2,by rw[s2,s1];exact hsz,ZIv r2 hi (λj hj=> ?_) (λj hj=> ?_) (λj hj=> ?_)⟩⟩,?_⟩
    ·have hj:j<i*8:=hj
     rw[g2,al_if_neg,g1,al_if_neg,htk j hj,<-ZAs hr]
     have hv: ∃v,(flat .device l)[j]?=some v:=⟨_,al_get_get (by omega)⟩
     obtain⟨v,hv⟩:=hv
     rw[hv];exact hat j v hv
    ·have hj:j<8:=hj
     show arr2[s+(i*8+j)]?=_
     rw[g2,al_if_pos,show s+(i*8+j) -(s+i*8)=j by omega]
    ·have hj:j<(l.length-i)*8:=hj
     show arr2[s+((i+1)*8+j)]?=_
     rw[g2,al_if_neg,g1,al_if_pos (by rw[hdl];omega),show s+((i+1)*8+j) -(s+(i+1)*8)=j by omega,List.getElem?_drop,hdr]
    ·have cd:=(ZEd w).mono (B:=λx=>x=b) λ_ h=>h.elim
     exact(((cd.trans c1 (λ_ h=>h) (λ_ _ h=>h)).trans c2 (λ_ h=>h) (λ_ _ h=>h))).mono λy hy=>by rw[hy];exact hge
   ·obtain⟨hs,⟨i0,z0,hi0,hz0,hzc⟩,_,⟨i',hi',hb⟩,_⟩:=ZEc.he
    rw[hi0]at hi';cases hi'
    have hzs:i0.size=8:=by
     obtain⟨j,hj,hs⟩:=hs
     rw[hi0]at hj;cases hj;exact hs
    have hzz:z0.cells.size=8:=by rw[<-Array.length_toList,hzc];rfl
    refine(ZV b s l.length cap i B 0 1 1 (flat .device l) (flat .device [x]) w hlt (by omega) hcl (by omega) (by omega) hfl hfx hat hvs (ZCx .device l) (ZCx .device [x]) i0 z0 hi0 hz0 hzs hb hzz).mono ?_
    rintro en w' ⟨rfl,rfl⟩
    have hG:=grownCap_ge w (l.length+1) cap 107
    generalize hGe:grownCap w (l.length+1) cap 107=G at hG
    generalize hROW:((flat .device l).take (i*8)).toArray++Builtin.zeroCells z0.cells (l.length+1-i)++Builtin.zeroCells z0.cells (G-(l.length+1))=ROW
    have htl:((flat .device l).take (i*8)).length=i*8:=by rw[al_len_take,hfl];omega
    have hRs:ROW.size=G*8:=by
     rw[<-hROW]
     simp only[Array.size_append,List.size_toArray,al_len_take,size_zeroCells,hzz,hfl]
     omega
    have r0:=ZCw w ROW 107
    have c0:=ZB4 w (.cells ROW 107)
    have cd:=ZEd (w.alloc (.cells ROW 107))
    obtain⟨arr1,r1,s1,g1,c1,z1⟩:=ZDP (flat .device [x]) (w.alloc (.cells ROW 107)).drew ROW (i*8) (ZFH r0) (by rw[hfx];omega)
    have ce:=ZEd ((w.alloc (.cells ROW 107)).drew.setCells w.heap.size (i*8) (flat .device [x]))
    obtain⟨arr2,r2,s2,g2,c2,z2⟩:=ZDP ((flat .device l).drop (i*8)) ((w.alloc (.cells ROW 107)).drew.setCells w.heap.size (i*8) (flat .device [x])).drew arr1 ((i+1)*8) (ZFH r1) (by rw[hdl];omega)
    refine⟨_,G,rfl,⟨by rw[ZDQ l i x hi];exact hG,.inr ⟨w.heap.size,0,arr2,rfl,h0,r2,by rw[s2,s1,hRs,Nat.zero_add];exact Nat.le_refl _,ZIv r2 hi (λj hj=> ?_) (λj hj=> ?_) (λj hj=> ?_)⟩⟩,?_⟩
    ·have hj:j<i*8:=hj
     rw[Nat.zero_add,g2,al_if_neg,g1,al_if_neg,htk j hj,<-hROW,Array.getElem?_append_left (by rw[Array.size_append,List.size_toArray,htl];exact Nat.lt_of_lt_of_le hj (Nat.le_add_right _ _)),Array.getElem?_append_left (by rw[List.size_toArray,htl];exact hj),List.getElem?_toArray,List.getElem?_take_of_lt hj]
    ·have hj:j<8:=hj
     show arr2[0+(i*8+j)]?=_
     rw[Nat.zero_add,g2,al_if_neg,g1,al_if_pos,Nat.add_sub_cancel_left]
    ·have hj:j<(l.length-i)*8:=hj
     show arr2[0+((i+1)*8+j)]?=_
     rw[Nat.zero_add,g2,al_if_pos (by rw[hdl];omega),Nat.add_sub_cancel_left,List.getElem?_drop,hdr]
    ·have t1:=c0.trans cd (λ_ h=>h) (λ_ _ h=>h)
     have t2:Chg (λy=>w0.heap.size<=y) w _:=t1.trans c1 (λ_ h=>h.elim) (λy _ hy=>by rw[hy];exact h0)
     have t3:=t2.trans ce (λ_ h=>h) (λy _ hy=>hy.elim)
     exact t3.trans c2 (λ_ h=>h) (λy _ hy=>by rw[hy];exact h0)
def ZPP{w0 w:World}{l:List Cue}{x:Cue}{a:Option Addr}{cap i B e:Nat}(H:Fresh .cue w0 w l a cap)(h0:w0.heap.size<=w.heap.size)(hi:i<=l.length)(hl:l.length<=1048576)(hB:w.heap[B]?=some (.cells ((flat .cue [x]).toArray) e (0,0)))
  (hne: ∀b s,a=some ⟨b,s,none⟩->cap≠0->B≠b):
  Calls prog 202 #[.slice a l.length cap,.int .i64 i,.slice (some ⟨B,0,none⟩) 1 1] w λen w'=> ∃a' cap',en= .returned (.slice a' (l.length+1) cap')/\Fresh .cue w0 w' (insL l i x) a' cap'/\Chg (λb=>w0.heap.size<=b) w w':=by
 by_cases hend:i=l.length
 ·subst hend
  have e1:insL l l.length x=l++[x]:=by unfold insL;rw[List.take_length,List.drop_length]
  rw[e1]
  exact ZU7 H h0 hl hB
 ·have hlt:i<l.length:=by omega
  have hcl:=H.len
  rcases H.at_ with h | ⟨b,s,arr,rfl,hge,hr,hsz,hat⟩
  ·omega
  ·have hsz:s+cap*4<=arr.size:=hsz
   have hfl:(flat .cue l).length=l.length*4:=ZAy .cue l
   have hfx:(flat .cue [x]).length=1*4:=ZAy .cue [x]
   have hvs: ∀j v,(flat .cue [x])[j]?=some v->w.cell? ⟨B,0+j,none⟩=some v:=λj v hv=>by
    unfold World.cell?
    rw[hB,Nat.zero_add]
    simpa using hv
   have htk: ∀j,j<i*4->(flat .cue (l.take i))[j]?=(flat .cue l)[j]?:=λj hj=>by
    rw[ZER .cue l i,List.getElem?_append_left (by rw[ZAy,al_len_take,Nat.min_eq_left hi];exact hj)]
   have hdr: ∀j,(flat .cue (l.drop i))[j]?=(flat .cue l)[i*4+j]?:=λj=>by
    have el:(flat .cue (l.take i)).length=i*4:=by rw[ZAy,al_len_take,Nat.min_eq_left hi];rfl
    rw[ZER .cue l i,List.getElem?_append_right (by omega),el,Nat.add_sub_cancel_left]
   have hdl:((flat .cue l).drop (i*4)).length=(l.length-i)*4:=by rw[List.length_drop,hfl];omega
   by_cases hroom:l.length+1<=cap
   ·have hBb:=hne b s rfl (by omega)
    obtain⟨tB,hsb⟩:=ZPL hr
    have hsa:w.shape? B=some (e,4):=by
     have:((flat .cue [x]).toArray).size=4:=by rw[List.size_toArray,hfx]
     simp[World.shape?,hB,hfx]
    refine(ZU9 b s l.length cap i B 0 1 1 (flat .cue l) (flat .cue [x]) w hlt (by omega) hroom hBb hfl hfx (by omega) hat
     (λj hj=>ZLI hr (by omega)) (λj hj=>ZLH hr (by omega)) hvs (ZCx .cue l) (ZCx .cue [x]) e tB 4 arr.size hsa hsb (by omega)
     (by simp[World.frozen?,hB]) (by simp[World.frozen?,hB])).mono ?_
    rintro en w' ⟨rfl,rfl⟩
    obtain⟨arr1,r1,s1,g1,c1,z1⟩:=ZDP ((flat .cue l).drop (i*4)) w.drew arr (s+(i+1)*4) (ZFH hr) (by rw[hdl];omega)
    obtain⟨arr2,r2,s2,g2,c2,z2⟩:=ZDP (flat .cue [x]) _ arr1 (s+i*4) r1 (by rw[hfx];omega)
    refine⟨_,cap,rfl,⟨by rw[ZDQ l i x hi];exact hroom,.inr ⟨b,s,arr2,rfl,hge,r2,by rw[s2,s1];exact hsz,ZIv r2 hi (λj hj=> ?_) (λj hj=> ?_) (λj hj=> ?_)⟩⟩,?_⟩
    ·have hj:j<i*4:=hj
     rw[g2,al_if_neg,g1,al_if_neg,htk j hj,<-ZAs hr]
     have hv: ∃v,(flat .cue l)[j]?=some v:=⟨_,al_get_get (by omega)⟩
     obtain⟨v,hv⟩:=hv
     rw[hv];exact hat j v hv
    ·have hj:j<4:=hj
     show arr2[s+(i*4+j)]?=_
     rw[g2,al_if_pos,show s+(i*4+j) -(s+i*4)=j by omega]
    ·have hj:j<(l.length-i)*4:=hj
     show arr2[s+((i+1)*4+j)]?=_
     rw[g2,al_if_neg,g1,al_if_pos (by rw[hdl];omega),show s+((i+1)*4+j) -(s+(i+1)*4)=j by omega,List.getElem?_drop,hdr]
    ·have cd:=(ZEd w).mono (B:=λx=>x=b) λ_ h=>h.elim
     exact(((cd.trans c1 (λ_ h=>h) (λ_ _ h=>h)).trans c2 (λ_ h=>h) (λ_ _ h=>h))).mono λy hy=>by rw[hy];exact hge
   ·obtain⟨hs,⟨i0,z0,hi0,hz0,hzc⟩,_,⟨i',hi',hb⟩,_⟩:=ZGF.he
    rw[hi0]at hi';cases hi'
    have hzs:i0.size=4:=by
     obtain⟨j,hj,hs⟩:=hs
     rw[hi0]at hj;cases hj;exact hs
    have hzz:z0.cells.size=4:=by rw[<-Array.length_toList,hzc];rfl
    refine(ZVA b s l.length cap i B 0 1 1 (flat .cue l) (flat .cue [x]) w hlt (by omega) hcl (by omega) (by omega) hfl hfx hat hvs (ZCx .cue l) (ZCx .cue [x]) i0 z0 hi0 hz0 hzs hb hzz).mono ?_
    rintro en w' ⟨rfl,rfl⟩
    have hG:=grownCap_ge w (l.length+1) cap 111
    generalize hGe:grownCap w (l.length+1) cap 111=G at hG
    generalize hROW:((flat .cue l).take (i*4)).toArray++Builtin.zeroCells z0.cells (l.length+1-i)++Builtin.zeroCells z0.cells (G-(l.length+1))=ROW
    have htl:((flat .cue l).take (i*4)).length=i*4:=by rw[al_len_take,hfl];omega
    have hRs:ROW.size=G*4:=by
     rw[<-hROW]
     simp only[Array.size_append,List.size_toArray,al_len_take,size_zeroCells,hzz,hfl]
     omega
    have r0:=ZCw w ROW 111
    have c0:=ZB4 w (.cells ROW 111)
    have cd:=ZEd (w.alloc (.cells ROW 111))
    obtain⟨arr1,r1,s1,g1,c1,z1⟩:=ZDP (flat .cue [x]) (w.alloc (.cells ROW 111)).drew ROW (i*4) (ZFH r0) (by rw[hfx];omega)
    have ce:=ZEd ((w.alloc (.cells ROW 111)).drew.setCells w.heap.size (i*4) (flat .cue [x]))
    obtain⟨arr2,r2,s2,g2,c2,z2⟩:=ZDP ((flat .cue l).drop (i*4)) ((w.alloc (.cells ROW 111)).drew.setCells w.heap.size (i*4) (flat .cue [x])).drew arr1 ((i+1)*4) (ZFH r1) (by rw[hdl];omega)
    refine⟨_,G,rfl,⟨by rw[ZDQ l i x hi];exact hG,.inr ⟨w.heap.size,0,arr2,rfl,h0,r2,by rw[s2,s1,hRs,Nat.zero_add];exact Nat.le_refl _,ZIv r2 hi (λj hj=> ?_) (λj hj=> ?_) (λj hj=> ?_)⟩⟩,?_⟩
    ·have hj:j<i*4:=hj
     rw[Nat.zero_add,g2,al_if_neg,g1,al_if_neg,htk j hj,<-hROW,Array.getElem?_append_left (by rw[Array.size_append,List.size_toArray,htl];exact Nat.lt_of_lt_of_le hj (Nat.le_add_right _ _)),Array.getElem?_append_left (by rw[List.size_toArray,htl];exact hj),List.getElem?_toArray,List.getElem?_take_of_lt hj]
    ·have hj:j<4:=hj
     show arr2[0+(i*4+j)]?=_
     rw[Nat.zero_add,g2,al_if_neg,g1,al_if_pos,Nat.add_sub_cancel_left]
    ·have hj:j<(l.length-i)*4:=hj
     show arr2[0+((i+1)*4+j)]?=_
     rw[Nat.zero_add,g2,al_if_pos (by rw[hdl];omega),Nat.add_sub_cancel_left,List.getElem?_drop,hdr]
    ·have t1:=c0.trans cd (λ_ h=>h) (λ_ _ h=>h)
     have t2:Chg (λy=>w0.heap.size<=y) w _:=t1.trans c1 (λ_ h=>h.elim) (λy _ hy=>by rw[hy];exact h0)
     have t3:=t2.trans ce (λ_ h=>h) (λy _ hy=>hy.elim)
     exact t3.trans c2 (λ_ h=>h) (λy _ hy=>by rw[hy];exact h0)
end Ev
end
noncomputable section
namespace Ev
open Go Go.Proofs Go.RowKit Go.Lib
def ZVB{P:Program}(w:World)(t e ty:TypeId)(z:Value)(ht:P.underlying t=some (.slice e))(hv: ∀w,(zeroValue e).run P w= .ok z w)(b o n c:Nat)(hn:0<n)(vs:List Value)(hvs:(Builtin.zeroCells z.cells n).toList=vs)(h1: ∀v∈vs,v.oneCell'=true)
  (hc: ∀j,j<vs.length->(w.cell? ⟨b,o+j,none⟩).isSome=true) (hf: ∀j,j<vs.length->w.frozen? ⟨b,o+j,none⟩=false):
  (Builtin.clear_ #[t] ty #[.slice (some ⟨b,o,none⟩) n c]).run P w= .ok (.tuple #[]) (w.setCells b o vs):=by
 have hst:=run_storeCells_cells (P:=P) b o vs 0 w (by simpa using hc) (by simpa using hf) h1
 simp only[Nat.add_zero]at hst
 obtain⟨m,rfl⟩: ∃m,n=m+1:=⟨n-1,by omega⟩
 simp[Builtin.clear_,run_underlying ht,hv,hvs,hst]
set_option maxHeartbeats 4000000 in
def ZVC(b off n c i j:Nat)(cs vs:List Value)(w:World)(i0:TypeInfo)(z0:Value)(hij:i<j)(hj:j<=n)(hnc:n<=c)(hn20:n<=1048600)(hcl:cs.length=n*8)
  (hcs: ∀k v,cs[k]?=some v->w.cell? ⟨b,off+k,none⟩=some v) (hsp: ∀k,k<n*8->(w.cell? ⟨b,off+k,none⟩).isSome=true) (hfz: ∀k,k<n*8->w.frozen? ⟨b,off+k,none⟩=false) (h1c: ∀v∈cs,v.oneCell'=true)
  (hi0:prog.info? 107=some i0) (hz0:i0.zero=some z0) (hzs:i0.size=8) (hvs:(Builtin.zeroCells z0.cells (j-i)).toList=vs) (hvl:vs.length=(j-i)*8) (h1v: ∀v∈vs,v.oneCell'=true):
  Calls prog 197 #[.slice (some ⟨b,off,none⟩) n c,.int .i64 i,.int .i64 j] w λe w'=>
   e= .returned (.slice (some ⟨b,off,none⟩) (i+(n-j)) c)/\w'=(w.drew.setCells b (off+i*8) (cs.drop (j*8))).setCells b (off+(i+(n-j))*8) vs:=by
 have hu:=ZEc.ht
 have mixed:prog.follows .mixedOrders=true:=by kernel_rfl
 have hzv: ∀w,(zeroValue 107).run prog w= .ok z0 w:=λw=>by simp[zeroValue,typeInfo,hi0,hz0]
 obtain⟨news,hnews⟩: ∃news,news=cs.drop (j*8):=⟨_,rfl⟩
 have hlen:news.length=(n-j)*8:=by rw[hnews,List.length_drop,hcl];omega
 have hget: ∀t v,news[t]?=some v->cs[j*8+t]?=some v:=λt v h=>by rw[hnews,List.getElem?_drop]at h;exact h
 obtain⟨A,hA,hsrc⟩: ∃A:Addr,(if c=j then some (⟨b,off,none⟩:Addr)else some ⟨b,off+j*8,none⟩)=some A/\Hid (∀t u,news[t]?=some u->w.drew.cell? (A.add t)=some u):=by
  by_cases h:c=j
  ·refine⟨⟨b,off,none⟩,by simp[h],λt u hu=> ?_⟩
   have h0:news.length=0:=by rw[hlen];omega
   rw[List.length_eq_zero_iff.1 h0]at hu
   simp at hu
  ·refine⟨⟨b,off+j*8,none⟩,by simp[h],λt u hu=> ?_⟩
   rw[ZBE,Nat.add_assoc]
   exact hcs _ _ (hget t u hu)
 have s1:Hid (news.length=(n-j)*8):=hlen
 have s2:Hid (∀u∈news,u.oneCell'=true):=λu hu=>h1c u (by rw[hnews]at hu;exact List.mem_of_mem_drop hu)
 have s3:Hid (∀t,t<news.length->(w.drew.cell? ⟨b,off+i*8+t,none⟩).isSome=true/\w.drew.frozen? ⟨b,off+i*8+t,none⟩=false):=by
  intro t ht
  rw[hlen]at ht
  rw[Nat.add_assoc]
  exact⟨hsp _ (by omega),hfz _ (by omega)⟩
 obtain⟨W1,hW1⟩: ∃W1,W1=w.drew.setCells b (off+i*8) news:=⟨_,rfl⟩
 have hsp1: ∀k,k<n*8->(W1.cell? ⟨b,off+k,none⟩).isSome=true:=λk hk=>by
  rw[hW1]
  exact isSome_setCells b _ _ _ (λt ht=>by rw[Nat.add_assoc];exact hsp _ (by rw[hlen]at ht;omega)) _ (hsp k hk)
 have hcl': ∀ty dl dc,dl=j-i->(Builtin.clear_ #[32] ty #[.slice (some ⟨b,off+(i+(n-j))*8,none⟩) dl dc]).run prog W1= .ok (.tuple #[]) (W1.setCells b (off+(i+(n-j))*8) vs):=λty dl dc hd=>by
  subst hd
  exact ZVB W1 _ _ ty _ hu hzv b _ _ _ (by omega) vs hvs h1v (λt ht=>by rw[Nat.add_assoc];exact hsp1 _ (by rw[hvl]at ht;omega)) (λt ht=>by rw[hW1,World.frozen?_setCells,Nat.add_assoc];exact hfz _ (by rw[hvl]at ht;omega))
 have hcl2:=λty dc=>hcl' ty (n-(i+(n-j))) dc (by omega)
 have hW:Hid (W1=w.drew.setCells b (off+i*8) news):=hW1
 rw[<-hnews]
 have X:Hid (W1=w.drew.setCells b (off+i*8) news):=hW1
 have hic:i<=c:=by omega
 have hjc:j<=c:=by omega
 have hne: ¬((i:Int)=(j:Int)):=by omega
 have hrm:i+(n-j)<=c:=by omega
 have hmid:i+(n-j)<=n:=by omega
 clear hW1 hsp1 hget hnews hlen hcl' hsp hfz hcs
 go_enter func197,ntmps197
 go_wp2_with fail
 go_region_law_o (refine step_append_room rfl (.tmp 22) (.tmp 25) 32 rfl 107 i0 8 hu hi0 hzs b off i c (by simp[Act.eval,Act.put]) A (n-j) (c-j) news (by simp[Act.eval,Act.put]) s1.out hsrc.out s2.out hrm s3.out ?_;rw[<-hW.out])
 go_wp2_with (at_builtin;refine wpList_clear_run _ rfl _ _ rfl _ rfl _ (hcl2 _ _) ?_)
 all_goals go_ret
 all_goals exact⟨rfl,by rw[X.out]⟩
end Ev
end
noncomputable section
namespace Ev
open Go Go.Proofs Go.RowKit Go.Lib
def ZHP{R:Type}{a:Option R} :both a a=a:=by unfold both;rw[al_if_pos rfl]
def ZPQ(l:List Device)(hl:l.length<=1048576):G184 (l,())=some (l,()):=by
 unfold G184 F184 ZBm
 cases l with
 | nil=>rw[ZAB];exact ZHP
 | cons x l=>rw[ZAB (by simp at hl⊢;omega)];rfl
def ZPR{ρ:Rho}{F:Nat->Prop}{w:World}{cs:List V}(hp:allB V.plain cs=true){c:Value}(h:RelA ρ F w (.agg cs) c):c= .agg (cs.map sv).toArray:=by
 obtain⟨ca,rfl,hs,hv⟩:=h
 congr 1
 apply Array.ext_getElem?
 intro i
 cases hc:cs[i]? with
 | none=>
  have:cs.length<=i:=List.getElem?_eq_none_iff.mp hc
  rw[Array.getElem?_eq_none (by omega)]
  simp[hc]
 | some v=>
  obtain⟨c,h1,h2⟩:=hv i v hc
  have hp':=ZCB hp v (al_mem_get hc)
  have h3:c=sv v:=(RelB.plain (ρ:=ρ) (F:=F) (w:=w) hp').1 (by
   rcases ZDa hp' with ⟨k,n,rfl⟩ | ⟨b,rfl⟩ | ⟨s,rfl⟩<;>exact h2)
  rw[h1,h3]
  simp[hc]
def ZPS{w:World}(d:Device):Rel0 w (.agg (Ty.device.cells d)) (.agg #[.string ⟨⟨d.Name⟩⟩,.int .i64 d.Kind,.string ⟨⟨d.Line⟩⟩,.int .i64 d.At.X,.int .i64 d.At.Y,.int .i64 d.Heading,.int .i64 d.Tilt,.int .i64 d.Most]):=by
 refine⟨_,rfl,rfl,λi v hv=> ?_⟩
 match i,hv with
 | 0,hv=>cases hv;exact⟨_,rfl,rfl⟩
 | 1,hv=>cases hv;exact⟨_,rfl,rfl⟩
 | 2,hv=>cases hv;exact⟨_,rfl,rfl⟩
 | 3,hv=>cases hv;exact⟨_,rfl,rfl⟩
 | 4,hv=>cases hv;exact⟨_,rfl,rfl⟩
 | 5,hv=>cases hv;exact⟨_,rfl,rfl⟩
 | 6,hv=>cases hv;exact⟨_,rfl,rfl⟩
 | 7,hv=>cases hv;exact⟨_,rfl,rfl⟩
 | i+8,hv=>simp[Ty.cells]at hv
def lowN(s:Str):List Device->Nat
 | []=>0
 | x::r=>if Op.bytesLess x.Name s=true then lowN s r+1 else 0
def ZLM(s:Str): ∀l,lowN s l<=l.length
 | []=>Nat.le_refl _
 | x::r=>by
  unfold lowN
  have:=ZLM s r
  split<;>simp only[al_len_cons]<;>omega
def ZLN(s:Str): ∀(l:List Device) (i:Nat),i<=l.length->(∀j,j<i-> ∀x,l[j]?=some x->Op.bytesLess x.Name s=true)->(∀x,l[i]?=some x->Op.bytesLess x.Name s=false)->lowN s l=i
 | [],i,hi,_,_=>by simp at hi;subst hi;rfl
 | x::r,0,_,_,h=>by
  unfold lowN
  rw[h x rfl]
  rfl
 | x::r,i+1,hi,h1,h2=>by
  unfold lowN
  rw[h1 0 (by omega) x rfl,al_if_pos rfl,ZLN s r i (by simpa using hi) (λj hj y hy=>h1 (j+1) (by omega) y (by simpa using hy)) (λy hy=>h2 y (by simpa using hy))]
def ZHQ(l:List Device)(d:Device):Option Bool:=
 (G118 (l,())).bind λx1=>cond (!x1.1) (some false) ((G192 (d,())).bind λx2=>cond (!x2.1) (some false) ((G193 (l,d.Name,())).bind λx3=>
  cond (decide (0<=x3.1)) (some false) (cond (decide (8<=l.length)) (some false) ((G194 (l,d,())).bind λx4=>some x4.1))))
structure BoxD(W:World)(B:Nat)(d:Device):Prop where
 c0:W.cell? ⟨B,0,none⟩=some (.string ⟨⟨d.Name⟩⟩)
 c1:W.cell? ⟨B,1,none⟩=some (.int .i64 d.Kind)
 c2:W.cell? ⟨B,2,none⟩=some (.string ⟨⟨d.Line⟩⟩)
 c3:W.cell? ⟨B,3,none⟩=some (.int .i64 d.At.X)
 c4:W.cell? ⟨B,4,none⟩=some (.int .i64 d.At.Y)
 c5:W.cell? ⟨B,5,none⟩=some (.int .i64 d.Heading)
 c6:W.cell? ⟨B,6,none⟩=some (.int .i64 d.Tilt)
 c7:W.cell? ⟨B,7,none⟩=some (.int .i64 d.Most)
 lt:B<W.heap.size
abbrev ZDg(d:Device):Array Value:= #[.string ⟨⟨d.Name⟩⟩,.int .i64 d.Kind,.string ⟨⟨d.Line⟩⟩,.int .i64 d.At.X,.int .i64 d.At.Y,.int .i64 d.Heading,.int .i64 d.Tilt,.int .i64 d.Most]
def ZVD(w:World)(d:Device)(e:Nat):BoxD (w.alloc (.cells (ZDg d) e)) w.heap.size d:=by
 have h:=ZCw w (ZDg d) e
 exact⟨ZAs h 0,ZAs h 1,ZAs h 2,ZAs h 3,ZAs h 4,ZAs h 5,ZAs h 6,ZAs h 7,h.lt⟩
def BoxD.keep{W W':World}{B:Nat}{d:Device}(h:BoxD W B d)(k:Chg (λ_=>False) W W'):BoxD W' B d:=by
 have e: ∀j,W'.cell? ⟨B,j,none⟩=W.cell? ⟨B,j,none⟩:=λj=>by
  unfold World.cell?
  rw[k.block B h.lt (λe=>e)]
 exact⟨(e 0).trans h.c0,(e 1).trans h.c1,(e 2).trans h.c2,(e 3).trans h.c3,(e 4).trans h.c4,(e 5).trans h.c5,(e 6).trans h.c6,(e 7).trans h.c7,Nat.lt_of_lt_of_le h.lt k.size⟩
def ZPT{w:World}{l:List Device}{c:Value}(hl:l.length<=1048576)(hg:Glob (λb=>b<w.heap.size) w)(r:Rel0 w (.lst .device l) c):
  Calls prog 184 #[c] w λen w'=> ∃a cap,en= .returned (.slice a l.length cap)/\Fresh .device w w' l a cap/\Chg (λ_=>False) w w':=
 ZLJ okG184 (av:=[.lst .device l]) (a:=(l,())) rfl (ZPQ l hl) rfl rfl hg rfl (a1 r)
def ZPU{w:World}{l:List Device}{c:Value}{x:Bool}(hx:G118 (l,())=some (x,()))(hg:Glob (λb=>b<w.heap.size) w)(r:Rel0 w (.lst .device l) c):
  Calls prog 118 #[c] w λen w'=>en= .returned (.bool x)/\Chg (λ_=>False) w w':=
 ZFG okG118 (av:=[.lst .device l]) (a:=(l,())) rfl hx (v:= .bool x) rfl hg rfl (a1 r) (λ_ _ _ _ h=>h)
def ZVE{w:World}{d:Device}{x:Bool}(hx:G192 (d,())=some (x,()))(hg:Glob (λb=>b<w.heap.size) w):
  Calls prog 192 #[.agg (ZDg d)] w λen w'=>en= .returned (.bool x)/\Chg (λ_=>False) w w':=
 ZFG okG192 (av:=[.agg (Ty.device.cells d)]) (a:=(d,())) rfl hx (v:= .bool x) rfl hg rfl (a1 (ZPS d)) (λ_ _ _ _ h=>h)
def ZPV{w:World}{l:List Device}{c:Value}{s:Str}{x:Int}(hx:G193 (l,s,())=some (x,()))(hg:Glob (λb=>b<w.heap.size) w)(r:Rel0 w (.lst .device l) c):
  Calls prog 193 #[c,.string ⟨⟨s⟩⟩] w λen w'=>en= .returned (.int .i64 x)/\Chg (λ_=>False) w w':=
 ZFG okG193 (av:=[.lst .device l,.str s]) (a:=(l,s,())) rfl hx (v:= .int .i64 x) rfl hg rfl (a2 r rfl) (λ_ _ _ _ h=>h)
def ZVF{w:World}{l:List Device}{c:Value}{d:Device}{x:Bool}(hx:G194 (l,d,())=some (x,()))(hg:Glob (λb=>b<w.heap.size) w)(r:Rel0 w (.lst .device l) c):
  Calls prog 194 #[c,.agg (ZDg d)] w λen w'=>en= .returned (.bool x)/\Chg (λ_=>False) w w':=
 ZFG okG194 (av:=[.lst .device l,.agg (Ty.device.cells d)]) (a:=(l,d,())) rfl hx (v:= .bool x) rfl hg rfl (a2 r (ZPS d)) (λ_ _ _ _ h=>h)
set_option maxHeartbeats 2000000 in
def ZVG(w:World)(c1:Value)(l:List Device)(d:Device)(hg:Glob (λb=>b<w.heap.size) w)(r1:Rel0 w (.lst .device l) c1)(hl:l.length<=1048576){ok:Bool}(hok:ZHQ l d=some ok):
  Calls prog 102 #[c1,.agg #[.string ⟨⟨d.Name⟩⟩,.int .i64 d.Kind,.string ⟨⟨d.Line⟩⟩,.int .i64 d.At.X,.int .i64 d.At.Y,.int .i64 d.Heading,.int .i64 d.Tilt,.int .i64 d.Most]] w λe w'=>
   ∃a cap l',l'=(if ok=true then insL l (lowN d.Name l) d else l)/\e= .returned (.tuple #[.slice a l'.length cap,.bool ok])/\Fresh .device w w' l' a cap/\Chg (λ_=>False) w w':=by
 have r1':=r1
 obtain⟨a1,k1,rfl,hk1,hat1⟩:=r1
 unfold ZHQ at hok
 obtain⟨⟨x1,_⟩,e1,hok⟩:=al_bind_iff.mp hok
 simp only at hok
 go_enter func102,ntmps102
 go_wp2_with fail
 have kA:=ZB4 w (.cells (ZDg d) 107)
 have bA:=ZVD w d 107
 generalize w.alloc (.cells (ZDg d) 107)=w1 at kA bA⊢
 generalize hB:w.heap.size=B at bA⊢
 refine(ZPT hl (ZCl hg kA) (ZCm r1' kA)).mono ?_
 rintro e w2 ⟨a,cap,rfl,hF,k2⟩
 have k2':=kA.trans k2 (λ_ h=>h) (λ_ _ h=>h)
 have b2:=bA.keep k2
 simp only
 go_wp2_with fail
 refine(ZPU e1 (ZCl hg k2') (ZCm r1' k2')).mono ?_
 rintro e w3 ⟨rfl,k3⟩
 have k3':=k2'.trans k3 (λ_ h=>h) (λ_ _ h=>h)
 have b3:=b2.keep k3
 have F3:=ZPM (ZBy hF k3) kA.size
 clear b2 bA hF k2 kA
 simp only
 cases x1
 ·cases hok
  go_wp2
  go_ret2
  exact⟨a,cap,rfl,F3,k3'⟩
 ·simp only[ZAG,al_cond_false]at hok
  obtain⟨⟨x2,_⟩,e2,hok⟩:=al_bind_iff.mp hok
  obtain⟨g0,g1,g2,g3,g4,g5,g6,g7,glt⟩:=id b3
  go_wp2_with fail
  refine(ZVE e2 (ZCl hg k3')).mono ?_
  rintro e w4 ⟨rfl,k4⟩
  have k4':=k3'.trans k4 (λ_ h=>h) (λ_ _ h=>h)
  have b4:=b3.keep k4
  have F4:=ZBy F3 k4
  clear b3 F3 g0 g1 g2 g3 g4 g5 g6 g7 glt
  simp only at hok⊢
  cases x2
  ·cases hok
   go_wp2
   go_ret2
   exact⟨a,cap,rfl,F4,k4'⟩
  ·simp only[ZAG,al_cond_false]at hok
   obtain⟨⟨x3,_⟩,e3,hok⟩:=al_bind_iff.mp hok
   obtain⟨g0,g1,g2,g3,g4,g5,g6,g7,glt⟩:=id b4
   go_wp2_with fail
   refine(ZPV e3 (ZCl hg k4') (ZCm r1' k4')).mono ?_
   rintro e w5 ⟨rfl,k5⟩
   have k5':=k4'.trans k5 (λ_ h=>h) (λ_ _ h=>h)
   have b5:=b4.keep k5
   have F5:=ZBy F4 k5
   clear b4 F4 g0 g1 g2 g3 g4 g5 g6 g7 glt
   simp only at hok⊢
   by_cases h3:0<=x3
   ·rw[ZAH h3]at hok
    cases hok
    go_wp2
    go_ret2
    exact⟨a,cap,rfl,F5,k5'⟩
   ·rw[ZAE h3,al_cond_false]at hok
    by_cases h8:8<=l.length
    ·rw[ZAH h8]at hok
     cases hok
     have h8':(8:Int)<=(l.length:Int):=by omega
     go_wp2
     go_ret2
     exact⟨a,cap,rfl,F5,k5'⟩
    ·rw[ZAE h8,al_cond_false]at hok
     obtain⟨⟨x4,_⟩,e4,hok⟩:=al_bind_iff.mp hok
     have h8': ¬(8:Int)<=(l.length:Int):=by omega
     obtain⟨g0,g1,g2,g3,g4,g5,g6,g7,glt⟩:=id b5
     go_wp2_with fail
     refine(ZVF e4 (ZCl hg k5') (ZCm r1' k5')).mono ?_
     rintro e w6 ⟨rfl,k6⟩
     have k6':=k5'.trans k6 (λ_ h=>h) (λ_ _ h=>h)
     have b6:=b5.keep k6
     have F6:=ZBy F5 k6
     clear b5 F5 g0 g1 g2 g3 g4 g5 g6 g7 glt
     simp only at hok⊢
     cases x4
     ·cases hok
      go_wp2
      go_ret2
      exact⟨a,cap,rfl,F6,k6'⟩
     ·cases hok
      have r6:=ZCm r1' k6'
      go_wp2_with fail
      have rH:=(show Hid _ from r6)
      have FH:=(show Hid _ from F6)
      have kH:=(show Hid _ from k6')
      have bH:=(show Hid _ from b6)
      clear r6 F6 k6' b6 r1' k2' k3' k4' k5' k3 k4 k5 k6 hg hat1
      have mixed:prog.follows .mixedOrders=true:=by kernel_rfl
      go_loopg [7] l.length (λg s7 wx=> ∃kk:Nat,kk<=l.length/\l.length-kk<=g/\s7= .int .i64 kk/\Hid (∀j,j<kk-> ∀x,l[j]?=some x->Op.bytesLess x.Name d.Name=true)/\ ∃q,wx=w6.drewN q)
      case atStart=>exact⟨0,Nat.zero_le _,by omega,rfl,λj hj=>absurd hj (Nat.not_lt_zero _),0,rfl⟩
      case round=>
       obtain⟨kk,hkk,hgk,rfl,hA,q,rfl⟩:=hrel
       by_cases hlt:kk<l.length
       ·have hltz:(kk:Int)<(l.length:Int):=by omega
        obtain⟨x,hx⟩: ∃x,l[kk]?=some x:=⟨_,al_get_get hlt⟩
        have HX:=(show Hid _ from hx)
        have gx: ∃b s,a1=some ⟨b,s,none⟩/\w6.cell? ⟨b,s+kk*8,none⟩=some (.string ⟨⟨x.Name⟩⟩):=by
         obtain⟨a',k',e,_,h⟩:=rH.out
         cases e
         rcases h with h | ⟨b,s,e,_,h⟩
         ·subst h;simp at hlt
         ·exact⟨b,s,e,h (kk*8) _ (ZDD .device l kk x hx 0 _ rfl)⟩
        obtain⟨b1,s1,rfl,gx⟩:=gx
        have gd:=bH.out.c0
        clear hx
        cases hb:Op.bytesLess x.Name d.Name
        ·go_wp2_with fail
         go_quiet (fail)
         have hlow:lowN d.Name l=kk:=ZLN d.Name l kk hkk hA.out (λy hy=>by rw[HX.out]at hy;cases hy;exact hb)
         have kE:Chg (λ_=>False) w6 ((w6.drewN q).drewN nq):=⟨rfl,rfl,rfl,Nat.le_refl _,λ_ _ _=>rfl,(DR.add _ q).trans (DR.add _ nq)⟩
         generalize (w6.drewN q).drewN nq=wE at kE⊢
         have bE:=bH.out.keep kE
         have FE:=ZBy FH.out kE
         have kE':=kH.out.trans kE (λ_ h=>h) (λ_ _ h=>h)
         obtain⟨g0,g1,g2,g3,g4,g5,g6,g7,glt⟩:=id bE
         have HL:=(show Hid _ from hlow)
         have HFE:=(show Hid _ from FE)
         have HKE:=(show Hid _ from kE')
         have HKK:=(show Hid _ from hkk)
         clear FH rH bH kH hA hlow FE kE' bE kE hk1 hkk hgk HX hb gx gd
         go_wp2_with fail
         have kN:=ZB4 wE (.cells (ZDg d) 107)
         have hN:=heap_alloc_new wE (.cells (ZDg d) 107)
         have hsz:=HFE.out
         refine(ZPO (w0:=w) (B:=wE.heap.size) (i:=kk) (x:=d) (e:=107) (ZBy HFE.out kN) (Nat.le_trans HKE.out.size kN.size) HKK.out hl hN (λb s hab hc=>by
          rcases HFE.out.at_ with h | ⟨b',s',arr',e',_,hr',_⟩
          ·exact absurd h hc
          ·rw[hab]at e';cases e'
           have:=hr'.lt;omega)).mono ?_
         rintro e wI ⟨aI,capI,rfl,hFI,kI⟩
         have kF:=HKE.out.trans (kN.trans (kI.mono (B:=λb=>w.heap.size<=b) λ_ h=>h) (C:=λb=>w.heap.size<=b) (λ_ h=>h.elim) (λ_ _ h=>h)) (C:=λb=>w.heap.size<=b) (λ_ h=>h.elim) (λ_ _ h=>h)
         simp only
         go_wp2
         go_ret2
         refine⟨aI,capI,?_,by rw[HL.out];exact hFI,chgF kF⟩
         rw[HL.out,ZDQ l kk d HKK.out]
         rfl
        ·have hn: ∀j,j<kk+1-> ∀y,l[j]?=some y->Op.bytesLess y.Name d.Name=true:=λj hj y hy=>by
          by_cases e:j=kk
          ·subst e;rw[HX.out]at hy;cases hy;exact hb
          ·exact hA.out j (by omega) y hy
         have HN:=(show Hid _ from hn)
         clear hn
         have hw1:(kk:Int)+1<=1048576:=by omega
         go_wp2_with fail
         go_quiet (fail)
         go_wp2
         go_roundg (l.length-(kk+1))
         case measure=>omega
         case rel=>exact⟨kk+1,by omega,by omega,by simp,HN,q+nq,rfl⟩
       ·have hkl:kk=l.length:=by omega
        subst hkl
        have hltz:decide ((l.length:Int)<(l.length:Int))=false:=ZAE (by omega)
        go_wp2_with fail
        go_quiet (fail)
        have hlow:lowN d.Name l=l.length:=ZLN d.Name l l.length (Nat.le_refl _) hA.out (λy hy=>by rw[List.getElem?_eq_none (by omega)]at hy;cases hy)
        have kE:Chg (λ_=>False) w6 ((w6.drewN q).drewN nq):=⟨rfl,rfl,rfl,Nat.le_refl _,λ_ _ _=>rfl,(DR.add _ q).trans (DR.add _ nq)⟩
        generalize (w6.drewN q).drewN nq=wE at kE⊢
        have bE:=bH.out.keep kE
        have FE:=ZBy FH.out kE
        have kE':=kH.out.trans kE (λ_ h=>h) (λ_ _ h=>h)
        obtain⟨g0,g1,g2,g3,g4,g5,g6,g7,glt⟩:=id bE
        have HL:=(show Hid _ from hlow)
        have HFE:=(show Hid _ from FE)
        have HKE:=(show Hid _ from kE')
        have HKK:=(show Hid _ from Nat.le_refl l.length)
        clear FH rH bH kH hA hlow FE kE' bE kE hk1 hgk hlt hltz
        go_wp2_with fail
        have kN:=ZB4 wE (.cells (ZDg d) 107)
        have hN:=heap_alloc_new wE (.cells (ZDg d) 107)
        have hsz:=HFE.out
        refine(ZPO (w0:=w) (B:=wE.heap.size) (i:=l.length) (x:=d) (e:=107) (ZBy HFE.out kN) (Nat.le_trans HKE.out.size kN.size) HKK.out hl hN (λb s hab hc=>by
         rcases HFE.out.at_ with h | ⟨b',s',arr',e',_,hr',_⟩
         ·exact absurd h hc
         ·rw[hab]at e';cases e'
          have:=hr'.lt;omega)).mono ?_
        rintro e wI ⟨aI,capI,rfl,hFI,kI⟩
        have kF:=HKE.out.trans (kN.trans (kI.mono (B:=λb=>w.heap.size<=b) λ_ h=>h) (C:=λb=>w.heap.size<=b) (λ_ h=>h.elim) (λ_ _ h=>h)) (C:=λb=>w.heap.size<=b) (λ_ h=>h.elim) (λ_ _ h=>h)
        simp only
        go_wp2
        go_ret2
        refine⟨aI,capI,?_,by rw[HL.out];exact hFI,chgF kF⟩
        rw[HL.out,ZDQ l l.length d HKK.out]
        rfl
end Ev
end
noncomputable section
namespace Ev
open Go Go.Proofs Go.RowKit Go.Lib
def ZLO{ca:Array Value}{c1 c2:Value}(h:ca.size=2)(h1:ca[0]?=some c1)(h2:ca[1]?=some c2):ca= #[c1,c2]:=by
 apply Array.ext_getElem?
 intro i
 match i with
 | 0=>simpa using h1
 | 1=>simpa using h2
 | i+2=>rw[Array.getElem?_eq_none (by omega),Array.getElem?_eq_none (by simp)]
def G102:T167:=λa=>if a.1.length<=1048576 then(ZHQ a.1 a.2.1).bind λok=>some ((if ok=true then insL a.1 (lowN a.2.1.Name a.1) a.2.1 else a.1),ok,())else none
theorem okG102:N102 G102:=by
 refine ZGD (fn:=f102) func102 (by kernel_rfl) (of_decide_eq_false (by kernel_rfl)) (λa=>rfl) λa x hx w F hg hs ca hsz hv=> ?_
 obtain⟨l,d,u⟩:=a
 unfold G102 at hx
 simp only at hx
 split at hx
 ·rename_i hl
  obtain⟨ok,hok,hx⟩:=al_bind_iff.mp hx
  cases hx
  obtain⟨c1,hc1,r1⟩:=hv 0 _ rfl
  obtain⟨c2,hc2,r2⟩:=hv 1 _ rfl
  obtain rfl:=ZLO hsz hc1 hc2
  obtain rfl:=ZPR (cs:=Ty.device.cells d) rfl r2
  refine(ZVG w c1 l d (ZLK hg hs) (ZLL hs r1) hl hok).mono ?_
  rintro e w' ⟨a,cap,l',hl',rfl,hF,k⟩
  obtain⟨q1,q2,q3,q4,q5⟩:=hF.core hs hg k
  refine⟨_,_,rfl,?_,?_,?_,k,q5⟩
  ·rw[<-hl'];exact q1
  ·intro id x h;exact q2 id x h
  ·refine⟨_,rfl,rfl,λi v hv=> ?_⟩
   match i,hv with
   | 0,hv=>cases hv;exact⟨_,rfl,q4⟩
   | 1,hv=>cases hv;exact⟨_,rfl,rfl⟩
 ·cases hx
def delL{α:Type}(l:List α)(i:Nat):List α:=l.take i++l.drop (i+1)
def ZPW{α:Type}(l:List α)(i:Nat)(h:i<l.length):(delL l i).length=l.length-1:=by
 unfold delL
 simp only[al_len_append,al_len_take,List.length_drop];omega
def ZVH{w0 w:World}{l:List Device}{a:Option Addr}{cap i:Nat}(H:Fresh .device w0 w l a cap)(h0:w0.heap.size<=w.heap.size)(hi:i<l.length)(hl:l.length<=1048576):
  Calls prog 197 #[.slice a l.length cap,.int .i64 i,.int .i64 ((i+1:Nat):Int)] w λen w'=>en= .returned (.slice a (l.length-1) cap)/\Fresh .device w0 w' (delL l i) a cap/\Chg (λb=>w0.heap.size<=b) w w':=by
 have hcl:=H.len
 rcases H.at_ with h | ⟨b,s,arr,rfl,hge,hr,hsz,hat⟩
 ·omega
 ·have hsz:s+cap*8<=arr.size:=hsz
  have hfl:(flat .device l).length=l.length*8:=ZAy .device l
  obtain⟨hs,⟨i0,z0,hi0,hz0,hzc⟩,_,_,_⟩:=ZEc.he
  have hzs:i0.size=8:=by
   obtain⟨j,hj,hs⟩:=hs
   rw[hi0]at hj;cases hj;exact hs
  have hzz:z0.cells.size=8:=by rw[<-Array.length_toList,hzc];rfl
  have hvs:(Builtin.zeroCells z0.cells (i+1-i)).toList=(Ty.device.cells Ty.device.zero).map sv:=by
   rw[show i+1-i=1 by omega,<-hzc]
   have hz8:z0.cells.size=8:=hzz
   apply List.ext_getElem?
   intro j
   by_cases hj:j<8
   ·simp[Builtin.zeroCells,hz8,hj,Nat.mod_eq_of_lt hj]
   ·rw[List.getElem?_eq_none (by rw[Array.length_toList,size_zeroCells,hzz];omega),List.getElem?_eq_none (by rw[Array.length_toList,hzz];omega)]
  have h1v: ∀v∈(Ty.device.cells Ty.device.zero).map sv,v.oneCell'=true:=by
   have:=ZCx .device [Ty.device.zero]
   rw[ZCP,ZDs,List.append_nil]at this
   exact this
  have hdr: ∀j,(flat .device (l.drop (i+1)))[j]?=(flat .device l)[(i+1)*8+j]?:=λj=>by
   have el:(flat .device (l.take (i+1))).length=(i+1)*8:=by rw[ZAy,al_len_take,Nat.min_eq_left (by omega)];rfl
   rw[ZER .device l (i+1),List.getElem?_append_right (by omega),el,Nat.add_sub_cancel_left]
  have htk: ∀j,j<i*8->(flat .device (l.take i))[j]?=(flat .device l)[j]?:=λj hj=>by
   rw[ZER .device l i,List.getElem?_append_left (by rw[ZAy,al_len_take,Nat.min_eq_left (by omega)];exact hj)]
  have hdl:((flat .device l).drop ((i+1)*8)).length=(l.length-(i+1))*8:=by rw[List.length_drop,hfl];omega
  refine(ZVC b s l.length cap i (i+1) (flat .device l) _ w i0 z0 (by omega) (by omega) hcl (by omega) hfl hat (λk hk=>ZLI hr (by omega)) (λk hk=>ZLH hr (by omega)) (ZCx .device l) hi0 hz0 hzs hvs (by rw[show i+1-i=1 by omega];rfl) h1v).mono ?_
  rintro en w' ⟨rfl,rfl⟩
  obtain⟨arr1,r1,s1,g1,c1,z1⟩:=ZDP ((flat .device l).drop ((i+1)*8)) w.drew arr (s+i*8) (ZFH hr) (by rw[hdl];omega)
  obtain⟨arr2,r2,s2,g2,c2,z2⟩:=ZDP ((Ty.device.cells Ty.device.zero).map sv) _ arr1 (s+(i+(l.length-(i+1)))*8) r1 (by rw[List.length_map];show _+8<=_;omega)
  refine⟨by rw[show i+(l.length-(i+1))=l.length-1 by omega],⟨by rw[ZPW l i hi];omega,.inr ⟨b,s,arr2,rfl,hge,r2,by rw[s2,s1];exact hsz,?_⟩⟩,?_⟩
  ·unfold delL
   rw[ZEQ]
   have el:(flat .device (l.take i)).length=i*8:=by rw[ZAy,al_len_take,Nat.min_eq_left (by omega)];rfl
   refine At.join (λj v hv=> ?_) (λj v hv=> ?_)
   ·have hj:=(al_get_iff.mp hv).1
    rw[el]at hj
    rw[ZAs r2,g2,al_if_neg,g1,al_if_neg,<-ZAs hr]
    rw[htk j hj]at hv
    exact hat j v hv
   ·have hj:=(al_get_iff.mp hv).1
    rw[ZAy,List.length_drop]at hj
    have hj:j<(l.length-(i+1))*8:=hj
    rw[el,ZAs r2,g2,al_if_neg,g1,al_if_pos (by rw[hdl];omega),show s+i*8+j-(s+i*8)=j by omega,List.getElem?_drop,<-hdr]
    exact hv
  ·have cd:=(ZEd w).mono (B:=λx=>x=b) λ_ h=>h.elim
   exact(((cd.trans c1 (λ_ h=>h) (λ_ _ h=>h)).trans c2 (λ_ h=>h) (λ_ _ h=>h))).mono λy hy=>by rw[hy];exact hge
def ZHR(l:List Device)(s:Str):Option (Int×Bool):=
 (G193 (l,s,())).bind λx3=>(G118 (l,())).bind λx1=>cond (!x1.1) (some (x3.1,false)) (cond (decide (x3.1<0)) (some (x3.1,false)) ((G196 (l,s,())).bind λx4=>some (x3.1,!decide (0<x4.1.length))))
def ZVI{w:World}{l:List Device}{c:Value}{s:Str}{x:List Str}(hx:G196 (l,s,())=some (x,()))(hg:Glob (λb=>b<w.heap.size) w)(r:Rel0 w (.lst .device l) c):
  Calls prog 196 #[c,.string ⟨⟨s⟩⟩] w λen w'=> ∃a cap,en= .returned (.slice a x.length cap)/\Fresh .str w w' x a cap/\Chg (λ_=>False) w w':=
 ZLJ okG196 (av:=[.lst .device l,.str s]) (a:=(l,s,())) rfl hx rfl rfl hg rfl (a2 r rfl)
set_option maxHeartbeats 2000000 in
def ZVJ(w:World)(c1:Value)(l:List Device)(s:Str)(hg:Glob (λb=>b<w.heap.size) w)(r1:Rel0 w (.lst .device l) c1)(hl:l.length<=1048576){i:Int}{ok:Bool}(hok:ZHR l s=some (i,ok))(hi:ok=true->i.toNat<l.length):
  Calls prog 103 #[c1,.string ⟨⟨s⟩⟩] w λe w'=>
   ∃a cap l',l'=(if ok=true then delL l i.toNat else l)/\e= .returned (.tuple #[.slice a l'.length cap,.bool ok])/\Fresh .device w w' l' a cap/\Chg (λ_=>False) w w':=by
 have r1':=r1
 obtain⟨a1,k1,rfl,hk1,hat1⟩:=r1
 unfold ZHR at hok
 obtain⟨⟨x3,_⟩,e3,hok⟩:=al_bind_iff.mp hok
 obtain⟨⟨x1,_⟩,e1,hok⟩:=al_bind_iff.mp hok
 simp only at hok
 go_enter func103,ntmps103
 go_wp2_with fail
 refine(ZPT hl hg r1').mono ?_
 rintro e w2 ⟨a,cap,rfl,hF,k2⟩
 simp only
 go_wp2_with fail
 refine(ZPV e3 (ZCl hg k2) (ZCm r1' k2)).mono ?_
 rintro e w3 ⟨rfl,k3⟩
 have k3':=k2.trans k3 (λ_ h=>h) (λ_ _ h=>h)
 have F3:=ZBy hF k3
 simp only
 go_wp2_with fail
 refine(ZPU e1 (ZCl hg k3') (ZCm r1' k3')).mono ?_
 rintro e w4 ⟨rfl,k4⟩
 have k4':=k3'.trans k4 (λ_ h=>h) (λ_ _ h=>h)
 have F4:=ZBy F3 k4
 clear hF F3
 simp only
 cases x1
 ·cases hok
  go_wp2
  go_ret2
  exact⟨a,cap,rfl,F4,k4'⟩
 ·simp only[ZAG,al_cond_false]at hok
  by_cases h0:x3<0
  ·rw[ZAH h0]at hok
   cases hok
   go_wp2
   go_ret2
   exact⟨a,cap,rfl,F4,k4'⟩
  ·rw[ZAE h0,al_cond_false]at hok
   obtain⟨⟨x4,_⟩,e4,hok⟩:=al_bind_iff.mp hok
   simp only at hok
   go_wp2_with fail
   refine(ZVI e4 (ZCl hg k4') (ZCm r1' k4')).mono ?_
   rintro e w5 ⟨ax,capx,rfl,_,k5⟩
   have k5':=k4'.trans k5 (λ_ h=>h) (λ_ _ h=>h)
   have F5:=ZBy F4 k5
   clear F4
   simp only
   by_cases h4:0<x4.length
   ·rw[ZAH h4]at hok
    cases hok
    have h4':(0:Int)<(x4.length:Int):=by omega
    go_wp2
    go_ret2
    exact⟨a,cap,rfl,F5,k5'⟩
   ·rw[ZAE h4]at hok
    cases hok
    have h4': ¬(0:Int)<(x4.length:Int):=by omega
    obtain⟨n,rfl⟩: ∃n:Nat,i=n:=⟨i.toNat,by omega⟩
    have hn:n<l.length:=by simpa using hi rfl
    have hD:=ZVH F5 k5'.size hn hl
    have hw:(n:Int)+1<=1048577:=by omega
    rw[show((n+1:Nat):Int)=(n:Int)+1 by omega]at hD
    have HK:=(show Hid _ from k5')
    have HN:=(show Hid _ from hn)
    clear F5 k5' k5 k4 k3 k2 k3' k4' r1' hat1 hg e1 e3 e4
    go_wp2_with fail
    refine hD.mono ?_
    rintro e w6 ⟨rfl,hF6,k6⟩
    have k6':=HK.out.trans k6 (C:=λb=>w.heap.size<=b) (λ_ h=>h.elim) (λ_ _ h=>h)
    have hlen:=ZPW l n HN.out
    generalize l.length-1=m at hlen⊢
    have HL:=(show Hid _ from hlen)
    have HF6:=(show Hid _ from hF6)
    clear hD hlen hF6 hi h0 h4 h4' hw k6
    simp only
    go_wp2
    go_ret2
    refine⟨a,cap,?_,HF6.out,chgF k6'⟩
    first | (rw[HL.out];rfl) | (rw[<-HL.out];rfl) | (simp[HL.out])
def G103:T244:=λa=>if a.1.length<=1048576 then(ZHR a.1 a.2.1).bind λr=>if r.2=true->r.1.toNat<a.1.length then some ((if r.2=true then delL a.1 r.1.toNat else a.1),r.2,())else none else none
theorem okG103:N103 G103:=by
 refine ZGD (fn:=f103) func103 (by kernel_rfl) (of_decide_eq_false (by kernel_rfl)) (λa=>rfl) λa x hx w F hg hs ca hsz hv=> ?_
 obtain⟨l,s,u⟩:=a
 unfold G103 at hx
 simp only at hx
 split at hx
 ·rename_i hl
  obtain⟨⟨i,ok⟩,hok,hx⟩:=al_bind_iff.mp hx
  simp only at hx
  split at hx
  ·rename_i hi
   cases hx
   obtain⟨c1,hc1,r1⟩:=hv 0 _ rfl
   obtain⟨c2,hc2,r2⟩:=hv 1 _ rfl
   obtain rfl:=ZLO hsz hc1 hc2
   cases (show c2= .string ⟨⟨s⟩⟩from r2)
   refine(ZVJ w c1 l s (ZLK hg hs) (ZLL hs r1) hl hok hi).mono ?_
   rintro e w' ⟨a,cap,l',hl',rfl,hF,k⟩
   obtain⟨q1,q2,q3,q4,q5⟩:=hF.core hs hg k
   refine⟨_,_,rfl,?_,?_,?_,k,q5⟩
   ·rw[<-hl'];exact q1
   ·intro id x h;exact q2 id x h
   ·refine⟨_,rfl,rfl,λi v hv=> ?_⟩
    match i,hv with
    | 0,hv=>cases hv;exact⟨_,rfl,q4⟩
    | 1,hv=>cases hv;exact⟨_,rfl,rfl⟩
  ·cases hx
 ·cases hx
end Ev
end
noncomputable section
namespace Ev
open Go Go.Proofs Go.RowKit Go.Lib
abbrev ZBz(x:Cue):Array Value:= #[.int .i64 x.Tick,.string ⟨⟨x.Name⟩⟩,.int .i64 x.Level,.int .i64 x.Ramp]
def ZCy(t:Int)(s:Str)(x:Cue):Bool:=decide (x.Tick=t) && decide (x.Name=s)
def ZVK(W:World)(x:Cue)(B1 B2:Nat)(t:Int)(s:Str)(h1:W.cell? ⟨B1,0,none⟩=some (.int .i64 t))(h2:W.cell? ⟨B2,0,none⟩=some (.string ⟨⟨s⟩⟩)):
  Calls prog 287 #[.agg (ZBz x),.pointer (some ⟨B1,0,none⟩),.pointer (some ⟨B2,0,none⟩)] W λe w'=>e= .returned (.bool (ZCy t s x))/\Chg (λ_=>False) W w':=by
 have kA:=ZB4 W (.cells (ZBz x) 111)
 have hr:=ZCw W (ZBz x) 111
 have g0:=ZAs hr 0
 have g1:=ZAs hr 1
 have keep: ∀B v,W.cell? ⟨B,0,none⟩=some v->(W.alloc (.cells (ZBz x) 111)).cell? ⟨B,0,none⟩=some v:=λB v h=>by
  have hb:B<W.heap.size:=block_lt_of_cell h
  rw[<-h]
  unfold World.cell?
  rw[kA.block B hb (λe=>e)]
 have k1:=keep B1 _ h1
 have k2:=keep B2 _ h2
 have HK:=(show Hid _ from kA)
 clear hr keep h1 h2 kA
 have hc:ZCy t s x=if x.Tick=t then(x.Name==s)else false:=by
  unfold ZCy
  by_cases ht:x.Tick=t
  ·rw[ZAH ht,al_if_pos ht,Bool.true_and];rw[Bool.eq_iff_iff];simp
  ·rw[ZAE ht,al_if_neg ht,Bool.false_and]
 by_cases ht:x.Tick=t
 ·rw[al_if_pos ht]at hc
  have HC:=(show Hid _ from hc)
  clear hc
  go_enter func287,ntmps287
  go_wp2
  go_ret
  exact⟨by rw[HC.out];rfl,HK.out⟩
 ·rw[al_if_neg ht]at hc
  have HC:=(show Hid _ from hc)
  clear hc
  go_enter func287,ntmps287
  go_wp2
  go_ret
  exact⟨by rw[HC.out];rfl,HK.out⟩
def ZDh(t:Int)(s:Str):Nat->List Cue->Int
 | _,[]=> -1
 | i,x::r=>if ZCy t s x=true then(i:Int)else ZDh t s (i+1) r
def ZEe(l:List Cue)(t:Int)(s:Str):Int:=ZDh t s 0 l
def ZPX(t:Int)(s:Str): ∀(l:List Cue) (i k:Nat) (x:Cue),(∀j,j<k-> ∀y,l[j]?=some y->ZCy t s y=false)->l[k]?=some x->ZCy t s x=true->ZDh t s i l=((i+k:Nat):Int)
 | [],_,k,_,_,h,_=>by simp at h
 | y::r,i,0,x,_,h,hx=>by
  simp at h;subst h
  unfold ZDh;rw[al_if_pos hx];rfl
 | y::r,i,k+1,x,h,hk,hx=>by
  have h0:=h 0 (by omega) y rfl
  unfold ZDh
  rw[h0,al_if_neg (by simp),ZPX t s r (i+1) k x (λj hj z hz=>h (j+1) (by omega) z (by simpa using hz)) (by simpa using hk) hx]
  omega
def ZPY(t:Int)(s:Str): ∀(l:List Cue) (i:Nat),(∀y∈l,ZCy t s y=false)->ZDh t s i l= -1
 | [],_,_=>rfl
 | y::r,i,h=>by
  unfold ZDh
  rw[h y (by simp),al_if_neg (by simp),ZPY t s r (i+1) λz hz=>h z (by simp[hz])]
def ZBp{W W':World}(k:Chg (λ_=>False) W W'){B o:Nat}{v:Value}(h:W.cell? ⟨B,o,none⟩=some v):W'.cell? ⟨B,o,none⟩=some v:=by
 have hb:B<W.heap.size:=block_lt_of_cell h
 rw[<-h]
 unfold World.cell?
 rw[k.block B hb (λe=>e)]
set_option maxHeartbeats 1000000 in
def ZVL(W:World)(l:List Cue)(c:Value)(B1 B2:Nat)(t:Int)(s:Str)(h1:W.cell? ⟨B1,0,none⟩=some (.int .i64 t))(h2:W.cell? ⟨B2,0,none⟩=some (.string ⟨⟨s⟩⟩))(r:Rel0 W (.lst .cue l) c)(hl:l.length<=1048576):
  Calls prog 286 #[c,.func (.func 287) #[] #[.pointer (some ⟨B1,0,none⟩),.pointer (some ⟨B2,0,none⟩)]] W λe w'=>e= .returned (.int .i64 (ZEe l t s))/\Chg (λ_=>False) W w':=by
 have R:=(show Hid _ from r)
 have H1:=(show Hid _ from h1)
 have H2:=(show Hid _ from h2)
 obtain⟨a,k,rfl,hk,_⟩:=r
 clear h1 h2
 go_enter func286,ntmps286
 go_wp2
 go_loopg [5,8] l.length (λg _ s8 wx=> ∃kk:Nat,kk<=l.length/\l.length-kk<=g/\s8= .int .i64 kk/\Hid (Chg (λ_=>False) W wx)/\Hid (∀j,j<kk-> ∀y,l[j]?=some y->ZCy t s y=false))
 case atStart=>exact⟨0,Nat.zero_le _,by omega,rfl,Chg.refl _ _,λj hj=>absurd hj (Nat.not_lt_zero _)⟩
 case round=>
  obtain⟨kk,hkk,hgk,rfl,hC,hA⟩:=hrel
  by_cases hlt:kk<l.length
  ·have hltz:(kk:Int)<(l.length:Int):=by omega
   obtain⟨x,hx⟩: ∃x,l[kk]?=some x:=⟨_,al_get_get hlt⟩
   have gx: ∃b s,a=some ⟨b,s,none⟩/\W.cell? ⟨b,s+kk*4,none⟩=some (.int .i64 x.Tick)/\W.cell? ⟨b,s+kk*4+1,none⟩=some (.string ⟨⟨x.Name⟩⟩)/\W.cell? ⟨b,s+kk*4+2,none⟩=some (.int .i64 x.Level)/\W.cell? ⟨b,s+kk*4+3,none⟩=some (.int .i64 x.Ramp):=by
    obtain⟨a',k',e,_,h⟩:=R.out
    cases e
    rcases h with h | ⟨b,s,e,_,h⟩
    ·subst h;simp at hlt
    ·exact⟨b,s,e,h (kk*4) _ (ZDD .cue l kk x hx 0 _ rfl),h (kk*4+1) _ (ZDD .cue l kk x hx 1 _ rfl),h (kk*4+2) _ (ZDD .cue l kk x hx 2 _ rfl),h (kk*4+3) _ (ZDD .cue l kk x hx 3 _ rfl)⟩
   obtain⟨b,s0,rfl,q0,q1,q2,q3⟩:=gx
   have q0:=ZBp hC.out q0
   have q1:=ZBp hC.out q1
   have q2:=ZBp hC.out q2
   have q3:=ZBp hC.out q3
   have HX:=(show Hid _ from hx)
   clear hx
   go_wp2_with fail
   refine(ZVK wr x B1 B2 t s (ZBp hC.out H1.out) (ZBp hC.out H2.out)).mono ?_
   rintro e w' ⟨rfl,hk'⟩
   have HK:=(show Hid _ from hC.out.trans hk' (C:=λ_=>False) (λ_ h=>h) (λ_ _ h=>h))
   clear hk'
   cases hb:ZCy t s x
   ·have HB:=(show Hid _ from hb)
    clear hb
    simp only
    go_wp2
    go_roundg (l.length-(kk+1))
    case measure=>omega
    case rel=>exact⟨kk+1,by omega,by omega,by simp,HK,λj hj y hy=>by
     by_cases e:j=kk
     ·subst e;rw[HX.out]at hy;cases hy;exact HB.out
     ·exact hA.out j (by omega) y hy⟩
   ·have HR:=(show Hid _ from ZPX t s l 0 kk x hA.out HX.out hb)
    clear hb
    simp only
    go_wp2
    go_ret
    exact⟨by unfold ZEe;rw[HR.out];simp,HK.out⟩
  ·have hkl:kk=l.length:=by omega
   subst hkl
   have HR:=(show Hid _ from ZPY t s l 0 λy hy=>by
    obtain⟨j,hj,e⟩:=List.mem_iff_getElem.mp hy
    exact hA.out j hj y (by rw[<-e];exact al_get_get hj))
   go_wp2
   go_ret
   refine⟨?_,hC.out⟩
   unfold ZEe
   rw[HR.out]
   rfl
def ZVM(w:World)(l:List Cue)(c:Value)(t:Int)(s:Str)(r:Rel0 w (.lst .cue l) c)(hl:l.length<=1048576):
  Calls prog 200 #[c,.int .i64 t,.string ⟨⟨s⟩⟩] w λe w'=>e= .returned (.int .i64 (ZEe l t s))/\Chg (λ_=>False) w w':=by
 have r':=r
 obtain⟨a,k,rfl,hk,_⟩:=r
 have k1:=ZB4 w (.cells #[Value.int .i64 t] 3)
 have c1:=ZAs (ZCw w #[Value.int .i64 t] 3) 0
 have k2:=ZB4 (w.alloc (.cells #[Value.int .i64 t] 3)) (.cells #[Value.string ⟨⟨s⟩⟩] 9)
 have c2:=ZAs (ZCw (w.alloc (.cells #[Value.int .i64 t] 3)) #[Value.string ⟨⟨s⟩⟩] 9) 0
 have hsz:(w.alloc (.cells #[Value.int .i64 t] 3)).heap.size=w.heap.size+1:=by unfold World.alloc;exact Array.size_push ..
 rw[hsz]at c2
 have c1':=ZBp k2 (show _=some (Value.int .i64 t)from c1)
 have k12:=k1.trans k2 (C:=λ_=>False) (λ_ h=>h) (λ_ _ h=>h)
 have hI:=ZVL ((w.alloc (.cells #[Value.int .i64 t] 3)).alloc (.cells #[Value.string ⟨⟨s⟩⟩] 9)) l _ w.heap.size (w.heap.size+1) t s c1' c2 (ZCm r' k12) hl
 have HK:=(show Hid _ from k12)
 clear k1 c1 k2 c2 hsz c1' k12 r'
 go_enter func200,ntmps200
 go_wp2_with fail
 refine hI.mono ?_
 rintro e w' ⟨rfl,hk'⟩
 simp only
 go_wp2
 go_ret
 exact⟨rfl,HK.out.trans hk' (λ_ h=>h) (λ_ _ h=>h)⟩
end Ev
end
noncomputable section
namespace Ev
open Go Go.Proofs Go.RowKit Go.Lib
def ZPZ(l:List Cue)(hl:l.length<=1048576):G185 (l,())=some (l,()):=by
 unfold G185 F185 ZBm
 cases l with
 | nil=>rw[ZAB];exact ZHP
 | cons x l=>rw[ZAB (by simp at hl⊢;omega)];rfl
def ZLP{w:World}(x:Cue):Rel0 w (.agg (Ty.cue.cells x)) (.agg (ZBz x)):=by
 refine⟨_,rfl,rfl,λi v hv=> ?_⟩
 match i,hv with
 | 0,hv=>cases hv;exact⟨_,rfl,rfl⟩
 | 1,hv=>cases hv;exact⟨_,rfl,rfl⟩
 | 2,hv=>cases hv;exact⟨_,rfl,rfl⟩
 | 3,hv=>cases hv;exact⟨_,rfl,rfl⟩
 | i+4,hv=>simp[Ty.cells]at hv
structure BoxC(W:World)(B:Nat)(x:Cue):Prop where
 c0:W.cell? ⟨B,0,none⟩=some (.int .i64 x.Tick)
 c1:W.cell? ⟨B,1,none⟩=some (.string ⟨⟨x.Name⟩⟩)
 c2:W.cell? ⟨B,2,none⟩=some (.int .i64 x.Level)
 c3:W.cell? ⟨B,3,none⟩=some (.int .i64 x.Ramp)
 lt:B<W.heap.size
def ZVN(w:World)(x:Cue)(e:Nat):BoxC (w.alloc (.cells (ZBz x) e)) w.heap.size x:=by
 have h:=ZCw w (ZBz x) e
 exact⟨ZAs h 0,ZAs h 1,ZAs h 2,ZAs h 3,h.lt⟩
def BoxC.keep{W W':World}{B:Nat}{x:Cue}(h:BoxC W B x)(k:Chg (λ_=>False) W W'):BoxC W' B x:=
 ⟨ZBp k h.c0,ZBp k h.c1,ZBp k h.c2,ZBp k h.c3,Nat.lt_of_lt_of_le h.lt k.size⟩
def ZVO{w:World}{l:List Cue}{c:Value}(hl:l.length<=1048576)(hg:Glob (λb=>b<w.heap.size) w)(r:Rel0 w (.lst .cue l) c):
  Calls prog 185 #[c] w λen w'=> ∃a cap,en= .returned (.slice a l.length cap)/\Fresh .cue w w' l a cap/\Chg (λ_=>False) w w':=
 ZLJ okG185 (av:=[.lst .cue l]) (a:=(l,())) rfl (ZPZ l hl) rfl rfl hg rfl (a1 r)
def ZVP{w:World}{l:List Cue}{c:Value}{x:Bool}(hx:G119 (l,())=some (x,()))(hg:Glob (λb=>b<w.heap.size) w)(r:Rel0 w (.lst .cue l) c):
  Calls prog 119 #[c] w λen w'=>en= .returned (.bool x)/\Chg (λ_=>False) w w':=
 ZFG okG119 (av:=[.lst .cue l]) (a:=(l,())) rfl hx (v:= .bool x) rfl hg rfl (a1 r) (λ_ _ _ _ h=>h)
def ZVQ{w:World}{c:Cue}{x:Bool}(hx:G199 (c,())=some (x,()))(hg:Glob (λb=>b<w.heap.size) w):
  Calls prog 199 #[.agg (ZBz c)] w λen w'=>en= .returned (.bool x)/\Chg (λ_=>False) w w':=
 ZFG okG199 (av:=[.agg (Ty.cue.cells c)]) (a:=(c,())) rfl hx (v:= .bool x) rfl hg rfl (a1 (ZLP c)) (λ_ _ _ _ h=>h)
def ZVR{w:World}{c d:Cue}{x:Int}(hx:G201 (c,d,())=some (x,()))(hg:Glob (λb=>b<w.heap.size) w):
  Calls prog 201 #[.agg (ZBz c),.agg (ZBz d)] w λen w'=>en= .returned (.int .i64 x)/\Chg (λ_=>False) w w':=
 ZFG okG201 (av:=[.agg (Ty.cue.cells c),.agg (Ty.cue.cells d)]) (a:=(c,d,())) rfl hx (v:= .int .i64 x) rfl hg rfl (a2 (ZLP c) (ZLP d)) (λ_ _ _ _ h=>h)
def lowC(x:Cue):List Cue->Option Nat
 | []=>some 0
 | y::r=>(G201 (y,x,())).bind λz=>cond (decide (z.1<0)) ((lowC x r).bind λn=>some (n+1)) (some 0)
def ZPa(x:Cue): ∀(l:List Cue) (n:Nat),lowC x l=some n->n<=l.length
 | [],n,h=>by cases h;exact Nat.le_refl _
 | y::r,n,h=>by
  unfold lowC at h
  obtain⟨z,_,h⟩:=al_bind_iff.mp h
  cases hz:decide (z.1<0)<;>rw[hz]at h<;>simp only[al_cond_true,al_cond_false]at h
  ·cases h;exact Nat.zero_le _
  ·obtain⟨m,hm,h⟩:=al_bind_iff.mp h
   cases h
   have:=ZPa x r m hm
   simp only[al_len_cons];omega
def ZHS(l:List Cue)(x:Cue):Option Bool:=
 (G119 (l,())).bind λx1=>cond (!x1.1) (some false) ((G199 (x,())).bind λx2=>cond (!x2.1) (some false) (cond (decide (0<=ZEe l x.Tick x.Name)) (some false) (cond (decide (12<=l.length)) (some false) (some true))))
set_option maxHeartbeats 2000000 in
def ZVS(w:World)(c1:Value)(l:List Cue)(d:Cue)(hg:Glob (λb=>b<w.heap.size) w)(r1:Rel0 w (.lst .cue l) c1)(hl:l.length<=1048576){ok:Bool}(hok:ZHS l d=some ok){n:Nat}(hn:ok=true->lowC d l=some n):
  Calls prog 105 #[c1,.agg #[.int .i64 d.Tick,.string ⟨⟨d.Name⟩⟩,.int .i64 d.Level,.int .i64 d.Ramp]] w λe w'=>
   ∃a cap l',l'=(if ok=true then insL l n d else l)/\e= .returned (.tuple #[.slice a l'.length cap,.bool ok])/\Fresh .cue w w' l' a cap/\Chg (λ_=>False) w w':=by
 have r1':=r1
 obtain⟨a1,k1,rfl,hk1,hat1⟩:=r1
 unfold ZHS at hok
 obtain⟨⟨x1,_⟩,e1,hok⟩:=al_bind_iff.mp hok
 simp only at hok
 go_enter func105,ntmps105
 go_wp2_with fail
 have kA:=ZB4 w (.cells (ZBz d) 111)
 have bA:=ZVN w d 111
 generalize w.alloc (.cells (ZBz d) 111)=w1 at kA bA⊢
 generalize hB:w.heap.size=B at bA⊢
 refine(ZVO hl (ZCl hg kA) (ZCm r1' kA)).mono ?_
 rintro e w2 ⟨a,cap,rfl,hF,k2⟩
 have k2':=kA.trans k2 (λ_ h=>h) (λ_ _ h=>h)
 have b2:=bA.keep k2
 simp only
 go_wp2_with fail
 refine(ZVP e1 (ZCl hg k2') (ZCm r1' k2')).mono ?_
 rintro e w3 ⟨rfl,k3⟩
 have k3':=k2'.trans k3 (λ_ h=>h) (λ_ _ h=>h)
 have b3:=b2.keep k3
 have F3:=ZPM (ZBy hF k3) kA.size
 clear b2 bA hF k2 kA
 simp only
 cases x1
 ·cases hok
  go_wp2
  go_ret2
  exact⟨a,cap,rfl,F3,k3'⟩
 ·simp only[ZAG,al_cond_false]at hok
  obtain⟨⟨x2,_⟩,e2,hok⟩:=al_bind_iff.mp hok
  obtain⟨g0,g1,g2,g3,glt⟩:=id b3
  go_wp2_with fail
  refine(ZVQ e2 (ZCl hg k3')).mono ?_
  rintro e w4 ⟨rfl,k4⟩
  have k4':=k3'.trans k4 (λ_ h=>h) (λ_ _ h=>h)
  have b4:=b3.keep k4
  have F4:=ZBy F3 k4
  clear b3 F3 g0 g1 g2 g3 glt
  simp only at hok⊢
  cases x2
  ·cases hok
   go_wp2
   go_ret2
   exact⟨a,cap,rfl,F4,k4'⟩
  ·simp only[ZAG,al_cond_false]at hok
   obtain⟨g0,g1,g2,g3,glt⟩:=id b4
   go_wp2_with fail
   refine(ZVM w4 l _ d.Tick d.Name (ZCm r1' k4') hl).mono ?_
   rintro e w5 ⟨rfl,k5⟩
   have k5':=k4'.trans k5 (λ_ h=>h) (λ_ _ h=>h)
   have b5:=b4.keep k5
   have F5:=ZBy F4 k5
   clear b4 F4 g0 g1 g2 g3 glt
   generalize ZEe l d.Tick d.Name=x3 at hok⊢
   simp only at hok⊢
   by_cases h3:0<=x3
   ·rw[ZAH h3]at hok
    cases hok
    go_wp2
    go_ret2
    exact⟨a,cap,rfl,F5,k5'⟩
   ·rw[ZAE h3,al_cond_false]at hok
    by_cases h8:12<=l.length
    ·rw[ZAH h8]at hok
     cases hok
     have h8':(12:Int)<=(l.length:Int):=by omega
     go_wp2
     go_ret2
     exact⟨a,cap,rfl,F5,k5'⟩
    ·rw[ZAE h8,al_cond_false]at hok
     cases hok
     have h8': ¬(12:Int)<=(l.length:Int):=by omega
     have r6:=ZCm r1' k5'
     have hgk5:=ZCl hg k5'
     go_wp2_with fail
     have rH:=(show Hid _ from r6)
     have FH:=(show Hid _ from F5)
     have kH:=(show Hid _ from k5')
     have bH:=(show Hid _ from b5)
     have gH:=(show Hid _ from hgk5)
     have nH:=(show Hid _ from hn trivial)
     clear r6 F5 k5' b5 r1' k2' k3' k4' k3 k4 k5 hg hat1 hgk5 hn
     have mixed:prog.follows .mixedOrders=true:=by kernel_rfl
     have hnl:=ZPa d l n nH.out
     go_loopg [7] l.length (λg s7 wx=> ∃kk:Nat,kk<=n/\l.length-kk<=g/\s7= .int .i64 kk/\Hid (lowC d (l.drop kk)=some (n-kk))/\Hid (Chg (λ_=>False) w5 wx))
     case atStart=>exact⟨0,Nat.zero_le _,by omega,rfl,nH.out,Chg.refl _ _⟩
     case round=>
      obtain⟨kk,hkk,hgk,rfl,hA,hC⟩:=hrel
      by_cases hlt:kk<l.length
      ·have hltz:(kk:Int)<(l.length:Int):=by omega
       obtain⟨y,hy⟩: ∃y,l[kk]?=some y:=⟨_,al_get_get hlt⟩
       have gx: ∃b s,a1=some ⟨b,s,none⟩/\w5.cell? ⟨b,s+kk*4,none⟩=some (.int .i64 y.Tick)/\w5.cell? ⟨b,s+kk*4+1,none⟩=some (.string ⟨⟨y.Name⟩⟩)/\w5.cell? ⟨b,s+kk*4+2,none⟩=some (.int .i64 y.Level)/\w5.cell? ⟨b,s+kk*4+3,none⟩=some (.int .i64 y.Ramp):=by
        obtain⟨a',k',e,_,h⟩:=rH.out
        cases e
        rcases h with h | ⟨b,s,e,_,h⟩
        ·subst h;simp at hlt
        ·exact⟨b,s,e,h (kk*4) _ (ZDD .cue l kk y hy 0 _ rfl),h (kk*4+1) _ (ZDD .cue l kk y hy 1 _ rfl),h (kk*4+2) _ (ZDD .cue l kk y hy 2 _ rfl),h (kk*4+3) _ (ZDD .cue l kk y hy 3 _ rfl)⟩
       obtain⟨b1,s1,rfl,q0,q1,q2,q3⟩:=gx
       have hdr:l.drop kk=y::l.drop (kk+1):=by
        rw[List.drop_eq_getElem_cons hlt]
        congr 1
        rw[al_get_get hlt]at hy
        exact Option.some.inj hy
       have hA':=hA.out
       rw[hdr]at hA'
       unfold lowC at hA'
       obtain⟨⟨z,_⟩,ez,hA'⟩:=al_bind_iff.mp hA'
       have KEEP: ∀W,Chg (λ_=>False) w5 W->(W.cell? ⟨B,0,none⟩=some (.int .i64 d.Tick)/\W.cell? ⟨B,1,none⟩=some (.string ⟨⟨d.Name⟩⟩)/\W.cell? ⟨B,2,none⟩=some (.int .i64 d.Level)/\W.cell? ⟨B,3,none⟩=some (.int .i64 d.Ramp)/\W.cell? ⟨b1,s1+kk*4,none⟩=some (.int .i64 y.Tick)/\W.cell? ⟨b1,s1+kk*4+1,none⟩=some (.string ⟨⟨y.Name⟩⟩)/\W.cell? ⟨b1,s1+kk*4+2,none⟩=some (.int .i64 y.Level)/\W.cell? ⟨b1,s1+kk*4+3,none⟩=some (.int .i64 y.Ramp))/\Chg (λ_=>False) w5 W:=λW hW=>
        ⟨⟨ZBp hW bH.out.c0,ZBp hW bH.out.c1,ZBp hW bH.out.c2,ZBp hW bH.out.c3,ZBp hW q0,ZBp hW q1,ZBp hW q2,ZBp hW q3⟩,hW⟩
       have CMP: ∀W,Chg (λ_=>False) w5 W->Calls prog 201 #[.agg (ZBz y),.agg (ZBz d)] W λe w'=>e= .returned (.int .i64 z)/\Chg (λ_=>False) w5 w':=λW hW=>
        (ZVR ez (ZCl gH.out hW)).mono λe w' h=>⟨h.1,hW.trans h.2 (λ_ h=>h) (λ_ _ h=>h)⟩
       have KH:=(show Hid _ from KEEP)
       have CH:=(show Hid _ from CMP)
       have HA:=(show Hid _ from hA')
       have DR1:Chg (λ_=>False) w5 wr.drew:=hC.out.trans (ZEd wr) (λ_ h=>h) (λ_ _ h=>h)
       clear KEEP CMP q0 q1 q2 q3 hA' hdr hy ez
       cases hz:decide (z<0)
       ·have hlow:n=kk:=by
         have:=HA.out
         simp only[hz,al_cond_false]at this
         have:=Option.some.inj this
         omega
        have hkl:kk<=l.length:=Nat.le_of_lt hlt
        go_wp2_with fail
        go_region_held (λW=>(W.cell? ⟨B,0,none⟩=some (.int .i64 d.Tick)/\W.cell? ⟨B,1,none⟩=some (.string ⟨⟨d.Name⟩⟩)/\W.cell? ⟨B,2,none⟩=some (.int .i64 d.Level)/\W.cell? ⟨B,3,none⟩=some (.int .i64 d.Ramp)/\W.cell? ⟨b1,s1+kk*4,none⟩=some (.int .i64 y.Tick)/\W.cell? ⟨b1,s1+kk*4+1,none⟩=some (.string ⟨⟨y.Name⟩⟩)/\W.cell? ⟨b1,s1+kk*4+2,none⟩=some (.int .i64 y.Level)/\W.cell? ⟨b1,s1+kk*4+3,none⟩=some (.int .i64 y.Ramp))/\Chg (λ_=>False) w5 W)
         (first | exact KH.out _ DR1 | exact KH.out _ (by assumption)) (first | (go_at_call 201;refine(CH.out _ ?_).mono ?_;exact(show _/\Chg (λ_=>False) w5 _ from by assumption).2;rintro e w' ⟨rfl,hk'⟩))
        have kE:Chg (λ_=>False) w5 w':=(show _/\Chg (λ_=>False) w5 w' from by assumption).2
        have bE:=bH.out.keep kE
        have FE:=ZBy FH.out kE
        have kE':=kH.out.trans kE (λ_ h=>h) (λ_ _ h=>h)
        obtain⟨g0,g1,g2,g3,glt⟩:=id bE
        have HL:=(show Hid _ from hlow)
        have HFE:=(show Hid _ from FE)
        have HKE:=(show Hid _ from kE')
        have HKK:=(show Hid _ from hkl)
        clear FH rH bH kH hA hlow FE kE' bE kE hk1 hkk hgk hkl gH hC KH CH HA DR1 hz hlt hk'
        go_wp2_with fail
        have kN:=ZB4 w' (.cells (ZBz d) 111)
        have hN:=heap_alloc_new w' (.cells (ZBz d) 111)
        refine(ZPP (w0:=w) (B:=(w').heap.size) (i:=kk) (x:=d) (e:=111) (ZBy HFE.out kN) (Nat.le_trans HKE.out.size kN.size) HKK.out hl hN (λb s hab hc=>by
         rcases HFE.out.at_ with h | ⟨b',s',arr',e',_,hr',_⟩
         ·exact absurd h hc
         ·rw[hab]at e';cases e'
          have:=hr'.lt;omega)).mono ?_
        rintro e wI ⟨aI,capI,rfl,hFI,kI⟩
        have kF:=HKE.out.trans (kN.trans (kI.mono (B:=λb=>w.heap.size<=b) λ_ h=>h) (C:=λb=>w.heap.size<=b) (λ_ h=>h.elim) (λ_ _ h=>h)) (C:=λb=>w.heap.size<=b) (λ_ h=>h.elim) (λ_ _ h=>h)
        simp only
        go_wp2
        go_ret2
        refine⟨aI,capI,?_,by rw[HL.out];exact hFI,chgF kF⟩
        rw[HL.out,ZDQ l kk d HKK.out]
        rfl
       ·have hnx:lowC d (l.drop (kk+1))=some (n-(kk+1))/\kk+1<=n:=by
         have:=HA.out
         simp only[hz,al_cond_true]at this
         obtain⟨m,hm,e⟩:=al_bind_iff.mp this
         have:=Option.some.inj e
         exact⟨by rw[hm];congr 1;omega,by omega⟩
        have HX:=(show Hid _ from hnx)
        clear hnx
        go_wp2_with fail
        go_region_held (λW=>(W.cell? ⟨B,0,none⟩=some (.int .i64 d.Tick)/\W.cell? ⟨B,1,none⟩=some (.string ⟨⟨d.Name⟩⟩)/\W.cell? ⟨B,2,none⟩=some (.int .i64 d.Level)/\W.cell? ⟨B,3,none⟩=some (.int .i64 d.Ramp)/\W.cell? ⟨b1,s1+kk*4,none⟩=some (.int .i64 y.Tick)/\W.cell? ⟨b1,s1+kk*4+1,none⟩=some (.string ⟨⟨y.Name⟩⟩)/\W.cell? ⟨b1,s1+kk*4+2,none⟩=some (.int .i64 y.Level)/\W.cell? ⟨b1,s1+kk*4+3,none⟩=some (.int .i64 y.Ramp))/\Chg (λ_=>False) w5 W)
         (first | exact KH.out _ DR1 | exact KH.out _ (by assumption)) (first | (go_at_call 201;refine(CH.out _ ?_).mono ?_;exact(show _/\Chg (λ_=>False) w5 _ from by assumption).2;rintro e w' ⟨rfl,hk'⟩))
        have kE:Chg (λ_=>False) w5 w':=(show _/\Chg (λ_=>False) w5 w' from by assumption).2
        have HE:=(show Hid _ from kE)
        clear kE
        go_wp2
        go_roundg (l.length-(kk+1))
        case measure=>omega
        case rel=>exact⟨kk+1,HX.out.2,by omega,by simp,HX.out.1,HE⟩
      ·have hkl:kk=l.length:=by omega
       subst hkl
       have hlow:n=l.length:=by omega
       have hltz:decide ((l.length:Int)<(l.length:Int))=false:=ZAE (by omega)
       have hkl:l.length<=l.length:=Nat.le_refl _
       go_wp2_with fail
       go_quiet (fail)
       have kE:Chg (λ_=>False) w5 (wr.drewN nq):=hC.out.trans (⟨rfl,rfl,rfl,Nat.le_refl _,λ_ _ _=>rfl,DR.add _ nq⟩:Chg (λ_=>False) wr (wr.drewN nq)) (λ_ h=>h) (λ_ _ h=>h)
       generalize wr.drewN nq=wE at kE⊢
       have bE:=bH.out.keep kE
       have FE:=ZBy FH.out kE
       have kE':=kH.out.trans kE (λ_ h=>h) (λ_ _ h=>h)
       obtain⟨g0,g1,g2,g3,glt⟩:=id bE
       have HL:=(show Hid _ from hlow)
       have HFE:=(show Hid _ from FE)
       have HKE:=(show Hid _ from kE')
       have HKK:=(show Hid _ from hkl)
       clear FH rH bH kH hA hlow FE kE' bE kE hk1 hkk hgk hkl gH hC hlt hltz
       go_wp2_with fail
       have kN:=ZB4 wE (.cells (ZBz d) 111)
       have hN:=heap_alloc_new wE (.cells (ZBz d) 111)
       refine(ZPP (w0:=w) (B:=(wE).heap.size) (i:=l.length) (x:=d) (e:=111) (ZBy HFE.out kN) (Nat.le_trans HKE.out.size kN.size) HKK.out hl hN (λb s hab hc=>by
        rcases HFE.out.at_ with h | ⟨b',s',arr',e',_,hr',_⟩
        ·exact absurd h hc
        ·rw[hab]at e';cases e'
         have:=hr'.lt;omega)).mono ?_
       rintro e wI ⟨aI,capI,rfl,hFI,kI⟩
       have kF:=HKE.out.trans (kN.trans (kI.mono (B:=λb=>w.heap.size<=b) λ_ h=>h) (C:=λb=>w.heap.size<=b) (λ_ h=>h.elim) (λ_ _ h=>h)) (C:=λb=>w.heap.size<=b) (λ_ h=>h.elim) (λ_ _ h=>h)
       simp only
       go_wp2
       go_ret2
       refine⟨aI,capI,?_,by rw[HL.out];exact hFI,chgF kF⟩
       rw[HL.out,ZDQ l l.length d HKK.out]
       rfl
end Ev
end
noncomputable section
namespace Ev
open Go Go.Proofs Go.RowKit Go.Lib
def G105:T322:=λa=>if a.1.length<=1048576 then(ZHS a.1 a.2.1).bind λok=>cond ok ((lowC a.2.1 a.1).bind λn=>some (insL a.1 n a.2.1,true,())) (some (a.1,false,()))else none
theorem okG105:N105 G105:=by
 refine ZGD (fn:=f105) func105 (by kernel_rfl) (of_decide_eq_false (by kernel_rfl)) (λa=>rfl) λa x hx w F hg hs ca hsz hv=> ?_
 obtain⟨l,d,u⟩:=a
 unfold G105 at hx
 simp only at hx
 split at hx
 ·rename_i hl
  obtain⟨ok,hok,hx⟩:=al_bind_iff.mp hx
  obtain⟨c1,hc1,r1⟩:=hv 0 _ rfl
  obtain⟨c2,hc2,r2⟩:=hv 1 _ rfl
  obtain rfl:=ZLO hsz hc1 hc2
  obtain rfl:=ZPR (cs:=Ty.cue.cells d) rfl r2
  have key: ∃n,(ok=true->lowC d l=some n)/\x=((if ok=true then insL l n d else l),ok,()):=by
   cases ok
   ·cases hx;exact⟨0,(λh=>(by cases h)),rfl⟩
   ·simp only[al_cond_true]at hx
    obtain⟨n,hn,hx⟩:=al_bind_iff.mp hx
    cases hx;exact⟨n,(λ_=>hn),rfl⟩
  obtain⟨n,hn,rfl⟩:=key
  refine(ZVS w c1 l d (ZLK hg hs) (ZLL hs r1) hl hok hn).mono ?_
  rintro e w' ⟨a,cap,l',hl',rfl,hF,k⟩
  obtain⟨q1,q2,q3,q4,q5⟩:=hF.core hs hg k
  refine⟨_,_,rfl,?_,?_,?_,k,q5⟩
  ·rw[<-hl'];exact q1
  ·intro id x h;exact q2 id x h
  ·refine⟨_,rfl,rfl,λi v hv=> ?_⟩
   match i,hv with
   | 0,hv=>cases hv;exact⟨_,rfl,q4⟩
   | 1,hv=>cases hv;exact⟨_,rfl,rfl⟩
 ·cases hx
end Ev
end
noncomputable section
namespace Ev
open Go Go.Proofs Go.RowKit Go.Lib
def isPM(x:UInt8):Bool:=x==43 || x==45
def ZAV:Str->Int
 | []=> -1
 | x::r=>if 0<=ZAV r then ZAV r+1 else if isPM x=true then 0 else-1
def ZLQ: ∀l:Str,-1<=ZAV l/\ZAV l<l.length
 | []=>by simp[ZAV]
 | x::r=>by
  have:=ZLQ r
  unfold ZAV
  simp only[al_len_cons]
  split
  ·omega
  ·split<;>omega
def ZIw: ∀(l:Str) (x:UInt8),ZAV (l++[x])=if isPM x=true then(l.length:Int)else ZAV l
 | [],x=>by simp[ZAV]
 | y::r,x=>by
  have ih:=ZIw r x
  have hg:=ZLQ r
  rw[List.cons_append,ZAV,ih,ZAV]
  cases hx:isPM x
  ·simp
  ·simp only[if_true,al_len_cons]
   rw[al_if_pos]
   omega
def ZPb: ∀(n:Nat) (l m:Str),m.length=n->(∀x∈m,isPM x=false)->ZAV (l++m)=ZAV l
 | 0,l,m,hn,h=>by
  obtain rfl:=List.length_eq_zero_iff.mp hn
  rw[List.append_nil]
 | n+1,l,m,hn,h=>by
  obtain⟨m',x,rfl⟩: ∃m' x,m=m'++[x]:=⟨m.dropLast,m.getLast (by intro e;rw[e]at hn;simp at hn),(List.dropLast_concat_getLast _).symm⟩
  rw[<-List.append_assoc,ZIw,al_if_neg (by rw[h x (by simp)];simp)]
  exact ZPb n l m' (by simpa using hn) λy hy=>h y (by simp[hy])
def ZPc{x:UInt8}(h:128<=x.toNat):isPM x=false:=by
 unfold isPM
 rw[Bool.or_eq_false_iff]
 constructor
 ·rw[beq_eq_false_iff_ne];rintro rfl;simp at h
 ·rw[beq_eq_false_iff_ne];rintro rfl;simp at h
def ZVT(x:UInt8):decide (0<=indexByte [43,45] x)=isPM x:=by
 unfold isPM
 by_cases h1:x=43
 ·subst h1;decide
 by_cases h2:x=45
 ·subst h2;decide
 have e:indexByte [43,45] x= -1:=by
  simp only[indexByte]
  simp[Ne.symm h1,Ne.symm h2,h1,h2]
 rw[e]
 simp[h1,h2]
def ZPd(l:List UInt8)(k:Nat):(ByteArray.get! ⟨l.toArray⟩ k)=l.getD k 0:=by
 show l.toArray[k]! =_
 simp[List.getD_eq_getElem?_getD]
 rfl
def ZVU(l:List UInt8)(hl:l≠[])(h:128<=(l.getD 0 0).toNat):1<=(decodeL l).2/\(decodeL l).2<=l.length/\128<=(decodeL l).1/\Lib.validRune ((decodeL l).1:Int)=true/\ ∀k,k<(decodeL l).2->128<=(l.getD k 0).toNat:=by
 have h0:=h
 have hp:1<=l.length:=by
  cases l with
  | nil=>exact absurd rfl hl
  | cons a r=>simp
 have herr:1<=((Utf8.runeError,1):Nat×Nat).2/\((Utf8.runeError,1):Nat×Nat).2<=l.length/\128<=((Utf8.runeError,1):Nat×Nat).1/\Lib.validRune (((Utf8.runeError,1):Nat×Nat).1:Int)=true/\ ∀k,k<((Utf8.runeError,1):Nat×Nat).2->128<=(l.getD k 0).toNat:=
  ⟨Nat.le_refl _,hp,by decide,by decide,λk hk=>by
   obtain rfl:k=0:=by simpa using hk
   exact h⟩
 have hsz:(⟨l.toArray⟩:ByteArray).size=l.length:=by simp[ByteArray.size]
 have hval: ∀c:Nat,Utf8.valid (c:Int)=true->Lib.validRune (c:Int)=true:=by
  intro c hc
  unfold Utf8.valid at hc
  unfold Lib.validRune
  simp at hc⊢
  omega
 unfold decodeL Utf8.decode
 simp only[ZPd,Nat.zero_add,hsz]
 rw[al_if_neg]
 generalize (l.getD 0 0).toNat=b0 at h
 split
 ·rename_i h2
  simp only[ZAJ,ZAX,beq_iff_eq]at h2
  split
  ·rename_i hc
   refine⟨Nat.le_add_left _ _,by dsimp only;omega,hc,hval _ ?_,λk hk=> ?_⟩
   ·unfold Utf8.valid
    simp only[Bool.or_eq_true,ZAJ,ZAX]
    left
    exact⟨by omega,by omega⟩
   ·match k,hk with
    | 0,_=>exact h0
    | 1,_=>omega
  ·exact herr
 ·split
  ·rename_i h2
   simp only[ZAJ,ZAX,beq_iff_eq]at h2
   split
   ·rename_i hc
    simp only[ZAJ,ZAX]at hc
    refine⟨Nat.le_add_left _ _,by dsimp only;omega,by dsimp only;omega,hval _ hc.2,λk hk=> ?_⟩
    match k,hk with
    | 0,_=>exact h0
    | 1,_=>omega
    | 2,_=>omega
   ·exact herr
  ·split
   ·rename_i h2
    simp only[ZAJ,ZAX,beq_iff_eq]at h2
    split
    ·rename_i hc
     simp only[ZAJ,ZAX]at hc
     refine⟨Nat.le_add_left _ _,by dsimp only;omega,by dsimp only;omega,hval _ hc.2,λk hk=> ?_⟩
     match k,hk with
     | 0,_=>exact h0
     | 1,_=>omega
     | 2,_=>omega
     | 3,_=>omega
    ·exact herr
   ·exact herr
def ZVV(l:List UInt8)(hl:l≠[])(h:128<=(l.getD (l.length-1) 0).toNat):1<=(decodeLastL l).2/\(decodeLastL l).2<=l.length/\128<=(decodeLastL l).1/\Lib.validRune ((decodeLastL l).1:Int)=true/\ ∀x∈l.drop (l.length-(decodeLastL l).2),128<=x.toNat:=by
 have hp:1<=l.length:=by
  cases l with
  | nil=>exact absurd rfl hl
  | cons a r=>simp
 unfold decodeLastL
 rw[al_if_neg hl,al_if_neg]
 dsimp only
 generalize lastStart l=ls
 split
 ·rename_i he
  have hd: ∀k,(l.drop ls).getD k 0=l.getD (ls+k) 0:=λk=>by rw[List.getD_eq_getElem?_getD,List.getD_eq_getElem?_getD,List.getElem?_drop]
  by_cases hb:((l.drop ls).getD 0 0).toNat<128
  ·exfalso
   have e1:(decodeL (l.drop ls)).2=1:=by
    unfold decodeL Utf8.decode
    simp only[ZPd,Nat.zero_add]
    rw[al_if_pos hb]
   rw[hd 0,show ls+0=l.length-1 by omega]at hb
   omega
  ·have hne:l.drop ls≠[]:=by
    intro e
    rw[e]at hb
    simp at hb
   obtain⟨a1,a2,a3,a4,a5⟩:=ZVU (l.drop ls) hne (by omega)
   rw[List.length_drop]at a2
   refine⟨a1,by omega,a3,a4,λx hx=> ?_⟩
   rw[show l.length-(decodeL (l.drop ls)).2=ls by omega]at hx
   obtain⟨k,hk,rfl⟩:=List.mem_iff_getElem.mp hx
   have:=a5 k (by rw[List.length_drop]at hk;omega)
   rw[List.getD_eq_getElem?_getD,al_get_get hk]at this
   exact this
 ·refine⟨Nat.le_refl _,hp,by decide,by decide,λx hx=> ?_⟩
  obtain⟨k,hk,rfl⟩:=List.mem_iff_getElem.mp hx
  rw[List.length_drop]at hk
  have hk0:k=0:=by simp only at hk;omega
  subst hk0
  rw[List.getElem_drop]
  rw[List.getD_eq_getElem?_getD,al_get_get (by omega)]at h
  simpa using h
def ZVW(l:List UInt8)(hl:l≠[])(h:(l.getD (l.length-1) 0).toNat<128):decodeLastL l=((l.getD (l.length-1) 0).toNat,1):=by
 unfold decodeLastL
 rw[al_if_neg hl,al_if_pos h]
def ZVX(l:List UInt8)(hl:l≠[]):(1<=(decodeLastL l).2/\(decodeLastL l).2<=l.length)/\
  ((
   (decodeLastL l).1<128/\(decodeLastL l).2=1/\ZAV l=if isPM (decodeLastL l).1.toUInt8=true then(l.length:Int) -1 else ZAV (l.take (l.length-1)))\/
   (128<=(decodeLastL l).1/\Lib.validRune ((decodeLastL l).1:Int)=true/\ZAV l=ZAV (l.take (l.length-(decodeLastL l).2)))):=by
 have hp:1<=l.length:=by
  cases l with
  | nil=>exact absurd rfl hl
  | cons a r=>simp
 by_cases h:(l.getD (l.length-1) 0).toNat<128
 ·rw[ZVW l hl h]
  refine⟨⟨Nat.le_refl _,hp⟩,.inl ⟨h,rfl,?_⟩⟩
  have e:l=l.take (l.length-1)++[l.getD (l.length-1) 0]:=by
   conv=>lhs;rw[<-List.take_append_drop (l.length-1) l]
   congr 1
   rw[List.drop_eq_getElem_cons (by omega),List.getD_eq_getElem?_getD,al_get_get (by omega)]
   rw[List.drop_eq_nil_of_le (by omega)]
   rfl
  conv=>lhs;rw[e]
  rw[ZIw]
  simp only[al_len_take,Nat.toUInt8_eq,UInt8.ofNat_toNat]
  rw[Nat.min_eq_left (by omega)]
  split<;>omega
 ·obtain⟨a1,a2,a3,a4,a5⟩:=ZVV l hl (by omega)
  refine⟨⟨a1,a2⟩,.inr ⟨a3,a4,?_⟩⟩
  conv=>lhs;rw[<-List.take_append_drop (l.length-(decodeLastL l).2) l]
  exact ZPb _ _ _ rfl λx hx=>ZPc (a5 x hx)
end Ev
end
noncomputable section
namespace Ev
open Go Go.Proofs Go.RowKit Go.Lib
def ZVY(w:World):Calls prog 277 #[.string ⟨#[43,45]⟩,.int .i32 65533] w λe w'=>e= .returned (.int .i64 (-1))/\Below w.heap.size w w':=by
 have n0:=λty=>run_next_ascii (P:=prog) w ⟨#[43,45]⟩ 0 ty (by decide) (by decide)
 have n1:=λty=>run_next_ascii (P:=prog) w ⟨#[43,45]⟩ 1 ty (by decide) (by decide)
 have n2:=λty=>run_next_end (P:=prog) w ⟨#[43,45]⟩ 2 ty (by decide)
 go_enter func277,ntmps277
 go_wp2
 refine wp_loop_rounds 3 ?_
 rw[rounds_succ]
 go_wp2
 rw[rounds_succ]
 go_wp2
 rw[rounds_succ]
 go_wp2
 go_ret
 exact⟨rfl,(Below.refl _ _).alloc (Nat.le_refl _) _⟩
def ZVZ{L:ByteArray}(h:L.size=2): ∃y x,L=⟨#[y,x]⟩:=by
 obtain⟨⟨l⟩⟩:=L
 match l,h with
 | [y,x],_=>exact⟨y,x,rfl⟩
set_option maxHeartbeats 8000000 in
def ZVa(r:Nat)(h:128<=r)(hv:Lib.validRune (r:Int)=true)(hne:r≠65533)(y x:UInt8)(hx:128<=x.toNat)(w:World)(hcv: ∀w,(convert 21 9 (.int .i32 (r:Int))).run prog w= .ok (.string ⟨#[y,x]⟩) w):Calls prog 277 #[.string ⟨#[43,45]⟩,.int .i32 r] w λe w'=>e= .returned (.int .i64 (-1))/\Below w.heap.size w w':=by
 have mixed:prog.follows .mixedOrders=true:=by kernel_rfl
 have c1: ¬((r:Int)<128):=by omega
 have c2: ¬((r:Int)=65533):=by omega
 have c2':((r:Int)==65533)=false:=beq_eq_false_iff_ne.2 c2
 have c5: ¬((45:Int)=(x.toNat:Int)):=by omega
 have c6:((45:Int)==(x.toNat:Int))=false:=beq_eq_false_iff_ne.2 c5
 have c7:((((⟨#[43,45]⟩:ByteArray)[1]'(by decide)).toNat:Int) !=(((⟨#[y,x]⟩:ByteArray)[1]'(show 1<2 by decide)).toNat:Int))=true:=by
  show((45:Int) !=(x.toNat:Int))=true
  simpa using c5
 go_enter func277,ntmps277
 go_wp2_with (first | (go_at_call 338;refine(utf8_ValidRune _ _).mono ?_;rintro e w' ⟨rfl,hw⟩;rw[hw,hv]) | fail)
 refine wp_scope_straight ?_
 go_wp2
 refine wp_loop_rounds 1 ?_
 rw[rounds_succ]
 go_wp2_with (first | (go_at_call 337;refine(strings_IndexByte _ _ _).mono ?_;rintro e w' ⟨rfl,hw⟩;rw[hw]) | fail)
 refine wp_scope_straight ?_
 go_wp2
 go_quiet (fail)
 obtain⟨w1,hw1⟩: ∃w1,w.drewN nq=w1:=⟨_,rfl⟩
 have hB1:Hid (Below w.heap.size w w1):=by rw[<-hw1];exact⟨rfl,rfl,rfl,Nat.le_refl _,λ_ _=>rfl⟩
 rw[hw1]
 clear hw1
 go_wp2
 go_quiet ((go_at_call 337;refine Calls.quiet_of_same (strings_IndexByte _ _ _)))
 go_wp2
 simp only[Exit.noGoto,Exit.inBlock,Exit.then]
 go_ret
 exact⟨rfl,by rename_i n _;exact hB1.out.trans ⟨rfl,rfl,rfl,Nat.le_refl _,λ_ _=>rfl⟩⟩
end Ev
end
