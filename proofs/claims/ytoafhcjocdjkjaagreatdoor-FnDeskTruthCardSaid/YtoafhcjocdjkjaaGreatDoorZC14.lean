/- Laid together by program (what the claim does not reach is left out): DkJ, DkT, DrT, DkU, Door8, DkP, Hit, DkQ. -/
import Derived.Test.YtoafhcjocdjkjaaGreatDoorZC13
import Derived.Test.YtoafhcjocdjkjaaGreatDoorRows
import Derived.Lib.LaidU8T
import Derived.HandedShaped
import Derived.Handed
import Derived.Shelf.Vars
import Derived.LaidMore
import Derived.KernelRfl
set_option linter.all false
set_option maxRecDepth 100000
open Go.Proofs.Tryz
noncomputable section
namespace Ev
open Go
def ZBG(x:ZAP)(line:Str):ZAP×Str:=if ZCN x=true then(match line with | []=>(x,[]) | c::l=>if c.toNat=35 then(x,[])else ZBd x (c::l))else(x,[])
def ZJ0{x:ZAP}(h:DeskV x){line:Str}(hl:line.length<=1048576):DeskV (ZBG x line).1:=by
 unfold ZBG
 rw[ZDp h,al_if_pos rfl]
 cases line with
 | nil=>exact h
 | cons c l=>
  simp only
  split
  ·exact h
  ·exact ZaE h hl
def ZaF{x:ZAP}(h:DeskOK x){line:Str}(hl:line.length<=1048576):DeskOK (ZBG x line).1:=by
 by_cases hb:ZCN x=true
 ·exact(ZJ0 (ZMy h hb) hl).ok
 ·unfold ZBG;rw[al_if_neg hb];exact h
def ZDZ{x:ZAP}(h:DeskOK x){line:Str}(hl:line.length<=1048576):G18 (x,line,())=some ((ZBG x line).1,(ZBG x line).2,()):=by
 unfold ZBG
 by_cases hb:ZCN x=true
 ·rw[al_if_pos hb]
  cases line with
  | nil=>
   unfold G18 F18
   simp only[ZEC x h,hb,al_bind_some,ZB3 (ZBa h)]
   rfl
  | cons c l=>
   simp only
   by_cases hc:c.toNat=35
   ·rw[al_if_pos hc]
    unfold G18 F18
    simp only[ZEC x h,hb,al_bind_some,ZB3 (ZBa h),rd0,ZAG,ZAK,al_cond_true]
    rw[ZAE (show¬(c::l=[])by simp),ZA (show Int.ofNat c.toNat=35 by rw[hc];rfl)]
    rfl
   ·rw[al_if_neg hc]
    exact ZZY (ZMy h hb) hc hl
 ·rw[al_if_neg hb]
  have hb:ZCN x=false:=by cases q:ZCN x<;>simp_all
  unfold G18 F18
  simp only[ZEC x h,hb,al_bind_some,ZB3 (ZBa h)]
  rfl
def ZaG{x:ZAP}(h:DeskOK x){line:Str}(hl:line.length<=1048576):G28 (x,line,())=some ((ZBG x line).1,(ZBG x line).2,()):=by
 have hz:=ZBa (ZaF h hl)
 unfold ZBG at hz⊢
 by_cases hb:ZCN x=true
 ·rw[al_if_pos hb]at hz⊢
  cases line with
  | nil=>
   unfold G28 F28
   simp only[ZH2 (ZBa h),ZJq x h,hb,al_bind_some]
   rfl
  | cons c l=>
   simp only at hz⊢
   by_cases hc:c.toNat=35
   ·rw[al_if_pos hc]
    unfold G28 F28
    simp only[ZH2 (ZBa h),ZJq x h,hb,al_bind_some,rd0,ZAG,ZAK,al_cond_true]
    rw[ZAE (show¬(c::l=[])by simp),ZA (show Int.ofNat c.toNat=35 by rw[hc];rfl)]
    rfl
   ·rw[al_if_neg hc]at hz⊢
    exact ZZt (ZMy h hb) hc hl hz
 ·rw[al_if_neg hb]
  have hb:ZCN x=false:=by cases q:ZCN x<;>simp_all
  unfold G28 F28
  simp only[ZH2 (ZBa h),ZJq x h,hb,al_bind_some]
  rfl
end Ev
end
noncomputable section
namespace Ev
open Go
def newD:ZAP:=([],[],[],0,[⟨0,0⟩],0,0,0,0,())
def ZaH:G51 ([(⟨0,0⟩:Place)],())=some (true,()):=by
 obtain⟨n,hn⟩: ∃n,fuel=n+9:=⟨fuel-9,by rw[ZBx]⟩
 unfold G51 F51
 rw[hn]
 kernel_rfl
def ZaI:RigP []:=⟨by simp,(λd hd=>by cases hd),(λi d e hd=>by simp at hd),(λd hd=>by cases hd)⟩
def ZaJ:ScoreP []:=⟨by simp,(λd hd=>by cases hd),(λi d e hd=>by simp at hd)⟩
def ZaK:WindP []:=⟨by simp,(λd hd=>by cases hd),(λi d e hd=>by simp at hd)⟩
def ZJ1:DeskV newD:=ZEG (x:=newD) (show ShowV ([],[],[],0,())from ZEB ZaI ZaJ ZaK ⟨by omega,by omega⟩) (ZMq (by simp[newD,ZAP.ros]) ZaH) rfl
def runD(x:ZAP):List Str->ZAP
 | []=>x
 | w::ws=>runD (ZBG x w).1 ws
def runL(x:ZAP):List Str->List Str
 | []=>[]
 | w::ws=>(ZBG x w).2::runL (ZBG x w).1 ws
def ZNB: ∀(ws:List Str) (x:ZAP),(runL x ws).length=ws.length
 | [],_=>rfl
 | w::ws,x=>by simp only[runL,al_len_cons,ZNB ws]
def ZNC: ∀(ws:List Str) (x:ZAP) (w:Str),runD x (ws++[w])=(ZBG (runD x ws) w).1
 | [],_,_=>rfl
 | v::ws,x,w=>by simp only[List.cons_append,runD,ZNC ws]
def ZSr: ∀(ws:List Str) (x:ZAP) (w:Str),runL x (ws++[w])=runL x ws++[(ZBG (runD x ws) w).2]
 | [],_,_=>rfl
 | v::ws,x,w=>by simp only[List.cons_append,runD,runL,ZSr ws]
def ZSs: ∀(n:Nat) (ws:List Str) (x:ZAP),(runL x ws).take n=runL x (ws.take n)
 | 0,ws,x=>by simp[runL]
 | n+1,[],x=>by simp[runL]
 | n+1,w::ws,x=>by simp only[runL,List.take_succ_cons,ZSs n]
def ZJ2: ∀(ws:List Str) {x:ZAP},DeskV x->(∀w∈ws,w.length<=1048576)->DeskV (runD x ws)
 | [],_,h,_=>h
 | w::ws,x,h,hw=>ZJ2 ws (ZJ0 h (hw w (by simp))) λv hv=>hw v (by simp[hv])
def ZEH(s:Str):List Str:=if 4000<s.length then []else if 40<(splC 10 s).length then []else runL newD (splC 10 s)
def ZSt(s:Str)(hs:s.length<=1048576):G11 (s,())=some (ZEH s,()):=by
 unfold G11 F11 ZEH
 simp only[ZGd s 10 hs,al_bind_some]
 by_cases h1:4000<s.length
 ·rw[al_if_pos h1,ZAH (show Int.ofNat s.length>4000 by simp only[ZAT];omega)];rfl
 rw[al_if_neg h1,ZAE (show¬Int.ofNat s.length>4000 by simp only[ZAT];omega)]
 by_cases h2:40<(splC 10 s).length
 ·rw[al_if_pos h2,ZAH (show Int.ofNat (splC 10 s).length>40 by simp only[ZAT];omega)];rfl
 rw[al_if_neg h2,ZAE (show¬Int.ofNat (splC 10 s).length>40 by simp only[ZAT];omega)]
 have hw: ∀w∈splC 10 s,w.length<=1048576:=λw hw=>Nat.le_trans (ZD6 10 s w hw).2 hs
 generalize splC 10 s=ws at h2 hw
 simp only[ZAK,al_cond_true,al_cond_false]
 have e:G39 ()=some (newD,()):=rfl
 rw[e]
 simp only[al_bind_some]
 have run:=ZAU (f:=s11_0 G10 G39 G18) (K:=λx3=>some (x3.1,())) (λi=>(runL newD (ws.take i),runD newD (ws.take i),ws,Int.ofNat ws.length,(i:Int),())) ws.length (by omega)
  (by
   intro i hi rec K
   have hx:ws[i]?=some ws[i]:=by simp
   have w1:w64 ((i:Int)+1)=((i+1:Nat):Int):=ZAC
   have hv:=ZJ2 (ws.take i) ZJ1 λw h=>hw w (List.mem_of_mem_take h)
   have hl:=ZDZ hv.ok (hw ws[i] (by simp))
   have hlen:(runL newD (ws.take i)).length<=40:=by rw[ZNB,al_len_take];omega
   rw[ZBq ws i hi,ZSr,ZNC]
   simp only[s11_0,ZAF hx,hx,ZAW,w1,hl,al_bind_some]
   rw[ZA,ZAB (by simp only[al_len_cons,al_len_nil];omega)])
  (by
   intro rec K
   simp only[s11_0]
   rw[ZAA])
 rw[List.take_length]at run
 exact run
end Ev
end
noncomputable section
namespace Ev
open Go
def ZJ3{b:List Int}(hb:b.length<=1099511627776){i h:Int}(hi:0<=i):wp (G177 ((b,i,h,()),())) (CurP b λ_=>True):=by
 unfold G177 F177
 refine ZAN (ZH4 hb hi) λi1 h1 x1 p1 q1=> ?_
 refine ZAN (ZGk hb p1 (by omega)) λi2 h2 x2 p2 q2=> ?_
 refine wp_cond (λ_=> ?_) λ_=> ?_
 ·refine ZAN (ZM3 hb p2) λi3 h3 x3 p3 q3=> ?_
  refine ZAN (ZGk hb p3 (by omega)) λi4 h4 x4 p4 q4=> ?_
  refine wp_cond (λ_=> ?_) λ_=>wp_ret p4 trivial
  exact ZAN (ZFi hb p4 (by simp)) λi5 h5 x5 p5 q5=>wp_ret p5 trivial
 ·refine ZAN (ZGk hb p2 (by omega)) λi4 h4 x4 p4 q4=> ?_
  refine wp_cond (λ_=> ?_) λ_=>wp_ret p4 trivial
  exact ZAN (ZFi hb p4 (by simp)) λi5 h5 x5 p5 q5=>wp_ret p5 trivial
def ZaL{b:List Int}(hb:b.length<=1099511627776){i h:Int}(hi:0<=i):wp (G180 ((b,i,h,()),())) (CurP b λ_=>True):=by
 unfold G180 F180
 refine ZAN (ZSg hb hi) λi1 h1 x1 p1 q1=> ?_
 repeat' first
  | (with_reducible refine wp_cond (λ_=> ?_) (λ_=> ?_))
  | with_reducible exact wp_ret (by assumption) trivial
  | (with_reducible refine ZAN (ZBC (by assumption) (by assumption) (by omega)) ?_;intro i h v hi hv)
  | (with_reducible refine ZAN (ZM3 (by assumption) (by assumption)) ?_;intro i h v hi hv)
  | (with_reducible refine ZAN (ZJ3 (by assumption) (by assumption)) ?_;intro i h v hi hv)
  | (with_reducible refine ZAN (ZFi (by assumption) (by assumption) (by simp)) ?_;intro i h v hi hv)
def ZaM{b:List Int}(hb:b.length<=1099511627776){i h:Int}(hi:0<=i):wp (G86 ((b,i,h,()),())) (CurP b λd=>d.Name.length<=9/\d.Line.length<=9):=by
 unfold G86 F86
 refine ZAN (ZJx hb hi) λi1 h1 x1 p1 q1=> ?_
 refine ZAN (ZJx hb p1) λi2 h2 x2 p2 q2=> ?_
 refine ZAN (ZSh hb p2) λi3 h3 x3 p3 q3=> ?_
 have r1:x3.Name.length<=9:=by rw[q3.1];exact q1
 have r2:x3.Line.length<=9:=by rw[q3.2.2.1];exact q2
 repeat' first
  | (with_reducible refine wp_cond (λ_=> ?_) (λ_=> ?_))
  | (with_reducible refine ZAN (ZJx (by assumption) (by assumption)) ?_;intro i h v hi hv)
  | (with_reducible refine ZAN (ZZw (by assumption) (by assumption)) ?_;intro i h v hi hv)
  | (with_reducible refine ZAN (ZBC (by assumption) (by assumption) (by omega)) ?_;intro i h v hi hv)
  | (with_reducible refine ZAN (ZM3 (by assumption) (by assumption)) ?_;intro i h v hi hv)
  | (with_reducible refine ZAN (ZJ3 (by assumption) (by assumption)) ?_;intro i h v hi hv)
  | (with_reducible refine ZAN (ZaL (by assumption) (by assumption)) ?_;intro i h v hi hv)
  | (with_reducible refine ZAN (ZFi (by assumption) (by assumption) (by simp)) ?_;intro i h v hi hv)
  | exact wp_ret (by assumption) ⟨by first | assumption | exact Nat.zero_le _,by first | assumption | exact Nat.zero_le _⟩
def ZaN{b:List Int}(hb:b.length<=1099511627776){i h:Int}(hi:0<=i):wp (G183 ((b,i,h,()),())) (CurP b λ_=>True):=by
 unfold G183 F183
 refine ZAN (ZH4 hb hi) λi1 h1 x1 p1 q1=> ?_
 refine ZAN (ZBC hb p1 (by omega)) λi2 h2 x2 p2 q2=> ?_
 simp only[ZFM]
 refine ZAN (ZBC hb p2 (by omega)) λi3 h3 x3 p3 q3=> ?_
 refine ZAN (ZBC hb p3 (by omega)) λi4 h4 x4 p4 q4=> ?_
 refine ZCz (λ_=>ZAN (ZJ3 hb p4) λi5 h5 x5 p5 q5=>wp_ret p5 trivial) λ_=> ?_
 exact ZCz (λ_=>ZAN (ZJ3 hb p4) λi5 h5 x5 p5 q5=>wp_ret p5 trivial) λ_=>wp_ret p4 trivial
def ZaO{b:List Int}(hb:b.length<=1099511627776){i h:Int}(hi:0<=i):wp (G91 ((b,i,h,()),())) (CurP b λ_=>True):=by
 unfold G91 F91
 refine ZAN (ZBC hb hi (by omega)) λi1 h1 x1 p1 q1=> ?_
 refine ZAN (ZBC hb p1 (by omega)) λi2 h2 x2 p2 q2=> ?_
 refine ZAN (ZBC hb p2 (by omega)) λi3 h3 x3 p3 q3=> ?_
 refine ZAN (ZBC hb p3 (by omega)) λi4 h4 x4 p4 q4=> ?_
 refine ZAN (ZBC hb p4 (by omega)) λi5 h5 x5 p5 q5=> ?_
 refine ZCz (λ_=>ZAN (ZaN hb p5) λi6 h6 x6 p6 q6=>wp_ret p6 trivial) λ_=> ?_
 exact ZCz (λ_=>wp_ret p5 trivial) λ_=>wp_ret p5 trivial
def ZJ4(c:UInt8)(M:Nat): ∀ws:List Str,(∀w∈ws,w.length<=M)->(ZAl c ws).length<=ws.length*(M+1)
 | [],_=>by simp[ZAl]
 | [w],h=>by have:=h w (by simp);simp only[ZAl,al_len_cons,al_len_nil];omega
 | w::v::ws,h=>by
  have h1:=h w (by simp)
  have h2:=ZJ4 c M (v::ws) λx hx=>h x (by simp[hx])
  simp only[ZAl,al_len_append,al_len_cons]at h2⊢
  rw[Nat.add_mul (ws.length+1) 1 (M+1)]
  omega
def ZSu(d:Device):(ZBY d).length<=1000:=by
 unfold ZBY
 split
 ·rename_i hd
  have K:=ZC7 hd
  have hn:=ZBP K.nm
  have m1:=ZBg d.Most
  have m2:=ZBg d.Tilt
  have m3:=ZCI d.At
  have key:(ZB8 d).length<=12/\ ∀w∈ZB8 d,w.length<=60:=by
   unfold ZB8
   rcases K.k with ⟨k,_⟩ | ⟨k,hl,_,⟨n,e,hn3⟩,_⟩ | ⟨k,hl,_⟩
   ·rw[al_if_pos k]
    refine⟨by simp,λw hw=> ?_⟩
    simp only[List.mem_cons,List.not_mem_nil,or_false]at hw
    rcases hw with rfl | rfl | rfl | rfl<;>first | omega | decide
   ·rw[al_if_neg,al_if_pos k,e]
    have h3:=ZE hn3
    have h4:=ZBP hl
    refine⟨by simp,λw hw=> ?_⟩
    simp only[List.mem_cons,List.not_mem_nil,or_false]at hw
    rcases hw with rfl | rfl | rfl | rfl | rfl | rfl | rfl | rfl | rfl | rfl | rfl | rfl<;>first | omega | decide
   ·rw[al_if_neg,al_if_neg]
    have h4:=ZBP hl
    refine⟨by simp,λw hw=> ?_⟩
    simp only[List.mem_cons,List.not_mem_nil,or_false]at hw
    rcases hw with rfl | rfl | rfl | rfl | rfl | rfl<;>first | omega | decide
  have:=ZJ4 32 60 _ key.2
  have:=key.1
  omega
 ·simp
def ZaP(c:Cue):(ZBO c).length<=1000:=by
 unfold ZBO
 split
 ·rename_i hd
  obtain⟨⟨n,e,hn⟩,nm,l,⟨m,f,hm⟩⟩:=ZEp hd
  have h1:=ZBP nm
  have h2:=ZBg c.Level
  have h3:=ZE hn
  have h4:=ZE hm
  have key:(ZCU c).length<=5/\ ∀w∈ZCU c,w.length<=60:=by
   unfold ZCU
   rw[e,f]
   split
   ·refine⟨by simp,λw hw=> ?_⟩
    simp only[List.mem_cons,List.not_mem_nil,or_false]at hw
    rcases hw with rfl | rfl | rfl<;>omega
   ·refine⟨by simp,λw hw=> ?_⟩
    simp only[List.mem_cons,List.not_mem_nil,or_false]at hw
    rcases hw with rfl | rfl | rfl | rfl | rfl<;>first | omega | decide
  have:=ZJ4 32 60 _ key.2
  have:=key.1
  omega
 ·simp
def ZaQ(d:Device)(h1:d.Name.length<=9)(h2:d.Line.length<=9):wp (G77 (d,())) λr=>r.1.length<=1000:=⟨_,fdS d (by omega) (by omega),ZSu d⟩
def ZSv(c:Cue)(h1:c.Name.length<=9):wp (G80 (c,())) λr=>r.1.length<=1000:=⟨_,fcS c (by omega),ZaP c⟩
def ZaR(p:Place):wp (G88 (p,())) λr=>r.1.length<=60:=⟨_,fpS p,ZCI p⟩
def ZSw{n:Int}(h0:0<=n)(h1:n<=1000):wp (G78 (n,())) λr=>r.1.length<=20:=⟨_,numS (by omega) (by omega),ZCp (by omega) (by omega)⟩
def ZaS{b:List Int}(hb:b.length<=1099511627776){i h:Int}{l:List Str}(hi:0<=i)(h0:0<l.length)(hl:l.all (λx=>decide (x.length<=100))=true):wp (G90 ((b,i,h,()),l,())) (CurP b λx=>x.length<=100):=by
 refine ZPf (ZFj hb hi h0) ?_
 rintro r ⟨i',h',e,p,q⟩
 exact⟨i',h',e,p,by simpa using List.all_eq_true.mp hl _ q⟩
def ZaT{b:List Int}(hb:b.length<=1099511627776){i h:Int}(hi:0<=i):wp (G87 ((b,i,h,()),())) (CurP b λc=>c.Name.length<=9):=by
 refine ZPf (ZZ2 hb hi) ?_
 rintro r ⟨i',h',e,p,q⟩
 exact⟨i',h',e,p,q.2.1⟩
def ZSx{b:List Int}(hb:b.length<=1099511627776){i h:Int}(hi:0<=i):wp (G45 ((b,i,h,()),())) (CurP b λx=>x.length<=5000):=by
 unfold G45 F45
 refine ZAN (ZBC hb hi (by omega)) λi1 h1 x1 p1 q1=> ?_
 refine ZCn (ZSw (n:=x1) q1.1 (by omega)) λn hn=> ?_
 refine ZAN (ZBC hb p1 (by omega)) λi3 h3 x3 p3 q3=> ?_
 repeat' first
  | (with_reducible refine wp_cond (λ_=> ?_) (λ_=> ?_))
  | (with_reducible refine ZAN (ZaM (by assumption) (by assumption)) ?_;intro i h v hi hv)
  | (with_reducible refine ZAN (ZaT (by assumption) (by assumption)) ?_;intro i h v hi hv)
  | (with_reducible refine ZAN (ZZx (by assumption) (by assumption)) ?_;intro i h v hi hv)
  | (with_reducible refine ZAN (ZH4 (by assumption) (by assumption)) ?_;intro i h v hi hv)
  | (with_reducible refine ZAN (ZaO (by assumption) (by assumption)) ?_;intro i h v hi hv)
  | (with_reducible refine ZAN (ZJx (by assumption) (by assumption)) ?_;intro i h v hi hv)
  | (with_reducible refine ZAN (ZM6 (by assumption) (by assumption)) ?_;intro i h v hi hv)
  | (with_reducible refine ZAN (ZaS (by assumption) (by assumption) (by decide) (by decide)) ?_;intro i h v hi hv)
  | (with_reducible refine ZCn (ZaQ _ hv.1 hv.2) ?_;intro r hr)
  | (with_reducible refine ZCn (ZSv _ hv) ?_;intro r hr)
  | (with_reducible refine ZCn (ZaR _) ?_;intro r hr)
  | (with_reducible refine ZCR (by simp only[al_len_append,al_len_cons,al_len_nil];omega) ?_)
  | exact wp_ret (by assumption) (by first | omega | (simp only[al_len_append,al_len_cons,al_len_nil];omega))
  | dsimp only
def Lns(n:Nat)(ws:List Str):Prop:=ws.length<=n/\ ∀w∈ws,w.length<=5000
def ZEI{n m:Nat}{ws:List Str}(h:Lns n ws)(k:n<=m):Lns m ws:=⟨Nat.le_trans h.1 k,h.2⟩
def ZH7{n m:Nat}{ws:List Str}{w:Str}(h:Lns n ws)(hw:w.length<=5000)(k:n+1<=m):Lns m (ws++[w]):=by
 have:=h.1
 refine⟨by simp;omega,λx hx=> ?_⟩
 rcases List.mem_append.mp hx with hx | hx
 ·exact h.2 x hx
 ·rw[List.mem_singleton]at hx;rw[hx];exact hw
def ZSy{b:List Int}(hb:b.length<=1099511627776){i h most:Int}(hi:0<=i)(hm:0<=most/\most<=20):wp (G34 ((b,i,h,()),most,())) (CurP b (Lns 200)):=by
 unfold G34 F34
 refine ZAN (ZZ1 hb hi) λi1 h1 l p1 q1=> ?_
 have hl:=q1.1.len
 have hd:=ZEs q1.1
 refine ZFI 3 (λj t=> ∃(k:Nat) (ws:List Str),t=((b,i1,h1,()),most,ws,l,(k:Int),())/\k+j=4/\1<=k/\Lns (8*(k-1)) ws)
  (λt=> ∃(k:Nat) (ws:List Str),t=((b,i1,h1,()),most,ws,l,(k:Int),())/\Lns 24 ws) (by omega) ⟨1,[],rfl,by omega,by omega,⟨by simp,by simp⟩⟩ ?_ ?_
 ·rintro j _ ⟨k,ws,rfl,hkj,hk1,hL⟩ rec K hrec hK
  simp only[s34_0]
  refine ZCz (λhc=> ?_) λhc=>hK _ ⟨k,ws,rfl,ZEI hL (by omega)⟩
  have hc:(k:Int)<=3:=hc
  refine ZFI l.length (λj t=> ∃(m:Nat) (ws:List Str),t=((b,i1,h1,()),most,ws,l,(k:Int),(),Int.ofNat l.length,(m:Int),())/\m+j=l.length/\Lns (8*(k-1)+m) ws)
   (λt=> ∃(m:Nat) (ws:List Str),t=((b,i1,h1,()),most,ws,l,(k:Int),(),Int.ofNat l.length,(m:Int),())/\Lns (8*k) ws) (by omega) ⟨0,ws,rfl,by omega,hL⟩ ?_ ?_
  ·rintro j' _ ⟨m,ws,rfl,hmj,hL⟩ rec' K' hrec' hK'
   simp only[s34_2]
   by_cases hml:m<l.length
   ·have hx:l[m]?=some l[m]:=by simp
    have e1:w64 ((m:Int)+1)=((m+1:Nat):Int):=ZAC
    have hn:=hd l[m] (by simp)
    rw[ZA,ZAF hx]
    simp only[hx,ZAW,al_bind_some,e1]
    refine wp_cond (λ_=> ?_) λ_=>hrec' (j'-1) _ (by omega) ⟨m+1,ws,rfl,by omega,ZEI hL (by omega)⟩
    rw[fdS l[m] hn.1 hn.2,al_bind_some]
    have ht:=ZSu l[m]
    have hw:=hL.1
    exact ZCR (by simp only[al_len_cons,al_len_nil];omega) (ZCR (by simp only[al_len_cons,al_len_nil];omega)
     (hrec' (j'-1) _ (by omega) ⟨m+1,_,rfl,by omega,ZH7 hL (by simp only[al_len_append,al_len_cons,al_len_nil];omega) (by omega)⟩))
   ·rw[ZAA]
    exact hK' _ ⟨m,ws,rfl,ZEI hL (by omega)⟩
  ·rintro _ ⟨m,ws,rfl,hL⟩
   have e1:w64 ((k:Int)+1)=((k+1:Nat):Int):=ZAC
   simp only[e1]
   exact hrec (j-1) _ (by omega) ⟨k+1,ws,rfl,by omega,by omega,ZEI hL (by omega)⟩
 ·rintro _ ⟨k,ws,rfl,hL⟩
  simp only
  refine ZAN (ZBC hb p1 (by omega)) λi2 h2 x2 p2 q2=> ?_
  refine ZCn (ZSw (n:=x2) q2.1 (by omega)) λn hn=> ?_
  have hw:=hL.1
  refine ZCR (by simp only[al_len_cons,al_len_nil];omega) (ZCR (by simp only[al_len_cons,al_len_nil];omega) ?_)
  have hL:Lns 25 (ws++[[116,105,99,107,115,32]++n.1]):=ZH7 hL (by simp only[al_len_append,al_len_cons,al_len_nil];omega) (by omega)
  generalize ws++[[116,105,99,107,115,32]++n.1]=ws at hL
  refine ZAN (ZBC hb p2 (by omega)) λi3 h3 x3 p3 q3=> ?_
  refine ZFI x3.toNat (λj t=> ∃(i h:Int) (ws:List Str),t=((b,i,h,()),most,ws,(j:Int),())/\0<=i/\j<=3/\Lns (28-j) ws)
   (λt=> ∃(i h:Int) (ws:List Str) (n:Int),t=((b,i,h,()),most,ws,n,())/\0<=i/\Lns 28 ws) (by omega) ⟨i3,h3,ws,by rw[Int.toNat_of_nonneg q3.1],p3,by omega,ZEI hL (by omega)⟩ ?_ ?_
  ·rintro j _ ⟨i,h,ws,rfl,hi,hj,hL⟩ rec K hrec hK
   simp only[s34_4]
   refine ZCz (λhc=> ?_) λhc=>hK _ ⟨i,h,ws,_,rfl,hi,ZEI hL (by omega)⟩
   have hc:(j:Int)>0:=hc
   have e1:w64 ((j:Int) -1)=((j-1:Nat):Int):=by rw[ZAC];omega
   simp only[e1]
   refine ZAN (ZBC hb hi (by omega)) λi4 h4 x4 p4 q4=> ?_
   refine ZAN (ZM6 hb p4) λi5 h5 x5 p5 q5=> ?_
   refine ZAN (ZBC hb p5 (by omega)) λi6 h6 x6 p6 q6=> ?_
   refine ZAN (ZBC hb p6 (by omega)) λi7 h7 x7 p7 q7=> ?_
   refine ZCn (ZSv _ q5) λr hr=> ?_
   have hw:=hL.1
   exact ZCR (by simp only[al_len_cons,al_len_nil];omega) (ZCR (by simp only[al_len_cons,al_len_nil];omega)
    (hrec (j-1) _ (by omega) ⟨i7,h7,_,rfl,p7,by omega,ZH7 hL (by simp only[al_len_append,al_len_cons,al_len_nil];omega) (by omega)⟩))
  ·rintro _ ⟨i,h,ws,n,rfl,hi,hL⟩
   have e1:w64 (most+1)=most+1:=ZAC
   simp only[e1]
   refine ZAN (ZBC hb hi (by omega)) λi4 h4 x4 p4 q4=> ?_
   refine ZFI x4.toNat (λj t=> ∃(i h:Int) (ws:List Str),t=((b,i,h,()),ws,(j:Int),())/\0<=i/\j<=20/\Lns (48-j) ws)
    (λt=> ∃(i h:Int) (ws:List Str) (n:Int),t=((b,i,h,()),ws,n,())/\0<=i/\Lns 48 ws) (by omega) ⟨i4,h4,ws,by rw[Int.toNat_of_nonneg q4.1],p4,by omega,ZEI hL (by omega)⟩ ?_ ?_
   ·rintro j _ ⟨i,h,ws,rfl,hi,hj,hL⟩ rec K hrec hK
    simp only[s34_6]
    refine ZCz (λhc=> ?_) λhc=>hK _ ⟨i,h,ws,_,rfl,hi,ZEI hL (by omega)⟩
    have hc:(j:Int)>0:=hc
    have e1:w64 ((j:Int) -1)=((j-1:Nat):Int):=by rw[ZAC];omega
    simp only[e1]
    refine ZAN (ZSx hb hi) λi5 h5 x5 p5 q5=> ?_
    have hw:=hL.1
    exact ZCR (by simp only[al_len_cons,al_len_nil];omega) (hrec (j-1) _ (by omega) ⟨i5,h5,_,rfl,p5,by omega,ZH7 hL q5 (by omega)⟩)
   ·rintro _ ⟨i,h,ws,n,rfl,hi,hL⟩
    exact wp_ret hi (ZEI hL (by omega))
end Ev
end
noncomputable section
namespace Ev
open Go
def ZSz{ws:List Str}(h:Lns 200 ws):wp (G37 (ws,[10],())) λr=>r.1.length<=1000200:=by
 have h1:=h.1
 have:=ZJ4 10 5000 ws h.2
 refine⟨_,ZR4 ws [10] 5000 h.2 (by simp only[al_len_cons,al_len_nil];omega) (by omega),?_⟩
 rw[ZME]
 show(ZAl 10 ws).length<=1000200
 omega
def nl_w{b:List Int}(hb:b.length<=1099511627776){i h:Int}{s:Str}(hi:0<=i)(hs:s.length<=1000200):wp ((G35 ((b,i,h,()),5,())).bind λx=>cond x.2.1 (capK (List.length s+List.length ([10]:Str)) (some ((s++[10]),()))) (some (s,()))) λr=>r.1.length<=1048576:=by
 refine ZAN (ZGk hb hi (by omega)) λi2 h2 x2 p2 q2=> ?_
 refine wp_cond (λ_=> ?_) λ_=>⟨_,rfl,by show s.length<=1048576;omega⟩
 exact ZCR (by simp only[al_len_cons,al_len_nil];omega) ⟨_,rfl,by simp only[al_len_append,al_len_cons,al_len_nil];omega⟩
def ZaU{b:List Int}(hb:b.length<=4096):wp (G9 (b,())) λr=>r.1.length<=1048576:=by
 have hb':b.length<=1099511627776:=by omega
 unfold G9 F9
 refine ZCn (ZSk hb) ?_
 rintro _ ⟨h,rfl⟩
 refine ZAN (ZSy hb' (Int.le_refl 0) (by omega)) λi1 h1 ws p1 q1=> ?_
 refine ZAN (ZGk hb' p1 (by omega)) λi2 h2 x2 p2 q2=> ?_
 refine wp_cond (λ_=> ?_) λ_=> ?_
 ·refine ZFI (41-ws.length) (λj t=> ∃ws:List Str,t=((b,i2,h2,()),ws,())/\41-ws.length=j/\Lns 200 ws)
   (λt=> ∃ws:List Str,t=((b,i2,h2,()),ws,())/\41<=ws.length/\Lns 200 ws) (by omega) ⟨ws,rfl,rfl,q1⟩ ?_ ?_
  ·rintro j _ ⟨ws,rfl,hj,hL⟩ rec K hrec hK
   simp only[s9_0]
   have hw:=hL.1
   by_cases hc:ws.length<41
   ·rw[ZA]
    exact ZCR (by simp only[al_len_cons,al_len_nil];omega) (hrec (j-1) _ (by omega) ⟨_,rfl,by simp only[al_len_append,al_len_cons,al_len_nil];omega,
     ⟨by simp only[al_len_append,al_len_cons,al_len_nil];omega,(ZH7 hL (by decide) (Nat.le_refl _)).2⟩⟩)
   ·rw[ZAA]
    exact hK _ ⟨ws,rfl,by omega,hL⟩
  ·rintro _ ⟨ws,rfl,h41,hL⟩
   simp only
   refine ZAN (ZFi hb' p2 (by simp)) λi3 h3 x3 p3 q3=> ?_
   have hx:x3=40\/x3=41:=by simpa using q3
   refine ZLS ⟨by show(0:Int)<=x3;omega,by show x3<=(ws.length:Int);omega⟩ ?_
   refine ZCn (ZSz (ws:=List.drop 0 (List.take (Int.toNat x3) ws)) ⟨?_,λw hw=>hL.2 w (List.mem_of_mem_take (List.mem_of_mem_drop hw))⟩) λr hr=>nl_w hb' p3 hr
   have:=hL.1
   rw[List.drop_zero,al_len_take];omega
 ·exact ZCn (ZSz q1) λr hr=>nl_w hb' p2 hr
def ZND(c:UInt8): ∀(ws:List Str) (n:Nat),(ZAl c (ws.take n)).length<=(ZAl c ws).length
 | [],n=>by simp
 | w::ws,0=>by simp[ZAl]
 | [w],n+1=>by simp
 | w::v::ws,1=>by simp[ZAl]
 | w::v::ws,n+2=>by
  have:=ZND c (v::ws) (n+1)
  simp only[List.take_succ_cons,ZAl,al_len_append,al_len_cons]at this⊢
  omega
def ZaV:ZEH []=[[]]:=by
 unfold ZEH
 rw[al_if_neg (by simp),show splC 10 ([]:Str)=[[]]from rfl,al_if_neg (by simp)]
 unfold runL runL ZBG
 rw[ZDp ZJ1,al_if_pos rfl]
def ZaW(s:Str):(ZEH s=[]/\(4000<s.length\/40<(splC 10 s).length))\/(s.length<=4000/\(splC 10 s).length<=40/\ZEH s=runL newD (splC 10 s)):=by
 unfold ZEH
 by_cases h1:4000<s.length
 ·rw[al_if_pos h1];exact .inl ⟨rfl,.inl h1⟩
 ·rw[al_if_neg h1]
  by_cases h2:40<(splC 10 s).length
  ·rw[al_if_pos h2];exact .inl ⟨rfl,.inr h2⟩
  ·rw[al_if_neg h2];exact .inr ⟨by omega,by omega,rfl⟩
def ZaX{s:Str}(h1:s.length<=4000)(h2:(splC 10 s).length<=40){n:Nat}(h0:0<n)(hn:n<=(splC 10 s).length):ZEH (ZAl 10 ((splC 10 s).take n))=(runL newD (splC 10 s)).take n:=by
 have hl:=ZND 10 (splC 10 s) n
 rw[ZMF]at hl
 have hne:(splC 10 s).take n≠[]:=λe=>by
  have h:=congrArg List.length e
  rw[al_len_take,al_len_nil]at h
  omega
 have hsp:splC 10 (ZAl 10 ((splC 10 s).take n))=(splC 10 s).take n:=ZJT hne λw hw=>(ZD6 10 s w (List.mem_of_mem_take hw)).1
 unfold ZEH
 rw[al_if_neg,hsp,al_if_neg (by rw[al_len_take];omega),ZSs]
def Zav(b:List Int)(hw:(∀d∈b,Wf .u8 d)/\b.length<=maxLen):G3 (b,())=some (true,()):=by
 unfold G3 F3 G8 F8
 simp only[al_bind_some]
 by_cases hb:b.length<=4096
 ·rw[ZAA]
  obtain⟨⟨s,u⟩,e,hs⟩:=ZaU hb
  have hs:s.length<=1048576:=hs
  rw[e]
  simp only[al_bind_some,ZGd s 10 hs,ZSt s hs]
  have hW:=List.length_pos_iff.mpr (ZCJ 10 s)
  rcases ZaW s with ⟨ht,hc⟩ | ⟨h1,h2,ht⟩
  ·rw[ht,ZAE (show¬Int.ofNat ([]:List Str).length=Int.ofNat (splC 10 s).length by simp only[al_len_nil,ZAT];omega)]
   simp only[ZAK,al_cond_true,al_len_nil]
   rw[ZA (by rfl)]
   by_cases h3:40<(splC 10 s).length
   ·rw[ZAH (show Int.ofNat (splC 10 s).length>40 by simp only[ZAT];omega)];rfl
   ·rw[ZAE (show¬Int.ofNat (splC 10 s).length>40 by simp only[ZAT];omega),ZAH (show Int.ofNat s.length>4000 by simp only[ZAT];omega)];rfl
  ·rw[ht]
   have hlen:(runL newD (splC 10 s)).length=(splC 10 s).length:=ZNB _ _
   have hf:=λn h0 hn=>ZaX (n:=n) h1 h2 h0 hn
   have hM: ∀w∈splC 10 s,w.length<=4000:=λw hw=>Nat.le_trans (ZD6 10 s w hw).2 h1
   have hJ:=λn=>ZND 10 (splC 10 s) n
   rw[ZMF]at hJ
   generalize hR:runL newD (splC 10 s)=R at hlen hf⊢
   generalize splC 10 s=W at h2 hW hlen hf hM hJ
   have ew:w64 (Int.tdiv (Int.ofNat W.length) 2)=((W.length/2:Nat):Int):=by
    rw[Int.tdiv_eq_ediv_of_nonneg (by simp),ZAC (by simp only[ZAT];omega) (by simp only[ZAT];omega)]
    simp only[ZAT];omega
   rw[ZAH (show Int.ofNat R.length=Int.ofNat W.length by rw[hlen])]
   simp only[ZAG,al_cond_false,ew,ZAW,List.drop_zero]
   rw[ZBT ⟨by omega,by omega⟩]
   have hn:W.length/2<=W.length:=by omega
   generalize W.length/2=n at hn ew
   have ej:G12 (W.take n,[10],())=some (ZAl 10 (W.take n),()):=by
    rw[<-ZME]
    exact ZR3 _ [10] 4000 (λw hw=>hM w (List.mem_of_mem_take hw)) (by rw[al_len_take];simp only[al_len_cons,al_len_nil];omega) (by rw[al_len_take];omega)
   have hjl:(ZAl 10 (W.take n)).length<=1048576:=Nat.le_trans (hJ n) (by omega)
   simp only[ej,al_bind_some,ZSt _ hjl]
   by_cases h0:n=0
   ·subst h0
    rw[ZA (by rfl),show ZAl 10 (W.take 0)=[]from rfl,ZaV]
    rfl
   ·rw[ZAA,hf n (by omega) hn]
    have hl:(R.take n).length=n:=by rw[al_len_take];omega
    rw[hl,ZAH (show Int.ofNat n=(n:Int)from rfl)]
    simp only[ZAG,al_cond_false]
    refine(ZAU (f:=s3_0 G8 G9 G10 G11 G12) (K:=λ_=>some (true,())) (λi=>(R,(n:Int),R.take n,(i:Int),())) n (by omega) ?_ ?_).trans rfl
    ·intro i hi rec K
     have hx:R[i]?=some R[i]:=by simp
     have hy:(R.take n)[i]?=some R[i]:=by rw[List.getElem?_take_of_lt hi];simp
     have e1:w64 ((i:Int)+1)=((i+1:Nat):Int):=ZAC
     simp only[s3_0]
     rw[ZA,ZAF hx]
     simp only[hx,ZAW,al_bind_some,e1]
     rw[ZAF hy]
     simp only[hy,al_bind_some,decide_true,ZAG,al_cond_false]
    ·intro rec K
     simp only[s3_0]
     rw[ZAA]
 ·rw[ZA]
end Ev
end
noncomputable section
namespace Go.Proofs
open Go.Shelf Go.Lib
def Zaw{H:Type}{enc:TypeId×Value->H}{a:Assume}{C:Checked}{os:Os}{f:FuncId}{fn:Func}{s:ChangeSpec}{conds:List PathCond}{apart fresh handsOn again:Bool}{X:World->Array Value->Prop}
  (hX: ∀(w w':World) (args:Array Value),w.heap=w'.heap->X w args->X w' args)
  (own:ownKnob C.prog.godebug=none) (started:os.Started) (noInit:C.prog.inits.idxOf? f=none) (hfn:C.prog.funcs[f]?=some fn)
  (witness: ∃(w:World) (tape:Tape) (i:Input),w.os=os/\(w.forCall tape i).Shaped C.prog/\i.vars=[]/\Input.okWide C.prog (w.forCall tape i) .any w.heap.size f i/\
   ((s.pre enc C.prog fn conds apart (w.forCall tape i).memory i.args/\X (w.forCall tape i).memory i.args)/\sizedMet enc C.prog fn (OpenSpec.ofChange s) apart (w.forCall tape i).memory i.args)/\a.holds C.prog (lone (Frame.enter C.prog f i.args .normal) [] (w.forCall tape i)))
  (contract: ∀(W:World) (base:Nat) (args:Array Value) (ds gs:List (DataW H)) (before:List MemPlace),
   (∀(j:Nat) t v,fn.params[j]?=some t->args[j]?=some v->Value.okWide C.prog W .any base t v)->
   DataW.Whole enc C.prog fn.params.toList s.vars apart W args.toList ds gs before->
   conds.all (PathCond.test C.prog ⟨fn.params.toList,ds,s.plain.varTypes C.prog,gs⟩)=true->
   (DataW.weightsEach C.prog (fn.params.toList++s.plain.varTypes C.prog) (ds++gs)).all (· <=reachBytes)=true->X W args->W.ShapedOpen C.prog->
   a.holds C.prog (lone (Frame.enter C.prog f args .normal) [] W)->
   Calls C.prog f args W λe W'=> ∃v,e= .returned v/\s.post enc C.prog fn apart fresh handsOn again W args v W'):
  ReturnsInHanded a C os f .any (λw args=>(s.pre enc C.prog fn conds apart w args/\X w args)/\sizedMet enc C.prog fn (OpenSpec.ofChange s) apart w args) (s.post enc C.prog fn apart fresh handsOn again):=by
 refine returnsInHanded_of_calls own started noInit witness ?_
 intro w tape i _ hsh _ hok hpre hholds
 obtain⟨_,_,_,fn',hfn',_,_,_,_,hval⟩:=hok
 have e:fn'=fn:=Option.some.inj (hfn'.symm.trans hfn)
 subst e
 obtain⟨⟨⟨ds,gs,before,hw,hc⟩,hx⟩,hz⟩:=hpre
 have hw':=DataW.Whole.of_heap (w':=w.forCall tape i) (by rfl) hw
 refine(contract (w.forCall tape i) w.heap.size i.args ds gs before hval hw' hc (hz.weights hw) (hX _ _ _ (by rfl) hx) hsh hholds).mono λe W' ⟨v,he,hp⟩=> ?_
 subst he
 exact ChangeSpec.post_blind hp
def ZaY:U8Types Tryz.prog Tryz.lays271_ren:=⟨by kernel_rfl,by kernel_rfl,by kernel_rfl,by kernel_rfl⟩
def ZaZ:U8Extra Tryz.prog Tryz.lays271_ren:=⟨by kernel_rfl,by kernel_rfl,by kernel_rfl,by kernel_rfl,by kernel_rfl,by kernel_rfl,by kernel_rfl⟩
def ZGm{w:World}{g i:Nat}{v:Value}(h:w.cell? ⟨g,i,none⟩=some v): ∃cs e r,w.heap[g]?=some (.cells cs e r)/\cs[i]?=some v:=by
 unfold World.cell? at h
 split at h
 ·rename_i cs e r hc
  exact⟨cs,e,r,hc,by simpa using h⟩
 ·cases h
def ZJ5{w:World}{g:Nat}{o:Obj}(h:w.heap[g]?=some o):g<w.heap.size:=by
 rcases Nat.lt_or_ge g w.heap.size with q | q
 ·exact q
 ·rw[Array.getElem?_eq_none q]at h;cases h
abbrev ZFl:List (String×DataW Unit):=[("math/bits.deBruijn32tab",YtoafhcjocdjkjaaGreatDoor.Rows.laid_math_bits_deBruijn32tab),("math/bits.deBruijn64tab",YtoafhcjocdjkjaaGreatDoor.Rows.laid_math_bits_deBruijn64tab),("internal/strconv.uint64pow10",YtoafhcjocdjkjaaGreatDoor.Rows.laid_internal_strconv_uint64pow10),("unicode/utf8.acceptRanges",YtoafhcjocdjkjaaGreatDoor.Rows.laid_unicode_utf8_acceptRanges),("unicode/utf8.first",YtoafhcjocdjkjaaGreatDoor.Rows.laid_unicode_utf8_first)]
def Zax{W:World}(hL:laidMet Tryz.prog ZFl W)(hS:W.ShapedOpen Tryz.prog):Ev.Glob (λb=>b<W.heap.size) W:=by
 have a1:("unicode/utf8.first",Lib.firstData)∈ZFl:=by
  rw[show(Lib.firstData:DataW Unit)=YtoafhcjocdjkjaaGreatDoor.Rows.laid_unicode_utf8_first from by kernel_rfl];simp[ZFl]
 have a2:("unicode/utf8.acceptRanges",Lib.acceptData)∈ZFl:=by
  rw[show(Lib.acceptData:DataW Unit)=YtoafhcjocdjkjaaGreatDoor.Rows.laid_unicode_utf8_acceptRanges from by kernel_rfl];simp[ZFl]
 have a3:("internal/strconv.uint64pow10",Lib.tabData .u64 Lib.pow10Tab)∈ZFl:=by
  rw[show(Lib.tabData .u64 Lib.pow10Tab:DataW Unit)=YtoafhcjocdjkjaaGreatDoor.Rows.laid_internal_strconv_uint64pow10 from by kernel_rfl];simp[ZFl]
 have hU:Lib.Utf8Tabs 1 2 W:=utf8Tabs_of_readsT ZaY ZaZ (Lib.laidMet.reads hL a1) (Lib.laidMet.reads hL a2)
 have h0:((begin Tryz.prog (λ_ _=>0) default).world.heap[0]?).bind Obj.row?=some (#[Value.int .i64 0],3):=by kernel_rfl
 obtain⟨cs0,hh0,hs0,_⟩:=hS.1 0 _ 3 (of_decide_eq_true (by kernel_rfl)) h0
 obtain⟨m,hm⟩:=cell_of_shapedOpen_int hS (of_decide_eq_true (by kernel_rfl)) h0 rfl (by kernel_rfl) (by kernel_rfl) (show Tryz.prog.underlying 3=some (.int .i64)by kernel_rfl)
 intro x hx
 simp only[Ev.GP,List.mem_cons,List.not_mem_nil,or_false]at hx
 rcases hx with rfl | rfl | rfl | rfl
 ·obtain⟨cs,e,r,hc,h2⟩:=ZGm hm
  rw[hh0]at hc;cases hc
  refine⟨ZJ5 hh0,cs0,_,_,hh0,m,?_⟩
  have hsz:cs0.size=1:=hs0
  apply Array.ext_getElem?
  intro i
  match i with
  | 0=>rw[h2];rfl
  | i+1=>rw[Array.getElem?_eq_none (by omega),Array.getElem?_eq_none (by simp)]
 ·obtain⟨cs,e,r,hc,_⟩:=ZGm (hU.1 0 (by omega))
  refine⟨ZJ5 hc,cs,e,r,hc,λc hlt=> ?_⟩
  obtain⟨cs',e',r',hc',h2⟩:=ZGm (hU.1 c hlt)
  rw[hc]at hc';cases hc';exact h2
 ·obtain⟨cs,e,r,hc,_⟩:=ZGm (hU.2 0 (by omega)).1
  refine⟨ZJ5 hc,cs,e,r,hc,λi hlt=> ?_⟩
  obtain⟨cs',e',r',hc',h2⟩:=ZGm (hU.2 i hlt).1
  obtain⟨cs'',e'',r'',hc'',h3⟩:=ZGm (hU.2 i hlt).2
  rw[hc]at hc' hc'';cases hc';cases hc'';exact⟨h2,h3⟩
 ·obtain⟨g,t,cs,fuel,p,hg,hty,hvar,hd⟩:=Lib.laidMet.reads hL a3
  have hg3:Tryz.prog.globalNamed "internal/strconv.uint64pow10" =some 3:=by kernel_rfl
  obtain rfl:=Option.some.inj (hg3.symm.trans hg)
  obtain rfl:=Option.some.inj ((show(Tryz.prog.globals[3]?).map (·.type)=some 322 by kernel_rfl).symm.trans hty)
  have hcs:=cells_of_tab Tryz.underlying322 (show Tryz.prog.underlying 304=some (.int .u64)by kernel_rfl) (by kernel_rfl) (by kernel_rfl) hd
  unfold World.var? at hvar
  rw[hg3,Option.bind_some]at hvar
  split at hvar
  ·rename_i cs' e r hc
   cases hvar
   refine⟨ZJ5 hc,cs,e,r,hc,?_⟩
   rw[<-hcs]
  ·cases hvar
end Go.Proofs
end
noncomputable section
namespace Ev
open Go
def Zaa{b:List Int}(hb:b.length<=1099511627776){i h:Int}(hi:0<=i):wp (G44 ((b,i,h,()),())) (CurP b DeskV):=by
 unfold G44 F44
 have e:G42 ()=some (newD,()):=rfl
 rw[e,al_bind_some]
 refine ZAN (ZSy hb hi (by omega)) λi1 h1 ws p1 q1=> ?_
 have hw: ∀w∈ws,w.length<=1048576:=λw h=>Nat.le_trans (q1.2 w h) (by omega)
 have hl:=q1.1
 refine⟨((b,i1,h1,()),runD newD ws,()),?_,i1,h1,rfl,p1,ZJ2 ws ZJ1 hw⟩
 have run:=ZAU (f:=s44_0 G42 G34 G28) (K:=λx3=>some (x3.1,x3.2.2.1,())) (λi=>((b,i1,h1,()),([],[],[],0,[],0,0,0,0,()),runD newD (ws.take i),ws,Int.ofNat ws.length,(i:Int),())) ws.length (by omega)
  (by
   intro i hi rec K
   have hx:ws[i]?=some ws[i]:=by simp
   have w1:w64 ((i:Int)+1)=((i+1:Nat):Int):=ZAC
   have hv:=ZJ2 (ws.take i) ZJ1 λw h=>hw w (List.mem_of_mem_take h)
   have hl:=ZaG hv.ok (hw ws[i] (by simp))
   rw[ZBq ws i hi,ZNC]
   simp only[s44_0,ZAF hx,hx,ZAW,w1,hl,al_bind_some]
   rw[ZA])
  (by
   intro rec K
   simp only[s44_0]
   rw[ZAA])
 rw[List.take_length]at run
 exact run
def ZS0{b:List Int}(hb:b.length<=4096):wp (G17 (b,())) λr=>DeskV r.1/\r.2.1.length<=1048576:=by
 have hb':b.length<=1099511627776:=by omega
 unfold G17 F17
 refine ZCn (ZSk hb) ?_
 rintro _ ⟨h,rfl⟩
 refine ZAN (Zaa hb' (Int.le_refl 0)) λi1 h1 x p1 q1=> ?_
 refine ZAN (ZSx hb' p1) λi2 h2 w p2 q2=> ?_
 exact⟨_,rfl,q1,by show w.length<=1048576;omega⟩
def ZS1{x:ZAP}(h:DeskV x){c:UInt8}{l:Str}(hc: ¬c.toNat=35):ZBG x (c::l)=ZBd x (c::l):=by
 unfold ZBG
 rw[ZDp h,al_if_pos rfl]
 show(if c.toNat=35 then(x,[])else ZBd x (c::l))=_
 rw[al_if_neg hc]
def ZJ6{x:ZAP}(h:DeskV x){c:UInt8}{l:Str}(hc: ¬c.toNat=35)(hf: ∀d∈c::l,d≠32):ZBG x (c::l)=oneR x (c::l):=by
 rw[ZS1 h hc,ZJt x hf]
def ZS2{x:ZAP}(h:DeskV x){c:UInt8}{p r:Str}(hc: ¬c.toNat=35)(hf: ∀d∈c::p,d≠32)(hp:c::p∈ZBu)(hr: ∀d∈r,d≠32){n:Int}(hn:numP r=(n,true)):ZBG x (c::p++32::r)=ZBi x (c::p) n:=by
 rw[show c::p++32::r=c::(p++32::r)from rfl,ZS1 h hc,show c::(p++32::r)=(c::p)++32::r from rfl,ZJu x hf]
 generalize c::p=q at hp
 simp only[ZBu,List.mem_cons,List.not_mem_nil,or_false]at hp
 unfold ZA0
 rcases hp with rfl | rfl | rfl | rfl | rfl<;>
  rw[al_if_neg,al_if_neg,al_if_neg,al_if_neg,al_if_neg,al_if_pos,ZGS hr,hn,al_if_pos ⟨rfl,rfl⟩]
def ZNE{x:ZAP}(h:DeskV x):ZBG x [115,97,102,101]=(x,ZCV x.shw x.ros (rosB x.ros) x.bas):=by
 rw[ZJ6 h (by decide) (by decide)]
 unfold oneR
 rw[al_if_neg,al_if_neg,al_if_neg,al_if_pos]
def Zab{x:ZAP}(h:DeskV x):ZBG x [100,114,111,112,115,32,51]=(x,ZBt ((nowL x.shw 3).map (ZBQ true))):=by
 rw[show([100,114,111,112,115,32,51]:Str)=100::[114,111,112,115]++32::[51]from rfl,ZS2 h (by decide) (by decide) (by decide) (by decide) (n:=3) (by rfl)]
 unfold ZBi
 rw[al_if_neg,al_if_neg,al_if_neg,al_if_pos]
def Zac(s:ZAM)(r:List Place)(b:Bool)(c:Box):ZCV s r b c≠[119,104,97,116]:=by
 unfold ZCV
 split
 ·cases wwL s r c with
  | none=>exact(by decide:ZRk≠[119,104,97,116])
  | some a=>show wetT r a≠_;unfold wetT;simp
 ·exact(by decide:noT≠[119,104,97,116])
def Zad{l:List Str}(h: ∀w∈l,(32:UInt8)∈w):ZBt l≠[119,104,97,116]:=by
 unfold ZBt
 split
 ·exact(by decide:ZJn≠[119,104,97,116])
 ·cases l with
  | nil=>contradiction
  | cons w ws=>
   intro e
   have:(32:UInt8)∈Go.Lib.join (w::ws) [59,32]:=by
    rw[Go.Lib.join_cons]
    exact List.mem_append.mpr (.inl (h w (by simp)))
   rw[e]at this
   simp at this
def ZS3(l:List Gust)(hl:l.length<=1048576):G24 (l,l,())=some (true,()):=by
 unfold G24 F24
 simp only[decide_true,ZAG,al_cond_false]
 refine(ZAU (f:=s24_0) (K:=λt4=>some (true,())) (λi=>(l,l,(i:Int),())) l.length (by omega) ?_ ?_).trans rfl
 ·intro i hi rec K
  have hx:l[i]?=some l[i]:=by simp
  have e1:w64 ((i:Int)+1)=((i+1:Nat):Int):=ZAC
  simp only[s24_0]
  rw[ZA,ZAF hx,ZAF hx,e1]
  simp only[decide_true,Bool.and_self,ZAG,al_cond_false]
 ·intro rec K
  simp only[s24_0]
  rw[ZAA]
def Zae(l:List Cue)(hl:l.length<=1048576):G26 (l,l,())=some (true,()):=by
 unfold G26 F26
 simp only[decide_true,ZAG,al_cond_false]
 refine(ZAU (f:=s26_0) (K:=λt4=>some (true,())) (λi=>(l,l,(i:Int),())) l.length (by omega) ?_ ?_).trans rfl
 ·intro i hi rec K
  have hx:l[i]?=some l[i]:=by simp
  have e1:w64 ((i:Int)+1)=((i+1:Nat):Int):=ZAC
  simp only[s26_0]
  rw[ZA,ZAF hx,ZAF hx,e1]
  simp only[decide_true,Bool.and_self,ZAG,al_cond_false]
 ·intro rec K
  simp only[s26_0]
  rw[ZAA]
def Zay(b:List Int)(hw:(∀d∈b,Wf .u8 d)/\b.length<=maxLen):G6 (b,())=some (true,()):=by
 unfold G6 F6 G8 F8
 simp only[al_bind_some]
 by_cases hb:b.length<=4096
 ·rw[ZAA]
  obtain⟨⟨x,w,u⟩,e,hx,hl⟩:=ZS0 hb
  have hx:DeskV x:=hx
  have hl:w.length<=1048576:=hl
  rw[e]
  have hy:=ZJ0 hx hl
  simp only[al_bind_some,ZDZ hx.ok hl]
  generalize (ZBG x w).1=y at hy
  have n1:=Zac y.shw y.ros (rosB y.ros) y.bas
  have n2:ZBt ((nowL y.shw 3).map (ZBQ true))≠[119,104,97,116]:=Zad λw hw=>by
   obtain⟨d,_,rfl⟩:=List.mem_map.mp hw
   unfold ZBQ
   rw[al_if_pos rfl]
   simp
  have s1:=hy.ok.shw.rig;have s2:=hy.ok.shw.score;have s3:=hy.ok.shw.wind
  have r1:G23 (y.1,y.1,())=some (true,()):=ZR0 _ s1
  have r2:G26 (y.2.1,y.2.1,())=some (true,()):=Zae _ s2
  have r3:G24 (y.2.2.1,y.2.2.1,())=some (true,()):=ZS3 _ s3
  simp only[ZDZ hy.ok (show([115,97,102,101]:Str).length<=1048576 by decide),ZDZ hy.ok (show([100,114,111,112,115,32,51]:Str).length<=1048576 by decide),ZNE hy,Zab hy,ZEC x hx.ok,ZEC y hy.ok,ZDp hx,ZDp hy,al_bind_some,ZAE n1,ZAE n2,r1,r2,r3,decide_true,Bool.and_self,ZAG,ZAK,al_cond_true,al_cond_false]
 ·rw[ZA]
end Ev
end
noncomputable section
namespace Ev
open Go
def ZS4(h:Int): ∀(l:List Place) (a:Place),(l.foldl (wdF h) a=a\/l.foldl (wdF h) a∈l)/\rotX h a<=rotX h (l.foldl (wdF h) a)/\ ∀p∈l,rotX h p<=rotX h (l.foldl (wdF h) a)
 | [],a=>⟨.inl rfl,Int.le_refl _,λp hp=>by cases hp⟩
 | p::l,a=>by
  rw[List.foldl_cons]
  obtain⟨g1,g2,g3⟩:=ZS4 h l (wdF h a p)
  have hb:(wdF h a p=a\/wdF h a p=p)/\rotX h a<=rotX h (wdF h a p)/\rotX h p<=rotX h (wdF h a p):=by
   unfold wdF
   by_cases c:rotX h p>rotX h a
   ·rw[al_if_pos c];exact⟨.inr rfl,by omega,by omega⟩
   ·rw[al_if_neg c];exact⟨.inl rfl,by omega,by omega⟩
  refine⟨?_,by omega,λq hq=> ?_⟩
  ·rcases g1 with g1 | g1
   ·rw[g1]
    rcases hb.1 with e | e
    ·exact .inl e
    ·rw[e];exact .inr (by simp)
   ·exact .inr (by simp[g1])
  ·rcases List.mem_cons.mp hq with rfl | hq
   ·omega
   ·exact g3 q hq
def ZGn(h:Int){r:List Place}(h1:1<=r.length):wdV h r∈r/\ ∀p∈r,rotX h p<=rotX h (wdV h r):=by
 cases r with
 | nil=>simp at h1
 | cons p l=>
  obtain⟨g1,_,g3⟩:=ZS4 h (p::l) p
  refine⟨?_,g3⟩
  show(p::l).foldl (wdF h) p∈p::l
  rcases g1 with g1 | g1
  ·rw[g1];simp
  ·exact g1
def ZS5{p:Place}(hp:Sm 8 p){h:Nat}(hh:h<4):rotX (h:Int) p=if h=0 then p.X else if h=1 then p.Y else if h=2 then-p.X else-p.Y:=by
 have key: ∀k:Nat,k<4->(rotN k p).X=(rt k p).X:=λk hk=>by rw[ZMo (m:=8) (by omega) hp hk]
 rcases k4 hh with rfl | rfl | rfl | rfl
 ·have e:q4 (w64 (0-((0:Nat):Int)))=0:=by rw[ZAC];decide
  unfold rotX;rw[e,key 0 (by omega)];rfl
 ·have e:q4 (w64 (0-((1:Nat):Int)))=3:=by rw[ZAC];decide
  unfold rotX;rw[e,key 3 (by omega)];rfl
 ·have e:q4 (w64 (0-((2:Nat):Int)))=2:=by rw[ZAC];decide
  unfold rotX;rw[e,key 2 (by omega)];rfl
 ·have e:q4 (w64 (0-((3:Nat):Int)))=1:=by rw[ZAC];decide
  unfold rotX;rw[e,key 1 (by omega)];rfl
def Zaf{r:List Place}(hr:RoseV r){C:Box}(hC:BoxP r C):(wdV ((0:Nat):Int) r).X=C.High.X/\(wdV ((1:Nat):Int) r).Y=C.High.Y/\(wdV ((2:Nat):Int) r).X=C.Low.X/\(wdV ((3:Nat):Int) r).Y=C.Low.Y:=by
 have sm: ∀p∈r,Sm 8 p:=λp hp=>ZEu (hr.sm p hp)
 obtain⟨p0,m0,e0⟩:=hC.hx;obtain⟨p1,m1,e1⟩:=hC.hy;obtain⟨p2,m2,e2⟩:=hC.lx;obtain⟨p3,m3,e3⟩:=hC.ly
 have go: ∀(h:Nat),h<4-> ∀p∈r,(if h=0 then p.X else if h=1 then p.Y else if h=2 then-p.X else-p.Y)<=(if h=0 then(wdV (h:Int) r).X else if h=1 then(wdV (h:Int) r).Y else if h=2 then-(wdV (h:Int) r).X else-(wdV (h:Int) r).Y):=λh hh p hp=>by
  obtain⟨w1,w2⟩:=ZGn (h:Int) hr.len.1
  have:=w2 p hp
  rw[ZS5 (sm p hp) hh,ZS5 (sm _ w1) hh]at this
  exact this
 have b0:=hC.inn _ (ZGn ((0:Nat):Int) hr.len.1).1
 have b1:=hC.inn _ (ZGn ((1:Nat):Int) hr.len.1).1
 have b2:=hC.inn _ (ZGn ((2:Nat):Int) hr.len.1).1
 have b3:=hC.inn _ (ZGn ((3:Nat):Int) hr.len.1).1
 have g0:=go 0 (by omega) p0 m0
 have g1:=go 1 (by omega) p1 m1
 have g2:=go 2 (by omega) p2 m2
 have g3:=go 3 (by omega) p3 m3
 simp only[if_true,show¬(1:Nat)=0 by omega,show¬(2:Nat)=0 by omega,show¬(3:Nat)=0 by omega,show¬(2:Nat)=1 by omega,show¬(3:Nat)=1 by omega,show¬(3:Nat)=2 by omega,if_false]at g0 g1 g2 g3
 omega
def Zag{r:List Place}(hr:RoseV r){x:Throw}(hj:ZAk x.jet=true)(h:Nat):wq r x h=add (pN x.jet (fl x.jet)) (ZCM (fl x.jet) (wdV (h:Int) r)):=by
 have hb:=ZC3 x.jet
 have hs:=ZEu (hr.sm _ (ZGn (h:Int) hr.len.1).1)
 have h1:=ZRr (ZBk hj) hb.1 hb.2
 have s1:=ZMr hb.1 hb.2 hs
 unfold wq
 rw[ZRt hj,(ZEv hb.1 (by omega) hs.1).1,(ZEv hb.1 (by omega) hs.2).1]
 exact ZMp (m:=1552) (n:=264) (by omega) h1 s1
def Zah{r:List Place}{C:Box}(hC:BoxP r C)(j:Jet):(lbE j C).Low.X<=(lbE j C).High.X/\(lbE j C).Low.Y<=(lbE j C).High.Y:=by
 have hb:=ZC3 j
 obtain⟨p,hp,_⟩:=hC.lx
 have hin:=hC.inn p hp
 have a:=Int.mul_le_mul_of_nonneg_left (show C.Low.X<=C.High.X by omega) hb.1
 have b:=Int.mul_le_mul_of_nonneg_left (show C.Low.Y<=C.High.Y by omega) hb.1
 unfold lbE add ZCM
 simp only
 omega
def Zai{s:ZAM}(hv:ShowV s){r:List Place}(hr:RoseV r){C:Box}(hC:BoxP r C)(c:Box):wwL s r c=none↔ZRv C s c:=by
 obtain⟨d0,d1,d2,d3⟩:=Zaf hr hC
 have side: ∀x∈ZAO s,∀h,h<4->ZC5 (wq r x h) c h=(if h=0 then decide ((lbE x.jet C).High.X>c.High.X)else if h=1 then decide ((lbE x.jet C).High.Y>c.High.Y)else if h=2 then decide ((lbE x.jet C).Low.X<c.Low.X)else decide ((lbE x.jet C).Low.Y<c.Low.Y)):=λx hx h hh=>by
  rw[Zag hr (ZGP hv hx).jet h]
  unfold ZC5 lbE add ZCM
  rcases k4 hh with rfl | rfl | rfl | rfl
  ·simp only[if_true];rw[d0]
  ·simp only[show¬(1:Nat)=0 by omega,if_true,if_false];rw[d1]
  ·simp only[show¬(2:Nat)=0 by omega,show¬(2:Nat)=1 by omega,if_true,if_false];rw[d2]
  ·simp only[show¬(3:Nat)=0 by omega,show¬(3:Nat)=1 by omega,show¬(3:Nat)=2 by omega,if_true,if_false];rw[d3]
 constructor
 ·intro hw x hx
  have no:=ZWt hw x hx
  have n0:=no 0 (by omega);have n1:=no 1 (by omega);have n2:=no 2 (by omega);have n3:=no 3 (by omega)
  rw[side x hx 0 (by omega)]at n0
  rw[side x hx 1 (by omega)]at n1
  rw[side x hx 2 (by omega)]at n2
  rw[side x hx 3 (by omega)]at n3
  simp only[show¬(1:Nat)=0 by omega,show¬(2:Nat)=0 by omega,show¬(3:Nat)=0 by omega,show¬(2:Nat)=1 by omega,show¬(3:Nat)=1 by omega,show¬(3:Nat)=2 by omega,if_true,if_false,decide_eq_false_iff_not]at n0 n1 n2 n3
  have hle:=Zah hC x.jet
  unfold InP
  omega
 ·intro hs
  cases hw:wwL s r c with
  | none=>rfl
  | some a=>
   exfalso
   obtain⟨x,k⟩:=a
   obtain⟨hx,hk⟩:=ZJP hw
   obtain⟨hk4,hsd⟩:=ZQu hk
   rw[side x hx k hk4]at hsd
   obtain⟨s1,s2⟩:=hs x hx
   unfold InP at s1 s2
   rcases k4 hk4 with rfl | rfl | rfl | rfl<;>simp only[show¬(1:Nat)=0 by omega,show¬(2:Nat)=0 by omega,show¬(3:Nat)=0 by omega,show¬(2:Nat)=1 by omega,show¬(3:Nat)=1 by omega,show¬(3:Nat)=2 by omega,if_true,if_false,ZAX]at hsd<;>omega
end Ev
end
noncomputable section
namespace Ev
open Go
def Zaj{x:Int}(h:0<=x/\x<=3):hd4 x 4=x:=by
 unfold hd4
 rw[al_if_pos (ZAZ h.1 h.2)]
 omega
def Zak{s:ZAM}(h:ShowV s):mvS 4 s=s:=by
 have e1:s.1.map (mvD 4)=s.1:=by
  conv=>rhs;rw[<-List.map_id s.1]
  refine List.map_congr_left λd hd=> ?_
  unfold mvD
  split
  ·rename_i k
   rw[Zaj (ZSF (h.rig.dev d hd) k)]
   rfl
  ·rfl
 have e2:s.2.2.1.map (mvG 4)=s.2.2.1:=by
  conv=>rhs;rw[<-List.map_id s.2.2.1]
  exact List.map_congr_left λg _=>rfl
 unfold mvS
 rw[e1,e2]
def Zal{x:ZAP}(h:DeskV x):ZBG x [116,117,114,110,32,52]=(x,yesT):=by
 rw[show([116,117,114,110,32,52]:Str)=116::[117,114,110]++32::[52]from rfl,ZS2 h (by decide) (by decide) (by decide) (by decide) (n:=4) (by rfl)]
 unfold ZBi
 rw[al_if_neg,al_if_pos,ZSq h.shw,Zak h.shw]
 rfl
def Zam{x:ZAP}(h:DeskV x):ZBG x [100,114,121]=(x,ZJs (dryV x.shw x.bas)):=by
 rw[ZJ6 h (by decide) (by decide)]
 unfold oneR
 rw[al_if_neg,al_if_neg,al_if_neg,al_if_neg,al_if_neg,al_if_pos]
def Zan{x:ZAP}(h:DeskV x):ZBG x [104,105,103,104]=(x,ZAQ (ZEA x.shw)):=by
 rw[ZJ6 h (by decide) (by decide)]
 unfold oneR
 rw[al_if_neg,al_if_neg,al_if_pos]
def Zao{x:ZAP}(h:DeskV x):ZBG x [108,105,109,105,116]=(ZB2 x (lmS x.ros x.bas x.shw),yesT):=by
 rw[ZJ6 h (by decide) (by decide)]
 unfold oneR
 rw[al_if_pos]
def Zap{x:ZAP}(h:DeskV x):ZCV (lmS x.ros x.bas x.shw) x.ros (rosB x.ros) x.bas=[115,97,102,101]:=by
 have hrl:=h.ok.ros
 have hv:=ZJm h.shw hrl x.bas
 obtain⟨C,hC1,hC,hB⟩:=ZYS h.ros
 have hs:=ZYb h.shw h.ros hC hB h.box
 unfold ZCV
 rw[al_if_pos ⟨ZEi hv,ZSH h.ros,h.box⟩,(Zai hv h.ros hC1 x.bas).2 hs]
 rfl
def Zaz(b:List Int)(hw:(∀d∈b,Wf .u8 d)/\b.length<=maxLen):G5 (b,())=some (true,()):=by
 unfold G5 F5 G8 F8
 simp only[al_bind_some]
 by_cases hb:b.length<=4096
 ·rw[ZAA]
  obtain⟨⟨x,w,u⟩,e,hx,hl⟩:=ZS0 hb
  have hx:DeskV x:=hx
  have hl:w.length<=1048576:=hl
  rw[e]
  have hy:=ZJ0 hx hl
  simp only[al_bind_some,ZDZ hx.ok hl]
  generalize (ZBG x w).1=y at hy
  have hz:DeskV (ZB2 y (lmS y.ros y.bas y.shw)):=ZJz hy (ZJm hy.shw hy.ok.ros y.bas)
  have s1:=hy.ok.shw.rig;have s3:=hy.ok.shw.wind
  have r1:G23 (y.1,y.1,())=some (true,()):=ZR0 _ s1
  have r3:G24 (y.2.2.1,y.2.2.1,())=some (true,()):=ZS3 _ s3
  have t1:G19 ((y.1,y.2.1,y.2.2.1,y.2.2.2.1,()),y.2.2.2.2.1,(⟨⟨y.2.2.2.2.2.1,y.2.2.2.2.2.2.1⟩,⟨y.2.2.2.2.2.2.2.1,y.2.2.2.2.2.2.2.2.1⟩⟩:Box),())=some (ZCV y.shw y.ros (rosB y.ros) y.bas,()):=
   ZRm y.shw hy.ok.shw y.ros hy.ok.ros y.bas (rosB y.ros) (ZGh _ hy.ok.ros)
  have t2:G20 ((y.1,y.2.1,y.2.2.1,y.2.2.2.1,()),(⟨⟨y.2.2.2.2.2.1,y.2.2.2.2.2.2.1⟩,⟨y.2.2.2.2.2.2.2.1,y.2.2.2.2.2.2.2.2.1⟩⟩:Box),())=some (dryV y.shw y.bas,()):=(ZM1 y.shw hy.ok.shw y.bas).1
  have t3:G22 ((y.1,y.2.1,y.2.2.1,y.2.2.2.1,()),())=some (ZEA y.shw,()):=ZMn hy.shw
  have t4:decide (decide (ZJs (dryV y.shw y.bas)=[121,101,115])=dryV y.shw y.bas)=true:=by cases dryV y.shw y.bas<;>decide
  have t5:ZCV (ZB2 y (lmS y.ros y.bas y.shw)).shw (ZB2 y (lmS y.ros y.bas y.shw)).ros (rosB (ZB2 y (lmS y.ros y.bas y.shw)).ros) (ZB2 y (lmS y.ros y.bas y.shw)).bas=[115,97,102,101]:=Zap hy
  simp only[ZDZ hy.ok (show([115,97,102,101]:Str).length<=1048576 by decide),ZDZ hy.ok (show([100,114,121]:Str).length<=1048576 by decide),ZDZ hy.ok (show([104,105,103,104]:Str).length<=1048576 by decide),ZDZ hy.ok (show([116,117,114,110,32,52]:Str).length<=1048576 by decide),ZDZ hy.ok (show([108,105,109,105,116]:Str).length<=1048576 by decide),ZNE hy,Zam hy,Zan hy,Zal hy,Zao hy,al_bind_some]
  simp only[ZDZ hz.ok (show([115,97,102,101]:Str).length<=1048576 by decide),ZNE hz,t1,t2,t3,t4,t5,r1,r3,fmI,al_bind_some,decide_true,Bool.and_self,ZAG,ZAK,al_cond_true,al_cond_false]
 ·rw[ZA]
end Ev
end
