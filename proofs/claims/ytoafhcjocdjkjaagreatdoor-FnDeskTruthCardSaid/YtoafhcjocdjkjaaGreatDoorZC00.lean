/- Laid together by program (what the claim does not reach is left out): EvA. -/
import Derived.Test.YtoafhcjocdjkjaaGreatDoorProg
import Derived.KernelRfl
import Derived.Lib.ItoaNum
import Derived.Shelf.Unicode.DecodeSlow
import Derived.Below
import Derived.Laws.Rows
set_option linter.all false
set_option maxRecDepth 100000
open Go.Proofs.Tryz
noncomputable section
namespace Ev
theorem al_bind_some.{u,v}{α:Type u}{β:Type v}(a:α)(f:α->Option β):(some a).bind f=f a:=rfl
theorem ZAG:(!true)=false:=rfl
theorem ZAK:(!false)=true:=rfl
theorem al_cond_true.{u}{α:Sort u}(a b:α):cond true a b=a:=rfl
theorem al_cond_false.{u}{α:Sort u}(a b:α):cond false a b=b:=rfl
theorem ZAH{p:Prop}[inst:Decidable p](h:p):decide p=true:=decide_eq_true h
theorem ZAE{p:Prop}[inst:Decidable p](h: ¬p):decide p=false:=decide_eq_false h
theorem ZAJ(a b:Bool):((a && b)=true)=(a=true/\b=true):=Bool.and_eq_true a b
theorem al_len_cons.{u}{α:Type u}{a:α}{l:List α} :(a::l).length=l.length+1:=rfl
theorem al_len_nil.{u}{α:Type u} :([]:List α).length=0:=rfl
theorem al_len_append.{u}{α:Type u}{l m:List α} :(l++m).length=l.length+m.length:=List.length_append
theorem al_len_take.{u}{α:Type u}{i:Nat}{l:List α} :(l.take i).length=min i l.length:=List.length_take
theorem ZAT(n:Nat):Int.ofNat n=(n:Int):=rfl
theorem ZAW(n:Nat):((n:Int)).toNat=n:=rfl
theorem al_mem_get.{u}{α:Type u}{l:List α}{i:Nat}{a:α}(h:l[i]?=some a):a∈l:=List.mem_of_getElem? h
theorem ZAX{p:Prop}[inst:Decidable p]:(decide p=true)=p:=decide_eq_true_eq
theorem al_get_get.{u}{α:Type u}{l:List α}{i:Nat}(h:i<l.length):l[i]?=some l[i]:=List.getElem?_eq_getElem h
theorem ZAb{n m:Nat}(h:Nat.beq n m=true):n=m:=Nat.eq_of_beq_eq_true h
theorem al_get_iff.{u}{α:Type u}{a:α}{i:Nat}{l:List α} :l[i]?=some a↔ ∃h:i<l.length,l[i]=a:=List.getElem?_eq_some_iff
theorem al_if_pos.{u}{c:Prop}{h:Decidable c}(hc:c:=by first | omega | decide){α:Sort u}{t e:α} :ite c t e=t:=if_pos hc
theorem al_if_neg.{u}{c:Prop}{h:Decidable c}(hnc: ¬c:=by first | omega | decide){α:Sort u}{t e:α} :ite c t e=e:=if_neg hnc
theorem al_bind_iff.{u,v}{α:Type u}{β:Type v}{b:β}{x:Option α}{f:α->Option β} :x.bind f=some b↔ ∃a,x=some a/\f a=some b:=Option.bind_eq_some_iff
theorem ZA4:((!true)=false)/\((!false)=true)/\(∀(α:Type) (a b:α),cond true a b=a)/\(∀(α:Type) (a b:α),cond false a b=b):=⟨rfl,rfl,λ_ _ _=>rfl,λ_ _ _=>rfl⟩
end Ev
section
namespace Ev
open Go
abbrev Str:=List UInt8
structure Place where
 X:Int
 Y:Int
 deriving DecidableEq
structure Box where
 Low:Place
 High:Place
 deriving DecidableEq
structure Jet where
 At:Place
 Heading:Int
 Tilt:Int
 Lift:Int
 deriving DecidableEq
structure Gust where
 From:Int
 Drift:Place
 deriving DecidableEq
structure Device where
 Name:Str
 Kind:Int
 Line:Str
 At:Place
 Heading:Int
 Tilt:Int
 Most:Int
 deriving DecidableEq
structure Cue where
 Tick:Int
 Name:Str
 Level:Int
 Ramp:Int
 deriving DecidableEq
structure Run where
 Level:Int
 Count:Int
 deriving DecidableEq
structure Block where
 b0:Int
 b1:Int
 b2:Int
 b3:Int
 b4:Int
 b5:Int
 b6:Int
 b7:Int
 deriving DecidableEq
structure Drop where
 From:Str
 Born:Int
 At:Place
 Height:Int
 deriving DecidableEq
structure Throw where
 name:Str
 born:Int
 jet:Jet
 deriving DecidableEq
inductive Ty | int | u8 | bool | str | place | box | jet | gust | device | cue | run | block | drop | throw
 deriving DecidableEq
@[reducible] def Ty.den:Ty->Type
 | .int=>Int | .u8=>Int | .bool=>Bool | .str=>Str | .place=>Place | .box=>Box | .jet=>Jet | .gust=>Gust
 | .device=>Device | .cue=>Cue | .run=>Run | .block=>Block | .drop=>Drop | .throw=>Throw
inductive V
 | undef
 | int (k:IntKind) (n:Int)
 | bool (b:Bool)
 | str (s:Str)
 | agg (cs:List V)
 | tup (vs:List V)
 | nils
 | lst (t:Ty) (l:List t.den)
 | own (id:Nat)
 | ownv (id lo hi:Nat)
 | sptr (cs:List V)
 | lptr (id off:Nat)
 | eptr (id row col:Nat)
 | fn (f:Nat) (cap:List V)
abbrev i64(n:Int):V:= .int .i64 n
def Ty.cells:(t:Ty)->t.den->List V
 | .int,n=>[i64 n]
 | .u8,n=>[.int .u8 n]
 | .bool,b=>[.bool b]
 | .str,s=>[.str s]
 | .place,p=>[i64 p.X,i64 p.Y]
 | .box,b=>[i64 b.Low.X,i64 b.Low.Y,i64 b.High.X,i64 b.High.Y]
 | .jet,j=>[i64 j.At.X,i64 j.At.Y,i64 j.Heading,i64 j.Tilt,i64 j.Lift]
 | .gust,g=>[i64 g.From,i64 g.Drift.X,i64 g.Drift.Y]
 | .device,d=>[.str d.Name,i64 d.Kind,.str d.Line,i64 d.At.X,i64 d.At.Y,i64 d.Heading,i64 d.Tilt,i64 d.Most]
 | .cue,x=>[i64 x.Tick,.str x.Name,i64 x.Level,i64 x.Ramp]
 | .run,r=>[i64 r.Level,i64 r.Count]
 | .block,b=>[i64 b.b0,i64 b.b1,i64 b.b2,i64 b.b3,i64 b.b4,i64 b.b5,i64 b.b6,i64 b.b7]
 | .drop,d=>[.str d.From,i64 d.Born,i64 d.At.X,i64 d.At.Y,i64 d.Height]
 | .throw,x=>[.str x.name,i64 x.born,i64 x.jet.At.X,i64 x.jet.At.Y,i64 x.jet.Heading,i64 x.jet.Tilt,i64 x.jet.Lift]
def Ty.ofCells:(t:Ty)->List V->Option t.den
 | .int,[.int .i64 n]=>some n
 | .u8,[.int .u8 n]=>some n
 | .bool,[.bool b]=>some b
 | .str,[.str s]=>some s
 | .place,[.int .i64 x,.int .i64 y]=>some ⟨x,y⟩
 | .box,[.int .i64 a,.int .i64 b,.int .i64 c,.int .i64 d]=>some ⟨⟨a,b⟩,⟨c,d⟩⟩
 | .jet,[.int .i64 a,.int .i64 b,.int .i64 c,.int .i64 d,.int .i64 e]=>some ⟨⟨a,b⟩,c,d,e⟩
 | .gust,[.int .i64 a,.int .i64 b,.int .i64 c]=>some ⟨a,⟨b,c⟩⟩
 | .device,[.str n,.int .i64 k,.str l,.int .i64 x,.int .i64 y,.int .i64 h,.int .i64 t,.int .i64 m]=>some ⟨n,k,l,⟨x,y⟩,h,t,m⟩
 | .cue,[.int .i64 t,.str n,.int .i64 l,.int .i64 r]=>some ⟨t,n,l,r⟩
 | .run,[.int .i64 a,.int .i64 b]=>some ⟨a,b⟩
 | .block,[.int .i64 a,.int .i64 b,.int .i64 c,.int .i64 d,.int .i64 e,.int .i64 f,.int .i64 g,.int .i64 h]=>some ⟨a,b,c,d,e,f,g,h⟩
 | .drop,[.str n,.int .i64 b,.int .i64 x,.int .i64 y,.int .i64 h]=>some ⟨n,b,⟨x,y⟩,h⟩
 | .throw,[.str n,.int .i64 b,.int .i64 x,.int .i64 y,.int .i64 h,.int .i64 t,.int .i64 l]=>some ⟨n,b,⟨⟨x,y⟩,h,t,l⟩⟩
 | _,_=>none
def Ty.width:Ty->Nat
 | .int=>1 | .u8=>1 | .bool=>1 | .str=>1 | .place=>2 | .box=>4 | .jet=>5 | .gust=>3 | .device=>8 | .cue=>4 | .run=>2 | .block=>8 | .drop=>5 | .throw=>7
def Ty.isAgg:Ty->Bool
 | .int | .u8 | .bool | .str=>false
 | _=>true
def Ty.zero:(t:Ty)->t.den
 | .int=>(0:Int) | .u8=>(0:Int) | .bool=>false | .str=>([]:Str) | .place=>⟨0,0⟩ | .box=>⟨⟨0,0⟩,⟨0,0⟩⟩ | .jet=>⟨⟨0,0⟩,0,0,0⟩
 | .gust=>⟨0,⟨0,0⟩⟩ | .device=>⟨[],0,[],⟨0,0⟩,0,0,0⟩ | .cue=>⟨0,[],0,0⟩ | .run=>⟨0,0⟩ | .block=>⟨0,0,0,0,0,0,0,0⟩
 | .drop=>⟨[],0,⟨0,0⟩,0⟩ | .throw=>⟨[],0,⟨⟨0,0⟩,0,0,0⟩⟩
def ZBl:(a b:Ty)->List a.den->Option (List b.den)
 | .int,.int,l=>some l | .u8,.u8,l=>some l | .bool,.bool,l=>some l | .str,.str,l=>some l | .place,.place,l=>some l
 | .box,.box,l=>some l | .jet,.jet,l=>some l | .gust,.gust,l=>some l | .device,.device,l=>some l | .cue,.cue,l=>some l
 | .run,.run,l=>some l | .block,.block,l=>some l | .drop,.drop,l=>some l | .throw,.throw,l=>some l
 | _,_,_=>none
inductive Blk
 | box (cs:List V)
 | rows (t:Ty) (l:List t.den)
abbrev ZAI:=List (Nat×Blk)
structure St where
 fr:List V
 st:ZAI
inductive TK
 | int (k:IntKind) | bool | str | sl (t:Ty) | arr (len esize:Nat) (eagg:Bool) | struct | other
structure TI where
 size:Nat
 agg:Bool
 bytes:Nat
 zero:List V
 flds:List (Nat×Nat×Bool)
 kind:TK
 flat:Bool
abbrev Tab:=List (Nat×TI)
def Tab.get:Tab->Nat->Option TI
 | [],_=>none
 | (i,x)::r,n=>cond (Nat.beq i n) (some x) (Tab.get r n)
section
variable {R:Type}
def lim:Nat:=1099511627776
def capK(n:Nat)(K:Option R):Option R:=if n<=lim then K else none
def rdL{α:Type}(l:List α)(i:Int)(K:α->Option R):Option R:=if 0<=i then(l[i.toNat]?).bind K else none
def okIf(c:Prop)[Decidable c](K:Option R):Option R:=if c then K else none
def setK:List V->Nat->V->(List V->Option R)->Option R
 | [],_,_,_=>none
 | _::xs,0,v,K=>K (v::xs)
 | x::xs,n+1,v,K=>setK xs n v (λys=>K (x::ys))
def get:List V->Nat->V
 | [],_=> .undef
 | x::_,0=>x
 | _::xs,n+1=>get xs n
def ZFm:Nat->List V->(List V->Option R)->Option R
 | 0,_,K=>K []
 | _+1,[],_=>none
 | n+1,x::xs,K=>ZFm n xs (λys=>K (x::ys))
def ZDq:Nat->List V->(List V->Option R)->Option R
 | 0,cs,K=>K cs
 | _+1,[],_=>none
 | n+1,_::xs,K=>ZDq n xs K
def layK:Nat->List V->List V->(List V->Option R)->Option R
 | 0,[],cs,K=>K cs
 | 0,v::vs,_::cs,K=>layK 0 vs cs (λys=>K (v::ys))
 | n+1,vs,c::cs,K=>layK n vs cs (λys=>K (c::ys))
 | _,_,_,_=>none
def look:ZAI->Nat->Option Blk
 | [],_=>none
 | (i,b)::r,n=>cond (Nat.beq i n) (some b) (look r n)
def updK:ZAI->Nat->Blk->(ZAI->Option R)->Option R
 | [],_,_,_=>none
 | (i,b)::r,n,b',K=>cond (Nat.beq i n) (K ((n,b')::r)) (updK r n b' (λr'=>K ((i,b)::r')))
def delK:ZAI->Nat->(ZAI->Option R)->Option R
 | [],_,K=>K []
 | (i,b)::r,n,K=>cond (Nat.beq i n) (delK r n K) (delK r n (λr'=>K ((i,b)::r')))
def newK(st:ZAI)(id:Nat)(b:Blk)(K:ZAI->Option R):Option R:=
 match look st id with
 | none=>K ((id,b)::st)
 | some _=>none
def V.cs:V->List V
 | .agg cs=>cs
 | v=>[v]
def ZEJ(ti:TI)(cs:List V)(K:V->Option R):Option R:=
 match ti.agg with
 | true=>ZFm ti.size cs λys=>K (.agg ys)
 | false=>match cs with
  | v::_=>K v
  | []=>none
end
def ZCA(id:Nat):V->V
 | .own i=>cond (Nat.beq i id) .undef (.own i)
 | .ownv i lo hi=>cond (Nat.beq i id) .undef (.ownv i lo hi)
 | .lptr i o=>cond (Nat.beq i id) .undef (.lptr i o)
 | .eptr i r c=>cond (Nat.beq i id) .undef (.eptr i r c)
 | .fn _ _=> .undef
 | .agg _=> .undef
 | .tup _=> .undef
 | v=>v
def ZJ7(id:Nat):V->V
 | .agg cs=> .agg (cs.map (ZCA id))
 | v=>ZCA id v
def ZGo(id:Nat):V->V
 | .tup vs=> .tup (vs.map (ZJ7 id))
 | v=>ZJ7 id v
def ZJ8(id:Nat):Nat×Blk->Nat×Blk
 | (i,.box cs)=>(i,.box (cs.map (ZCA id)))
 | (i,b)=>(i,b)
def St.scrub(s:St)(id:Nat):St:=⟨s.fr.map (ZGo id),s.st.map (ZJ8 id)⟩
end Ev
end
section
namespace Ev
open Go
inductive Lf | c | r (t:Ty) | m (t:Ty) | p | f | s
inductive Sh | one (l:Lf) | agg (ls:List Lf)
structure Entry where
 pars:List Sh
 res:List Sh
 shares:Bool
 muts:Bool
 sem:(R:Type)->List V->List Blk->(V->List Blk->Option R)->Option R
abbrev Env:=Nat->Option Entry
section
variable {R:Type}
def V.plain:V->Bool
 | .int _ _=>true | .bool _=>true | .str _=>true | _=>false
def V.idfree:V->Bool
 | .int _ _=>true | .bool _=>true | .str _=>true | .lst _ _=>true | .nils=>true | .undef=>true | _=>false
def V.base:V->Bool
 | .agg _=>false | .tup _=>false | .fn _ _=>false | _=>true
def allB(p:V->Bool):List V->Bool
 | []=>true
 | v::vs=>cond (p v) (allB p vs) false
def capC(st:ZAI)(frz:List Nat):List V->(List V->List Nat->Option R)->Option R
 | [],K=>K [] frz
 | .lptr id off::vs,K=>
  match look st id with
  | some (.box cs)=>ZDq off cs λcs=>cond (allB V.plain cs) (capC st (id::frz) vs λys f=>K (.sptr cs::ys) f) none
  | _=>none
 | v::vs,K=>cond v.plain (capC st frz vs λys f=>K (v::ys) f) none
def argC(st:ZAI)(ids frz:List Nat):Lf->V->(V->List Nat->List Nat->Option R)->Option R
 | .c,v,K=>match v with
  | .int _ _ | .bool _ | .str _ | .undef=>K v ids frz
  | _=>none
 | .r t,v,K=>match v with
  | .lst t' l=>match ZBl t' t l with
   | some l=>K (.lst t l) ids frz
   | none=>none
  | .own id=>match look st id with
   | some (.rows t' l)=>match ZBl t' t l with
    | some l=>K (.lst t l) ids (id::frz)
    | none=>none
   | _=>none
  | .ownv id lo hi=>match look st id with
   | some (.rows t' l)=>match ZBl t' t l with
    | some l=>K (.lst t ((l.take hi).drop lo)) ids (id::frz)
    | none=>none
   | _=>none
  | .nils=>K (.lst t []) ids frz
  | .undef=>K .undef ids frz
  | _=>none
 | .m t,v,K=>match v with
  | .own id=>match look st id with
   | some (.rows t' l)=>match ZBl t' t l with
    | some _=>K (.own ids.length) (ids++[id]) frz
    | none=>none
   | _=>none
  | _=>none
 | .p,v,K=>match v with
  | .lptr id 0=>match look st id with
   | some (.box cs)=>cond (allB V.idfree cs) (K (.lptr ids.length 0) (ids++[id]) frz) none
   | _=>none
  | _=>none
 | .f,v,K=>match v with
  | .fn g cap=>capC st frz cap λcap f=>K (.fn g cap) ids f
  | _=>none
 | .s,v,K=>match v with
  | .sptr cs=>K (.sptr cs) ids frz
  | _=>none
def ZCX(st:ZAI):List Lf->List V->List Nat->List Nat->(List V->List Nat->List Nat->Option R)->Option R
 | [],[],ids,frz,K=>K [] ids frz
 | l::ls,v::vs,ids,frz,K=>argC st ids frz l v λv ids frz=>ZCX st ls vs ids frz λvs ids frz=>K (v::vs) ids frz
 | _,_,_,_,_=>none
def argA(st:ZAI)(ids frz:List Nat):Sh->V->(V->List Nat->List Nat->Option R)->Option R
 | .one l,v,K=>argC st ids frz l v K
 | .agg ls,.agg cs,K=>ZCX st ls cs ids frz λcs ids frz=>K (.agg cs) ids frz
 | _,_,_=>none
def ZCY(st:ZAI):List Sh->List V->List Nat->List Nat->(List V->List Nat->List Nat->Option R)->Option R
 | [],[],ids,frz,K=>K [] ids frz
 | s::ss,v::vs,ids,frz,K=>argA st ids frz s v λv ids frz=>ZCY st ss vs ids frz λvs ids frz=>K (v::vs) ids frz
 | _,_,_,_,_=>none
def memN(n:Nat):List Nat->Bool
 | []=>false
 | m::r=>cond (Nat.beq m n) true (memN n r)
def ZEy(frz:List Nat):List Nat->Bool
 | []=>true
 | n::r=>cond (memN n r) false (cond (memN n frz) false (ZEy frz r))
def ZFn(st:ZAI):List Nat->(List Blk->Option R)->Option R
 | [],K=>K []
 | id::ids,K=>match look st id with
  | some b=>ZFn st ids λbs=>K (b::bs)
  | none=>none
def ZAf(dst:Nat):List Nat->Nat->Nat
 | [],j=>dst+10000*j
 | id::_,0=>id
 | _::ids,j+1=>ZAf dst ids j
def renC(sh:Bool)(dst:Nat)(ids:List Nat)(v:V)(K:V->Option R):Option R:=
 match v with
 | .int _ _ | .bool _ | .str _=>K v
 | .own j=>K (.own (ZAf dst ids j))
 | .lptr j o=>K (.lptr (ZAf dst ids j) o)
 | .lst t l=>cond sh (K (.lst t l)) none
 | _=>none
def ZH8(sh:Bool)(dst:Nat)(ids:List Nat):List V->(List V->Option R)->Option R
 | [],K=>K []
 | v::vs,K=>renC sh dst ids v λv=>ZH8 sh dst ids vs λvs=>K (v::vs)
def renA(sh:Bool)(dst:Nat)(ids:List Nat)(v:V)(K:V->Option R):Option R:=
 match v with
 | .agg cs=>ZH8 sh dst ids cs λcs=>K (.agg cs)
 | v=>renC sh dst ids v K
def ZH9(sh:Bool)(dst:Nat)(ids:List Nat):List V->(List V->Option R)->Option R
 | [],K=>K []
 | v::vs,K=>renA sh dst ids v λv=>ZH9 sh dst ids vs λvs=>K (v::vs)
def renT(sh:Bool)(dst:Nat)(ids:List Nat)(v:V)(K:V->Option R):Option R:=
 match v with
 | .tup vs=>ZH9 sh dst ids vs λvs=>K (.tup vs)
 | v=>renA sh dst ids v K
def okV(sh:Bool):V->Bool
 | .lst _ _=>sh
 | v=>v.idfree
def Blk.okB(sh:Bool):Blk->Bool
 | .box cs=>allB (okV sh) cs
 | .rows _ _=>true
def impB(sh:Bool)(dst:Nat):List Nat->Nat->List Blk->ZAI->(ZAI->Option R)->Option R
 | id::ids,j,b::bs,st,K=>cond (b.okB sh) (updK st id b λst=>impB sh dst ids j bs st K) none
 | [],j,b::bs,st,K=>cond (b.okB sh) (newK st (dst+10000*j) b λst=>impB sh dst [] (j+1) bs st K) none
 | [],_,[],st,K=>K st
 | _::_,_,[],_,_=>none
def frzC(id:Nat)(t:Ty)(l:List t.den):V->V
 | .own i=>cond (Nat.beq i id) (.lst t l) (.own i)
 | .ownv i lo hi=>cond (Nat.beq i id) (.lst t ((l.take hi).drop lo)) (.ownv i lo hi)
 | v=>ZCA id v
def frzA(id:Nat)(t:Ty)(l:List t.den):V->V
 | .agg cs=> .agg (cs.map (frzC id t l))
 | v=>frzC id t l v
def frzT(id:Nat)(t:Ty)(l:List t.den):V->V
 | .tup vs=> .tup (vs.map (frzA id t l))
 | v=>frzA id t l v
def frzB(id:Nat)(t:Ty)(l:List t.den):Nat×Blk->Nat×Blk
 | (i,.box cs)=>(i,.box (cs.map (frzC id t l)))
 | (i,b)=>(i,b)
def ZCt:List Nat->St->(St->Option R)->Option R
 | [],s,K=>K s
 | id::ids,s,K=>match look s.st id with
  | some (.rows t l)=>delK s.st id λst=>ZCt ids ⟨s.fr.map (frzT id t l),st.map (frzB id t l)⟩ K
  | some (.box _)=>none
  | none=>none
def ZBe:List Nat->List Nat
 | []=>[]
 | n::r=>cond (memN n r) (ZBe r) (n::ZBe r)
def nilB:List Nat->Bool
 | []=>true
 | _=>false
def ZCu(E:Env)(f:Nat)(dst:Nat)(vs:List V)(s:St)(K:V->St->Option R):Option R:=
 match E f with
 | none=>none
 | some e=>ZCY s.st e.pars vs [] [] λav ids frz=>
  cond (ZEy frz ids && (e.muts || nilB ids)) (ZCt (cond e.shares (ZBe frz) []) s λs=>ZFn s.st ids λbs=>e.sem R av bs λres out=>
   impB e.shares dst ids 0 out s.st λst=>renT e.shares dst ids res λv=>K v ⟨s.fr,st⟩) none
def ZJ9:Value->V
 | .int k n=> .int k n
 | .bool b=> .bool b
 | .string s=> .str s.data.toList
 | .slice none 0 0=> .nils
 | .agg cs=> .agg (cs.toList.map λ
  | .int k n=> .int k n
  | .bool b=> .bool b
  | .string s=> .str s.data.toList
  | .slice none 0 0=> .nils
  | _=> .undef)
 | _=> .undef
def opd(fr:List V):Operand->V
 | .tmp t=>get fr t
 | .const v=>ZJ9 v
 | .func f=> .fn f []
 | .global _=> .undef
def opds(fr:List V):List Operand->(List V->Option R)->Option R
 | [],K=>K []
 | x::xs,K=>opds fr xs λvs=>K (opd fr x::vs)
def ZCZ(op:BinOp)(k:IntKind)(a b:Int):Int:=
 match op with
 | .and=>k.wrap (BitVec.ofInt k.bits a &&& BitVec.ofInt k.bits b).toNat
 | .or=>k.wrap (BitVec.ofInt k.bits a ||| BitVec.ofInt k.bits b).toNat
 | _=>k.wrap (BitVec.ofInt k.bits a^^^BitVec.ofInt k.bits b).toNat
def ZFo(k:IntKind)(a b:Int):Int:=a.fdiv (2^min b.toNat k.bits)
def ZNF(k:IntKind)(a b:Int):Int:=k.wrap (a*2^min b.toNat k.bits)
def mn(a b:Int):Int:=if b<a then b else a
def mx(a b:Int):Int:=if b>a then b else a
def intK(op:BinOp)(k:IntKind)(a b:Int)(K:V->Option R):Option R:=
 match op with
 | .add=>K (.int k (k.wrap (a+b)))
 | .sub=>K (.int k (k.wrap (a-b)))
 | .mul=>K (.int k (k.wrap (a*b)))
 | .quo=>cond (decide (b=0)) none (K (.int k (k.wrap (a.tdiv b))))
 | .rem=>cond (decide (b=0)) none (K (.int k (a.tmod b)))
 | .and=>K (.int k (ZCZ .and k a b))
 | .or=>K (.int k (ZCZ .or k a b))
 | .xor=>K (.int k (ZCZ .xor k a b))
 | .eql=>K (.bool (decide (a=b)))
 | .neq=>K (.bool (!decide (a=b)))
 | .lss=>K (.bool (decide (a<b)))
 | .leq=>K (.bool (decide (a<=b)))
 | .gtr=>K (.bool (decide (a>b)))
 | .geq=>K (.bool (decide (a>=b)))
 | _=>none
def fits:List V->List V->Bool
 | [],[]=>true
 | .int k _::zs,.int k' _::xs=>decide (k=k') && fits zs xs
 | .bool _::zs,.bool _::xs=>fits zs xs
 | .str _::zs,.str _::xs=>fits zs xs
 | _,_=>false
def eqK:List V->List V->(Bool->Option R)->Option R
 | [],[],K=>K true
 | .int k a::xs,.int k' b::ys,K=>cond (decide (k=k')) (eqK xs ys λt=>K (decide (a=b) && t)) none
 | .str a::xs,.str b::ys,K=>eqK xs ys λt=>K (decide (a=b) && t)
 | .bool a::xs,.bool b::ys,K=>eqK xs ys λt=>K (decide (a=b) && t)
 | _,_,_=>none
def binK(T:Tab)(op:BinOp)(t:Nat)(x y:V)(K:V->Option R):Option R:=
 match x,y with
 | .int k a,.int k' b=>
  match op with
  | .shl=>cond (decide (b<0)) none (K (.int k (ZNF k a b)))
  | .shr=>cond (decide (b<0)) none (K (.int k (ZFo k a b)))
  | op=>cond (decide (k=k')) (intK op k a b K) none
 | .str a,.str b=>
  match op with
  | .add=>capK (a.length+b.length) (K (.str (a++b)))
  | .eql=>K (.bool (decide (a=b)))
  | .neq=>K (.bool (!decide (a=b)))
  | .lss=>K (.bool (Op.bytesLess a b))
  | .leq=>K (.bool (Op.bytesLess a b || decide (a=b)))
  | .gtr=>K (.bool (!(Op.bytesLess a b || decide (a=b))))
  | .geq=>K (.bool (!Op.bytesLess a b))
  | _=>none
 | .bool a,.bool b=>
  match T.get t with
  | some ⟨_,_,_,_,_,.bool,_⟩=>match op with
   | .eql=>K (.bool (decide (a=b)))
   | .neq=>K (.bool (!decide (a=b)))
   | _=>none
  | _=>none
 | .agg xs,.agg ys=>
  match T.get t with
  | some ti=>cond (ti.flat && (fits ti.zero xs && fits ti.zero ys)) (match op with
   | .eql=>eqK xs ys λb=>K (.bool b)
   | .neq=>eqK xs ys λb=>K (.bool (!b))
   | _=>none) none
  | none=>none
 | _,_=>none
def ZGp(t:Ty)(not:Nat)(st:ZAI)(v:V)(K:List t.den->Option R):Option R:=
 match v with
 | .nils=>K []
 | .lst t' l=>match ZBl t' t l with
  | some l=>K l
  | none=>none
 | .own id=>cond (Nat.beq id not) none (match look st id with
  | some (.rows t' l)=>match ZBl t' t l with
   | some l=>K l
   | none=>none
  | _=>none)
 | .ownv id lo hi=>cond (Nat.beq id not) none (match look st id with
  | some (.rows t' l)=>match ZBl t' t l with
   | some l=>K ((l.take hi).drop lo)
   | none=>none
  | _=>none)
 | _=>none
def ZEz(s:St)(id:Nat)(b:Blk)(K:V->St->Option R):Option R:=
 cond (Nat.ble 100 id) (updK s.st id b λst=>let s':=St.scrub ⟨s.fr,st⟩ id;K (.own id) s') none
def ZE0(T:Tab)(t:Nat)(dst:Nat)(x y:V)(s:St)(K:V->St->Option R):Option R:=
 match T.get t with
 | some ⟨_,_,_,_,_,.sl τ,_⟩=>
  match x with
  | .own id=>match look s.st id with
   | some (.rows t' l)=>match ZBl t' τ l with
    | some l=>ZGp τ id s.st y λm=>capK (l.length+m.length) (ZEz s id (.rows τ (l++m)) K)
    | none=>none
   | _=>none
  | .nils=>ZGp τ dst s.st y λm=>capK m.length (newK s.st dst (.rows τ m) λst=>K (.own dst) ⟨s.fr,st⟩)
  | _=>none
 | _=>none
def lenK(ti:TI)(st:ZAI)(v:V)(K:V->Option R):Option R:=
 match ti.kind,v with
 | .arr n _ _,_=>K (i64 (n:Int))
 | .str,.str s=>K (i64 s.length)
 | .sl _,.nils=>K (i64 0)
 | .sl _,.lst _ l=>K (i64 l.length)
 | .sl _,.own id=>match look st id with
  | some (.rows _ l)=>K (i64 l.length)
  | _=>none
 | .sl _,.ownv id lo hi=>K (i64 ((hi-lo:Nat):Int))
 | _,_=>none
def ZE1(g:Int->Int->Int):Int->List V->(V->Option R)->Option R
 | a,[],K=>K (i64 a)
 | a,.int .i64 b::vs,K=>ZE1 g (g a b) vs K
 | _,_,_=>none
def ZGq:List V->(List Int->Option R)->Option R
 | [],K=>K []
 | .int .i64 n::vs,K=>ZGq vs λns=>K (n::ns)
 | _,_=>none
def litK(τ:Ty):Nat->Nat->List (Nat×V)->(List τ.den->Option R)->Option R
 | 0,_,[],K=>K []
 | n+1,i,(j,v)::ps,K=>cond (Nat.beq i j) (match τ.ofCells v.cs with
  | some d=>litK τ n (i+1) ps λl=>K (d::l)
  | none=>none) (litK τ n (i+1) ((j,v)::ps) λl=>K (τ.zero::l))
 | n+1,i,[],K=>litK τ n (i+1) [] λl=>K (τ.zero::l)
 | 0,_,_::_,_=>none
def V.val:V->Bool
 | .undef=>false | .tup _=>false | _=>true
def ZEK(flds:List (Nat×Nat×Bool)):List (Nat×V)->List V->(List V->Option R)->Option R
 | [],cs,K=>K cs
 | (i,v)::ps,cs,K=>match flds[i]? with
  | some (off,size,_)=>cond (Nat.beq size v.cs.length && v.val) (layK off v.cs cs λcs=>ZEK flds ps cs K) none
  | none=>none
def ZDr(fr:List V)(ps:List (Nat×Operand)):List (Nat×V):=ps.map λp=>(p.1,opd fr p.2)
def ZGr(ti:TI)(st:ZAI)(v:V)(K:V->Option R):Option R:=
 match v with
 | .sptr cs=>ZEJ ti cs K
 | .lptr id off=>match look st id with
  | some (.box cs)=>ZDq off cs λcs=>ZEJ ti cs K
  | _=>none
 | .eptr id row col=>match look st id with
  | some (.rows t l)=>(l[row]?).bind λd=>ZDq col (t.cells d) λcs=>ZEJ ti cs K
  | _=>none
 | _=>none
def V.solid:V->Bool
 | .undef=>false | .agg _=>false | .tup _=>false | _=>true
def ZK(ti:TI)(st:ZAI)(v x:V)(K:ZAI->Option R):Option R:=
 cond (Nat.beq ti.size x.cs.length && allB V.solid x.cs) (match v with
 | .lptr id off=>match look st id with
  | some (.box cs)=>layK off x.cs cs λcs=>updK st id (.box cs) K
  | _=>none
 | .eptr id row col=>match look st id with
  | some (.rows t l)=>(l[row]?).bind λd=>layK col x.cs (t.cells d) λcs=>match t.ofCells cs with
   | some d=>updK st id (.rows t (l.set row d)) K
   | none=>none
  | _=>none
 | _=>none) none
def winK(t:Ty)(l:List t.den)(lo hi:Option V)(K:Nat->Nat->List t.den->Option R):Option R:=
 match lo,hi with
 | some (.int .i64 a),none=>okIf (0<=a/\a<=l.length) (K a.toNat l.length (l.drop a.toNat))
 | none,some (.int .i64 b)=>okIf (0<=b/\b<=l.length) (K 0 b.toNat (l.take b.toNat))
 | some (.int .i64 a),some (.int .i64 b)=>okIf (0<=a/\a<=b/\b<=l.length) (K a.toNat b.toNat ((l.take b.toNat).drop a.toNat))
 | _,_=>none
def ZFp(ti:TI)(ann:Nat->Bool)(dst:Nat)(s:St)(x:V)(lo hi:Option V)(K:V->St->Option R):Option R:=
 match ti.kind,x with
 | .str,.str l=>match lo,hi with
  | some (.int .i64 a),none=>okIf (0<=a/\a<=l.length) (K (.str (l.drop a.toNat)) s)
  | none,some (.int .i64 b)=>okIf (0<=b/\b<=l.length) (K (.str (l.take b.toNat)) s)
  | some (.int .i64 a),some (.int .i64 b)=>okIf (0<=a/\a<=b/\b<=l.length) (K (.str ((l.take b.toNat).drop a.toNat)) s)
  | _,_=>none
 | .sl τ,.lst t l=>match ZBl t τ l with
  | some l=>winK τ l lo hi λ_ _ m=>K (.lst τ m) s
  | none=>none
 | .sl τ,.own id=>match look s.st id with
  | some (.rows t l)=>match ZBl t τ l with
   | some l=>winK τ l lo hi λa b m=>cond (ann dst) (ZEz s id (.rows τ m) K) (K (.ownv id a b) s)
   | none=>none
  | _=>none
 | _,_=>none
def brK(i:Int):Nat->(Nat->Option R)->Option R
 | 0,_=>none
 | n+1,K=>cond (decide (i=(n:Int))) (K n) (brK i n K)
def ZKA(ti:TI)(st:ZAI)(x i:V)(K:V->Option R):Option R:=
 match ti.kind,x,i with
 | .sl τ,.lst t l,.int .i64 i=>match ZBl t τ l with
  | some l=>rdL l i λd=>K (.sptr (τ.cells d))
  | none=>none
 | .sl τ,.own id,.int .i64 i=>match look st id with
  | some (.rows t l)=>match ZBl t τ l with
   | some l=>rdL l i λ_=>K (.eptr id i.toNat 0)
   | none=>none
  | _=>none
 | .sl τ,.ownv id lo hi,.int .i64 i=>match look st id with
  | some (.rows t l)=>match ZBl t τ l with
   | some l=>rdL ((l.take hi).drop lo) i λ_=>K (.eptr id (lo+i.toNat) 0)
   | none=>none
  | _=>none
 | .arr n 1 false,.sptr cs,.int .i64 i=>ZFm n cs λcs=>ZGq cs λns=>rdL ns i λn=>K (.sptr [i64 n])
 | .arr n w _,.lptr id off,.int .i64 i=>brK i n λj=>K (.lptr id (off+j*w))
 | .arr n w _,.eptr id row col,.int .i64 i=>brK i n λj=>K (.eptr id row (col+j*w))
 | _,_,_=>none
def idxK(ti:TI)(x i:V)(K:V->Option R):Option R:=
 match ti.kind,x,i with
 | .str,.str s,.int .i64 i=>rdL s i λb=>K (.int .u8 (b.toNat:Int))
 | .arr n 1 false,.agg cs,.int .i64 i=>ZFm n cs λcs=>ZGq cs λns=>rdL ns i λn=>K (i64 n)
 | _,_,_=>none
def ZKB(off:Nat)(v:V)(K:V->Option R):Option R:=
 match v with
 | .sptr cs=>ZDq off cs λcs=>K (.sptr cs)
 | .lptr id o=>K (.lptr id (o+off))
 | .eptr id r c=>K (.eptr id r (c+off))
 | _=>none
def ZKC(T:Tab)(st:ZAI)(src dst:Nat)(x:V)(K:V->Option R):Option R:=
 match T.get src,T.get dst with
 | some si,some ti=>match si.kind,ti.kind,x with
  | _,.int k,.int _ n=>K (.int k (k.wrap n))
  | _,.str,.str s=>K (.str s)
  | .sl .u8,.str,x=>ZGp .u8 99999 st x λl=>K (.str (l.map λn=>UInt8.ofNat n.toNat))
  | _,_,_=>none
 | _,_=>none
def ZFq(T:Tab)(b:Builtin)(dst:Nat)(vs:List V)(ts:List Nat)(s:St)(K:V->St->Option R):Option R:=
 match b,vs,ts with
 | .len,[v],[t]=>match T.get t with
  | some ti=>lenK ti s.st v λv=>K v s
  | none=>none
 | .append,[x,y],[t,u]=>match T.get u with
  | some ⟨_,_,_,_,_,.sl _,_⟩=>ZE0 T t dst x y s K
  | _=>none
 | .min,.int .i64 a::vs,_=>ZE1 mn a vs λv=>K v s
 | .max,.int .i64 a::vs,_=>ZE1 mx a vs λv=>K v s
 | _,_,_=>none
def ZI:Operand->Operand->Bool
 | .tmp a,.tmp b=>Nat.beq a b
 | .const (.int _ a),.const (.int _ b)=>decide (a=b)
 | _,_=>false
def evOp(E:Env)(T:Tab)(ann:Nat->Bool)(dst:Nat)(op:Op)(s:St)(K:V->St->Option R):Option R:=
 match op with
 | .move x=>K (opd s.fr x) s
 | .assign x=>K (opd s.fr x) s
 | .pick c a b=>match opd s.fr c with
  | .bool t=>cond t (K (opd s.fr a) s) (K (opd s.fr b) s)
  | _=>none
 | .alloc t=>match T.get t with
  | some ti=>newK s.st dst (.box ti.zero) λst=>K (.lptr dst 0) ⟨s.fr,st⟩
  | none=>none
 | .box _ x=>match opd s.fr x with
  | .undef=>none
  | .tup _=>none
  | v=>newK s.st dst (.box v.cs) λst=>K (.lptr dst 0) ⟨s.fr,st⟩
 | .build t ps=>match T.get t with
  | some ti=>match ti.kind with
   | .struct=>ZEK ti.flds (ZDr s.fr ps.toList) ti.zero λcs=>K (.agg cs) s
   | .arr _ _ _=>ZEK ti.flds (ZDr s.fr ps.toList) ti.zero λcs=>K (.agg cs) s
   | _=>none
  | none=>none
 | .buildSlice t n ps=>match T.get t with
  | some ⟨_,_,_,_,_,.sl τ,_⟩=>cond (Nat.ble (n*τ.width) 16777216)
    (litK τ n 0 (ZDr s.fr ps.toList) λl=>newK s.st dst (.rows τ l) λst=>K (.own dst) ⟨s.fr,st⟩) none
  | _=>none
 | .makeSlice t l c=>match T.get t,opd s.fr l with
  | some ⟨_,_,_,_,_,.sl τ,_⟩,.int .i64 n=>cond (ZI l c) (okIf (0<=n)
    (capK n.toNat (newK s.st dst (.rows τ (List.replicate n.toNat τ.zero)) λst=>K (.own dst) ⟨s.fr,st⟩))) none
  | _,_=>none
 | .load t x=>match T.get t with
  | some ti=>ZGr ti s.st (opd s.fr x) λv=>K v s
  | none=>none
 | .store t a x=>match T.get t with
  | some ti=>ZK ti s.st (opd s.fr a) (opd s.fr x) λst=>K (.tup []) ⟨s.fr,st⟩
  | none=>none
 | .nilCheck x=>match opd s.fr x with
  | .lptr id o=>K (.lptr id o) s
  | .eptr id r c=>K (.eptr id r c) s
  | .sptr cs=>K (.sptr cs) s
  | _=>none
 | .binOp op t x y _=>binK T op t (opd s.fr x) (opd s.fr y) λv=>K v s
 | .unOp op _ x=>match op,opd s.fr x with
  | .not,.bool b=>K (.bool (!b)) s
  | .neg,.int k n=>K (.int k (k.wrap (0-n))) s
  | _,_=>none
 | .convert a b x=>ZKC T s.st a b (opd s.fr x) λv=>K v s
 | .makeFunc (.func f) first cap=>cond (Nat.beq first.size 0) (opds s.fr cap.toList λvs=>cond (allB V.base vs) (K (.fn f vs) s) none) none
 | .slice t x lo hi none=>match T.get t with
  | some ti=>ZFp ti ann dst s (opd s.fr x) (lo.map (opd s.fr)) (hi.map (opd s.fr)) K
  | none=>none
 | .fieldAddr t x i=>match T.get t with
  | some ti=>match ti.flds[i]? with
   | some (off,size,_)=>cond (Nat.beq size 0) none (match ti.kind with
    | .struct=>ZKB off (opd s.fr x) λv=>K v s
    | _=>none)
   | none=>none
  | none=>none
 | .field t x i=>match T.get t with
  | some ti=>match ti.flds[i]?,opd s.fr x with
   | some (off,size,agg),.agg cs=>match ti.kind with
    | .struct=>ZDq off cs λcs=>ZEJ ⟨size,agg,0,[],[],.other,false⟩ cs λv=>K v s
    | _=>none
   | _,_=>none
  | none=>none
 | .indexAddr t x i=>match T.get t with
  | some ti=>ZKA ti s.st (opd s.fr x) (opd s.fr i) λv=>K v s
  | none=>none
 | .index t x i=>match T.get t with
  | some ti=>idxK ti (opd s.fr x) (opd s.fr i) λv=>K v s
  | none=>none
 | .extract x i=>match opd s.fr x with
  | .tup vs=>match vs[i]? with
   | some v=>K v s
   | none=>none
  | _=>none
 | .call ⟨.builtin b,args,ts⟩=>opds s.fr args.toList λvs=>ZFq T b dst vs ts.toList s K
 | .call ⟨.value f,args,_⟩=>match opd s.fr f with
  | .fn g cap=>opds s.fr args.toList λvs=>ZCu E g dst (vs++cap) s K
  | _=>none
 | _=>none
def ZEL(ops:List Oper)(j:Nat):Option Nat:=match ops[j]? with
 | some o=>o.dst
 | none=>none
def idOf(o:Oper):Nat:=o.dst.getD 9999+100
def putK(s:St)(dst:Option Nat)(v:V)(K:St->Option R):Option R:=
 match dst with
 | some d=>setK s.fr d v λfr=>K ⟨fr,s.st⟩
 | none=>K s
def ZBD(E:Env)(T:Tab)(ann:Nat->Bool)(ops:List Oper):List Oper->St->(St->Option R)->Option R
 | [],s,K=>K s
 | o::os,s,K=>
  match o.guard with
  | none=>evOp E T ann (idOf o) o.op s λv s=>putK s o.dst v λs=>ZBD E T ann ops os s K
  | some (j,want)=>match ZEL ops j with
   | none=>none
   | some g=>match get s.fr g with
    | .bool b=>cond (cond want b (!b))
     (setK s.fr g (.bool want) λfr=>evOp E T ann (idOf o) o.op ⟨fr,s.st⟩ λv s=>putK s o.dst v λs=>ZBD E T ann ops os s K)
     (setK s.fr g (.bool (!want)) λfr=>putK ⟨fr,s.st⟩ o.dst (.tup []) λs=>ZBD E T ann ops os s K)
    | .tup []=>putK s o.dst (.tup []) λs=>ZBD E T ann ops os s K
    | _=>none
def ZGs(o:Oper):Bool:=match o.op with
 | .binOp _ _ _ (.const (.slice none 0 0)) _=>true
 | _=>false
open Classical in
def both(a b:Option R):Option R:=if a=b then a else none
def ZBm(l:Bool)(a b:Option R):Option R:=cond l (both a b) b
def nilK(T:Tab)(o:Oper)(s:St)(K:St->Option R):Option R:=
 match o.guard,o.dst,o.op with
 | none,some d,.binOp op t x _ _=>match T.get t,op with
  | some ⟨_,_,_,_,_,.sl _,_⟩,.eql=>match opd s.fr x with
   | .nils=>putK s (some d) (.bool true) K
   | .lst _ l=>ZBm l.isEmpty (putK s (some d) (.bool true) K) (putK s (some d) (.bool false) K)
   | .own id=>match look s.st id with
    | some (.rows _ l)=>ZBm l.isEmpty (putK s (some d) (.bool true) K) (putK s (some d) (.bool false) K)
    | _=>none
   | _=>none
  | some ⟨_,_,_,_,_,.sl _,_⟩,.neq=>match opd s.fr x with
   | .nils=>putK s (some d) (.bool false) K
   | .lst _ l=>ZBm l.isEmpty (putK s (some d) (.bool false) K) (putK s (some d) (.bool true) K)
   | .own id=>match look s.st id with
    | some (.rows _ l)=>ZBm l.isEmpty (putK s (some d) (.bool false) K) (putK s (some d) (.bool true) K)
    | _=>none
   | _=>none
  | _,_=>none
 | _,_,_=>none
def ZGt(E:Env)(T:Tab)(ann:Nat->Bool)(ops:List Oper):List Oper->St->(St->Option R)->Option R
 | [],s,K=>K s
 | o::os,s,K=>cond (ZGs o) (nilK T o s λs=>ZGt E T ann ops os s K) (ZBD E T ann ops [o] s λs=>ZGt E T ann ops os s K)
def calm(E:Env)(ann:Nat->Bool)(o:Oper):Bool:=
 match o.op with
 | .store ..=>false
 | .call ⟨.builtin .append,_,_⟩=>false
 | .call ⟨.builtin _,_,_⟩=>true
 | .call ⟨.value (.func f),_,_⟩=>match E f with
  | some e=> !(e.muts || e.shares)
  | none=>false
 | .call _=>false
 | .slice ..=> !ann (idOf o)
 | _=>true
def ZGu(E:Env)(ann:Nat->Bool):List Oper->Bool
 | []=>true
 | o::os=>cond (calm E ann o) (ZGu E ann os) false
def bnd(e:Edge):Bool:=match e.ground with
 | .textOnly _=>false
 | .gcOnly _=>false
 | _=>true
def ZBS(o:Oper)(j:Nat):Bool:=o.after.toList.any λe=>cond (Nat.beq e.on j) (bnd e) false
def ZA8(o:Oper):List Nat:=o.op.operands.toList.filterMap λ
 | .tmp t=>some t
 | _=>none
def ZE2(o:Oper)(t:Nat):Bool:=match o.dst with
 | some d=>Nat.beq d t
 | none=>false
def tied(i:Nat)(o:Oper)(t:Nat):Nat->List Oper->Bool
 | _,[]=>true
 | j,x::xs=>cond (ZE2 x t) (Nat.beq i j || cond (Nat.blt j i) (ZBS o j) (ZBS x i)) true && tied i o t (j+1) xs
def ZIA(ops:List Oper)(i:Nat)(o:Oper):Bool:=
 (match o.dst with
  | some d=>Nat.blt d 9000
  | none=>false) &&
 (o.after.toList.all λe=>cond (bnd e) (Nat.blt e.on i) true) &&
 (match o.guard with
  | some (j,_)=>ZBS o j
  | none=>true) &&
 (ZA8 o).all (λt=>tied i o t 0 ops)
def ZFr(ops:List Oper):Nat->List Oper->Bool
 | _,[]=>true
 | i,o::os=>ZIA ops i o && (os.all λx=>match o.dst with
  | some d=> !ZE2 x d
  | none=>false) && ZFr ops (i+1) os
def ZE3(E:Env)(ann:Nat->Bool):List Oper->Nat
 | []=>0
 | o::os=>cond (calm E ann o && o.dst.isSome) (ZE3 E ann os+1) 0
def tset(done:List (List Nat))(o:Oper):List Nat:=ZBe (o.after.toList.flatMap λe=>cond (bnd e) (e.on::done.getD e.on []) [])
def ZBf:List (List Nat)->List Oper->List (List Nat)
 | done,[]=>done
 | done,o::os=>ZBf (done++[tset done o]) os
def ZIB(l:List Nat):Nat->Bool
 | 0=>true
 | n+1=>memN n l && ZIB l n
def ZFs(sets:List (List Nat)):Nat->List Oper->Bool
 | _,[]=>true
 | n,o::os=>ZIB (sets.getD n []) n && (o.after.toList.all λe=>cond (bnd e) (Nat.blt e.on n) true) && ZFs sets (n+1) os
def ZKD(E:Env)(ann:Nat->Bool)(ops:List Oper):Bool:=
 ZGu E ann (ops.take (ZE3 E ann ops)) && ZFr (ops.take (ZE3 E ann ops)) 0 (ops.take (ZE3 E ann ops)) && ZFs (ZBf [] ops) (ops.take (ZE3 E ann ops)).length (ops.drop (ZE3 E ann ops))
def rdyB(ops:List Oper)(done:List Nat)(i:Nat):Bool:=cond (memN i done) false (match ops[i]? with
 | some o=>o.after.toList.all λe=>cond (bnd e) (memN e.on done) true
 | none=>false)
def rdyL(ops:List Oper)(done:List Nat):List Nat:=(List.range ops.length).filter (rdyB ops done)
def ZFt:List (Option R)->Option R
 | []=>none
 | [a]=>a
 | a::b::l=>both a (ZFt (b::l))
def ZGv(E:Env)(T:Tab)(ann:Nat->Bool)(ops:List Oper)(K:St->Option R):Nat->List Nat->St->Option R
 | 0,_,_=>none
 | n+1,done,s=>match rdyL ops done with
  | []=>K s
  | i::is=>ZFt ((i::is).map λi=>match ops[i]? with
   | some o=>ZBD E T ann ops [o] s λs=>ZGv E T ann ops K n (i::done) s
   | none=>none)
def Lf.still:Lf->Bool
 | .c=>true
 | .m _=>true
 | .p=>true
 | .s=>true
 | _=>false
def Sh.still:Sh->Bool
 | .one l=>l.still
 | .agg ls=>ls.all Lf.still
def still(E:Env)(o:Oper):Bool:=match o.op with
 | .store ..=>true
 | .alloc _=>true
 | .call ⟨.value (.func f),_,_⟩=>match E f with
  | some e=> !e.shares || e.pars.all Sh.still
  | none=>false
 | _=>false
def ZGw(sets:List (List Nat)):Nat->List Oper->Nat
 | _,[]=>0
 | n,o::os=>cond (ZFs sets n (o::os)) 0 (ZGw sets (n+1) os+1)
def ZGx(t:Nat)(os:List Oper):Bool:=os.any λx=>ZE2 x t
def ZIC(sets:List (List Nat))(i:Nat)(o:Oper):Nat->List Oper->Bool
 | _,[]=>true
 | j,x::xs=>((ZA8 o).all λt=>cond (ZE2 x t) (memN j (sets.getD i [])) true) && ZIC sets i o (j+1) xs
def ZID(o:Oper)(i:Nat):Nat->List Oper->Bool
 | _,[]=>true
 | j,x::xs=>((ZA8 o).all λt=>cond (ZE2 x t) (Nat.blt j i) true) && ZID o i (j+1) xs
def ZIE(full:List Oper):Nat->List Oper->Bool
 | _,[]=>true
 | i,o::os=>ZID o i 0 full && ZIE full (i+1) os
def ZIF(sets:List (List Nat))(n:Nat)(P R:List Oper):Nat->List Oper->Bool
 | _,[]=>true
 | k,o::os=>ZIC sets (n+k) o 0 P && ((ZA8 o).all λt=> !(ZGx t (R.drop k))) && ZIF sets n P R (k+1) os
def ZKE(P R:List Oper):Bool:=P.all λp=>(match p.dst with
 | some d=> !(ZGx d R)
 | none=>true) && (ZA8 p).all λt=> !(ZGx t R)
def okB(A:ZAI)(pids:List Nat)(st:ZAI):Bool:=st.all λp=>(match look A p.1 with
 | none=>true
 | some _=>false) && pids.all λd=> !(Nat.beq (p.1 % 10000) d)
def okA(A:ZAI)(d:Nat):Bool:=A.all λp=> !(Nat.beq (p.1 % 10000) d)
def hasB(A:ZAI)(id:Nat):Bool:=match look A id with
 | some _=>true
 | none=>false
def ZIG(A:ZAI):V->Bool
 | .own i=>hasB A i
 | .ownv i _ _=>hasB A i
 | .lptr i _=>hasB A i
 | .eptr i _ _=>hasB A i
 | .fn _ cap=>allB V.idfree cap
 | _=>true
def okF(A:ZAI):Bool:=A.all λp=>match p.2 with
 | .box cs=>allB (ZIG A) cs
 | .rows _ _=>true
def ZEM(E:Env)(ann:Nat->Bool):List Oper->Nat
 | []=>0
 | o::os=>cond (calm E ann o && (o.dst.isSome && !(ann (900000+o.dst.getD 0)))) (ZEM E ann os+1) 0
def ZEN(E:Env)(ann:Nat->Bool)(ops:List Oper):List Oper×List Oper×List Oper:=
 (ops.take (ZEM E ann ops),(ops.drop (ZEM E ann ops)).take (ZGw (ZBf [] ops) (ZEM E ann ops) (ops.drop (ZEM E ann ops))),(ops.drop (ZEM E ann ops)).drop (ZGw (ZBf [] ops) (ZEM E ann ops) (ops.drop (ZEM E ann ops))))
def ZCO(i:Nat):Nat->List Nat->Nat
 | n,[]=>n
 | n,j::js=>cond (Nat.beq i j) n (ZCO i (n+1) js)
def renE(ix:List Nat)(e:Edge):Edge:= {e with on:=ZCO e.on 0 ix}
def renO(ix:List Nat)(o:Oper):Oper:= {o with after:=(o.after.toList.map (renE ix)).toArray}
def ZIH(ops:List Oper)(ix:List Nat)(i:Nat):Option Oper:=match ops[i]? with
 | some o=>some (renO ix o)
 | none=>none
def ZDC(ops:List Oper)(ix:List Nat):List Oper:=ix.filterMap (ZIH ops ix)
def ZGy(E:Env)(ann:Nat->Bool):Nat->List Nat->List Oper->List Nat
 | _,acc,[]=>acc
 | i,acc,o::os=>ZGy E ann (i+1) (cond (calm E ann o && (o.dst.isSome && (!(ann (900000+o.dst.getD 0)) && o.after.toList.all λe=>cond (bnd e) (memN e.on acc) true))) (acc++[i]) acc) os
def ZGz(E:Env)(ann:Nat->Bool)(ops:List Oper):List Nat:=
 ZGy E ann 0 [] ops++(List.range ops.length).filter λi=> !(memN i (ZGy E ann 0 [] ops))
def ZII(ops:List Oper)(ix:List Nat):Bool:=
 Nat.beq ix.length ops.length && (ops.all λo=>o.guard.isNone && o.after.toList.all λe=>Nat.blt e.on ops.length) && (List.range ops.length).all λp=>
  Nat.blt (ix.getD p ops.length) ops.length && (Nat.beq (ZCO (ix.getD p 0) 0 ix) p && (Nat.beq (ix.getD (ZCO p 0 ix) 0) p && Nat.blt (ZCO p 0 ix) ops.length))
def ZIJ(n:Nat):Nat->List Oper->Bool
 | _,[]=>true
 | k,o::os=>o.guard.isNone && ((o.after.toList.all λe=>cond (bnd e) (Nat.blt e.on (n+k)) true) && ZIJ n (k+1) os)
def ZG0(E:Env)(ann:Nat->Bool)(P R1 R2:List Oper)(sets:List (List Nat)):Bool:=
 ZGu E ann P && (ZFr P 0 P && (ZIE P 0 P && (ZIJ P.length 0 R1 && (ZIF sets P.length P [] 0 R1 && (ZKE P R1 && ZFs sets (P.length+R1.length) R2)))))
def rdyR(sets:List (List Nat))(n m:Nat)(done:List Nat):List Nat:=
 (List.range m).filter λi=>cond (memN i done) false ((sets.getD (n+i) []).all λj=>cond (Nat.blt j n) true (memN (j-n) done))
def ZKF(E:Env)(ann:Nat->Bool)(o:Oper):Bool:=still E o || calm E ann o
def ZG1:Lf->V->Bool
 | .r _,.lst _ _=>true
 | .r _,.nils=>true
 | .r _,.undef=>true
 | l,_=>l.still
def ZIK:List Lf->List V->Bool
 | l::ls,v::vs=>ZG1 l v && ZIK ls vs
 | _,_=>true
def ZNG:Sh->V->Bool
 | .one l,v=>ZG1 l v
 | .agg ls,.agg cs=>ZIK ls cs
 | _,_=>true
def ZG2:List Sh->List V->Bool
 | s::ss,v::vs=>ZNG s v && ZG2 ss vs
 | _,_=>true
def ZE4(id:Nat):V->Bool
 | .own i=> !(Nat.beq i id)
 | .ownv i _ _=> !(Nat.beq i id)
 | .lptr i _=> !(Nat.beq i id)
 | .eptr i _ _=> !(Nat.beq i id)
 | .fn _ _=>false
 | .agg _=>false
 | .tup _=>false
 | _=>true
def ZE5(id:Nat):V->Bool
 | .agg cs=>allB (ZE4 id) cs
 | v=>ZE4 id v
def ZG3(E:Env)(ann:Nat->Bool)(tch:List Nat)(o:Oper)(fr:List V):Bool:=ZKF E ann o || match o.op with
 | .call ⟨.value (.func f),args,_⟩=>(match E f with
  | some e=>ZG2 e.pars (args.toList.map (opd fr))
  | none=>false)
 | .call ⟨.builtin .append,args,_⟩=>(match args.toList.map (opd fr)with
  | [.own id,_]=>tch.all λt=>ZE5 id (get fr t)
  | _=>false)
 | _=>false
def ZE6(E:Env)(T:Tab)(ann:Nat->Bool)(ops:List Oper)(A:ZAI)(pids:List Nat)(sets:List (List Nat))(n:Nat)(tch:List Nat)(R1:List Oper)(K:St->Option R):Nat->List Nat->St->Option R
 | 0,_,_=>none
 | f+1,done,s=>cond (okB A pids s.st) (match rdyR sets n R1.length done with
  | []=>cond ((List.range R1.length).all λi=>memN i done) (K s) none
  | i::is=>ZFt ((i::is).map λi=>match R1[i]? with
   | some o=>cond (okA A (idOf o % 10000) && ZG3 E ann tch o s.fr) (ZBD E T ann ops [o] s λs=>ZE6 E T ann ops A pids sets n tch R1 K f (i::done) s) none
   | none=>none)) none
def ZKG(P:List Oper):List Nat:=P.flatMap λo=>o.dst.toList++ZA8 o
def ZKH(E:Env)(T:Tab)(ann:Nat->Bool)(rid:Nat)(ops P R1 R2:List Oper)(s:St)(K:St->Option R):Option R:=
 ZBD E T ann ops P ⟨s.fr,s.st.filter λp=> !(ann (1000000+rid*100000+p.1))⟩ λs1=>
  cond (okF s1.st) (ZE6 E T ann ops s1.st (P.map λo=>idOf o % 10000) (ZBf [] ops) P.length (ZKG P) R1 (λs2=>
   ZBD E T ann ops R2 ⟨s2.fr,s2.st++s1.st⟩ K) (R1.length+1) [] ⟨s1.fr,s.st.filter λp=>ann (1000000+rid*100000+p.1)⟩) none
def ZEO(n:Nat)(ops:List Oper):List Oper×List Oper×List Oper:=
 (ops.take n,(ops.drop n).take (ZGw (ZBf [] ops) n (ops.drop n)),(ops.drop n).drop (ZGw (ZBf [] ops) n (ops.drop n)))
def ZIL(E:Env)(T:Tab)(ann:Nat->Bool)(rid:Nat)(ops:List Oper)(p:List Oper×List Oper×List Oper)(s:St)(K:St->Option R):Option R:=
 cond (ZG0 E ann p.1 p.2.1 p.2.2 (ZBf [] ops)) (ZKH E T ann rid ops p.1 p.2.1 p.2.2 s K) none
def ZNH(E:Env)(T:Tab)(ann:Nat->Bool)(rid:Nat)(ops:List Oper)(s:St)(K:St->Option R):Option R:=
 cond (ZII ops (ZGz E ann ops)) (ZIL E T ann rid (ZDC ops (ZGz E ann ops)) (ZEO (ZGy E ann 0 [] ops).length (ZDC ops (ZGz E ann ops))) s K) none
abbrev LEnv(R:Type):=Nat->Option (St->(St->Option R)->Option R)
def ev(E:Env)(T:Tab)(ann:Nat->Bool)(L:LEnv R)(kr:St->Option R):Code->(Nat->St->Option R)->(St->Option R)->St->Option R
 | .skip,_,K,s=>K s
 | .region id ops true,_,K,s=>cond (ZKD E ann ops.toList) (ZBD E T ann ops.toList ops.toList s K)
   (cond (ann (1000000+id*100000+99999)) (ZIL E T ann id ops.toList (ZEN E ann ops.toList) s K)
    (cond (ann (1000000+id*100000+99998)) (ZNH E T ann id ops.toList s K) (cond (Nat.ble ops.size 9) (ZGv E T ann ops.toList K (ops.size+1) [] s) none)))
 | .region _ ops false,_,K,s=>ZGt E T ann ops.toList ops.toList s K
 | .seq a b,X,K,s=>ev E T ann L kr a X (λs=>ev E T ann L kr b X K s) s
 | .cond c a b,X,K,s=>match opd s.fr c with
  | .bool t=>cond t (ev E T ann L kr a X K s) (ev E T ann L kr b X K s)
  | _=>none
 | .block id (.loop _),X,K,s=>match L id with
  | some l=>l s K
  | none=>none
 | .block id c,X,K,s=>ev E T ann L kr c (λi s=>cond (Nat.beq i id) (K s) (X i s)) K s
 | .exit id,X,_,s=>X id s
 | .ret,_,_,s=>kr s
 | _,_,_,_=>none
def pack:List V->V
 | [v]=>v
 | vs=> .tup vs
def ZFu(T:Tab)(s:St):List ResultVar->(List V->Option R)->Option R
 | [],K=>K []
 | .tmp t::rs,K=>ZFu T s rs λvs=>K (get s.fr t::vs)
 | .cell a t::rs,K=>match T.get t with
  | some ti=>ZGr ti s.st (get s.fr a) λv=>ZFu T s rs λvs=>K (v::vs)
  | none=>none
def ZBA:Nat->List Blk->ZAI
 | _,[]=>[]
 | n,b::bs=>(n,b)::ZBA (n+1) bs
end
end Ev
end
section
namespace Ev
open Go
def sv:V->Value
 | .int k n=> .int k n
 | .bool b=> .bool b
 | .str s=> .string ⟨⟨s⟩⟩
 | .nils=> .slice none 0 0
 | _=>undef
def flat(t:Ty)(l:List t.den):List Value:=l.flatMap λd=>(t.cells d).map sv
inductive Loc | box (b n:Nat) | row (t:Ty) (a:Option Addr) (len cap:Nat)
def Loc.block:Loc->Option Nat
 | .box b _=>some b
 | .row _ (some a) _ cap=>if cap=0 then none else some a.block
 | .row _ none _ _=>none
abbrev Rho:=Nat->Option Loc
def Rho.M(ρ:Rho)(b:Nat):Prop:= ∃id loc,ρ id=some loc/\loc.block=some b
def At(w:World)(b s:Nat)(vs:List Value):Prop:= ∀i v,vs[i]?=some v->w.cell? ⟨b,s+i,none⟩=some v
def RelB(ρ:Rho)(F:Nat->Prop)(w:World):V->Value->Prop
 | .undef,_=>True
 | .int k n,c=>c= .int k n
 | .bool b,c=>c= .bool b
 | .str s,c=>c= .string ⟨⟨s⟩⟩
 | .nils,c=>c= .slice none 0 0
 | .lst t l,c=> ∃a cap,c= .slice a l.length cap/\l.length<=cap/\(l=[]\/ ∃b s,a=some ⟨b,s,none⟩/\F b/\At w b s (flat t l))
 | .own id,c=> ∃t a len cap,ρ id=some (.row t a len cap)/\c= .slice a len cap
 | .ownv id lo hi,c=> ∃t a len cap,ρ id=some (.row t a len cap)/\lo<=hi/\hi<=len/\len<=cap/\c= .slice (if cap-lo=0 then a else a.map (·.add (lo*t.width))) (hi-lo) (cap-lo)
 | .sptr cs,c=> ∃b s,c= .pointer (some ⟨b,s,none⟩)/\F b/\allB V.plain cs=true/\At w b s (cs.map sv)
 | .lptr id off,c=> ∃b n,ρ id=some (.box b n)/\c= .pointer (some ⟨b,off,none⟩)
 | .eptr id row col,c=> ∃t b s len cap,ρ id=some (.row t (some ⟨b,s,none⟩) len cap)/\row<len/\c= .pointer (some ⟨b,s+(row*t.width+col),none⟩)
 | _,_=>False
def RelC(ρ:Rho)(F:Nat->Prop)(w:World):V->Value->Prop
 | .fn f cap,c=> ∃ca:Array Value,c= .func (.func f) #[] ca/\ca.size=cap.length/\ ∀(i:Nat) (v:V),cap[i]?=some v-> ∃c,ca[i]?=some c/\RelB ρ F w v c
 | v,c=>RelB ρ F w v c
def RelA(ρ:Rho)(F:Nat->Prop)(w:World):V->Value->Prop
 | .agg cs,c=> ∃ca:Array Value,c= .agg ca/\ca.size=cs.length/\ ∀(i:Nat) (v:V),cs[i]?=some v-> ∃c,ca[i]?=some c/\RelC ρ F w v c
 | v,c=>RelC ρ F w v c
def RelT(ρ:Rho)(F:Nat->Prop)(w:World):V->Value->Prop
 | .tup vs,c=> ∃ca:Array Value,c= .tuple ca/\ca.size=vs.length/\ ∀(i:Nat) (v:V),vs[i]?=some v-> ∃c,ca[i]?=some c/\RelA ρ F w v c
 | v,c=>RelA ρ F w v c
def RowB(w:World)(b:Nat)(arr:Array Value):Prop:= ∃e lo hi,w.heap[b]?=some (.cells arr e (lo,hi))/\ ∀i,i<arr.size-> ¬(lo<=i/\i<hi)
def ZCh(ρ:Rho)(F:Nat->Prop)(w:World):Loc->Blk->Prop
 | .box b n,.box cs=>cs.length=n/\ ∃arr,RowB w b arr/\arr.size=n/\ ∀(i:Nat) (v:V),cs[i]?=some v-> ∃c,arr[i]?=some c/\RelC ρ F w v c
 | .row t a len cap,.rows t' l=> ∃h:t'=t,l.length=len/\len<=cap/\(cap=0\/ ∃b s arr,a=some ⟨b,s,none⟩/\RowB w b arr/\s+cap*t.width<=arr.size/\At w b s (flat t' l))
 | _,_=>False
def GP:List (Nat×(Array Value->Prop)):=[(0,λcs=> ∃m,cs= #[Value.int .i64 m]),(1,λcs=> ∀c,c<256->cs[c]?=some (.int .u8 (Go.Lib.firstT c))),(2,λcs=> ∀i,i<16->cs[2*i]?=some (.int .u8 (Go.Lib.accLo i))/\cs[2*i+1]?=some (.int .u8 (Go.Lib.accHi i))),(3,λcs=>cs=(Go.Lib.pow10Tab.map λz=>Value.int .u64 z).toArray)]
def Glob(F:Nat->Prop)(w:World):Prop:= ∀x∈GP,F x.1/\ ∃cs e r,w.heap[x.1]?=some (.cells cs e r)/\x.2 cs
theorem Glob.keep{F F':Nat->Prop}{w w':World}(h:Glob F w)(hF: ∀b,F b->F' b)(hm: ∀b,F b->w'.heap[b]?=w.heap[b]?):Glob F' w':=λx hx=>
 let ⟨h1,cs,e,r,h2,h3⟩:=h x hx
 ⟨hF x.1 h1,cs,e,r,(hm x.1 h1).trans h2,h3⟩
structure Core(ρ:Rho)(F:Nat->Prop)(σ:ZAI)(w:World):Prop where
 heap: ∀id loc blk,ρ id=some loc->look σ id=some blk->ZCh ρ F w loc blk
 inj: ∀i j li lj b,ρ i=some li->ρ j=some lj->li.block=some b->lj.block=some b->i=j
 stable: ∀b,F b->b<w.heap.size/\ ¬ρ.M b
 glob:Glob F w
theorem ZBE(b s n:Nat):(⟨b,s,none⟩:Addr).add n=⟨b,s+n,none⟩:=by
 unfold Addr.add;split
 ·subst_vars;rfl
 ·rfl
theorem ZAs{w:World}{b:Nat}{arr:Array Value}(h:RowB w b arr)(i:Nat):w.cell? ⟨b,i,none⟩=arr[i]?:=by
 obtain⟨e,lo,hi,h,_⟩:=h
 simp[World.cell?,h]
theorem RowB.lt{w:World}{b:Nat}{arr:Array Value}(h:RowB w b arr):b<w.heap.size:=by
 obtain⟨e,lo,hi,h,_⟩:=h
 exact(Array.getElem?_eq_some_iff.mp h).1
theorem RowB.of_block{w w':World}{b:Nat}{arr:Array Value}(h:RowB w b arr)(e:w'.heap[b]?=w.heap[b]?):RowB w' b arr:=by
 obtain⟨t,lo,hi,h,k⟩:=h
 exact⟨t,lo,hi,e.trans h,k⟩
theorem At.of_block{w w':World}{b s:Nat}{vs:List Value}(h:At w b s vs)(e:w'.heap[b]?=w.heap[b]?):At w' b s vs:=by
 intro i v hv
 rw[<-h i v hv]
 simp[World.cell?,e]
theorem ZDa{v:V}(h:v.plain=true):(∃k n,v= .int k n)\/(∃b,v= .bool b)\/(∃s,v= .str s):=by
 cases v<;>simp[V.plain]at h⊢
theorem RelB.plain{ρ:Rho}{F:Nat->Prop}{w:World}{v:V}{c:Value}(hp:v.plain=true):RelB ρ F w v c↔c=sv v:=by
 rcases ZDa hp with ⟨k,n,rfl⟩ | ⟨b,rfl⟩ | ⟨s,rfl⟩<;>simp[RelB,sv]
theorem ZCB{p:V->Bool}{l:List V}(h:allB p l=true): ∀v∈l,p v=true:=by
 induction l with
 | nil=>simp
 | cons a r ih=>
  simp only[allB]at h
  cases hp:p a<;>simp[hp]at h
  intro v hv
  rcases List.mem_cons.mp hv with rfl | hv
  ·exact hp
  ·exact ih h v hv
theorem ZKI{p:V->Bool}{l:List V}(h: ∀v∈l,p v=true):allB p l=true:=by
 induction l with
 | nil=>rfl
 | cons a r ih=>
  simp only[allB,h a (by simp)]
  exact ih λv hv=>h v (by simp[hv])
structure Ext(X:Nat->Prop)(ρ:Rho)(F:Nat->Prop)(w:World)(ρ':Rho)(F':Nat->Prop)(w':World):Prop where
 ids: ∀id l,¬X id->ρ id=some l->ρ' id=some l
 stab: ∀b,F b->F' b
 mem: ∀b,F b->w'.heap[b]?=w.heap[b]?
theorem Ext.refl{X:Nat->Prop}{ρ:Rho}{F:Nat->Prop}{w:World} :Ext X ρ F w ρ F w:=⟨λ_ _ _ h=>h,λ_ h=>h,λ_ _=>rfl⟩
def AvC(X:Nat->Prop):V->Prop
 | .own i=> ¬X i | .ownv i _ _=> ¬X i | .lptr i _=> ¬X i | .eptr i _ _=> ¬X i
 | .fn _ cap=> ∀v∈cap,match v with | .own i=> ¬X i | .ownv i _ _=> ¬X i | .lptr i _=> ¬X i | .eptr i _ _=> ¬X i | _=>True
 | _=>True
theorem RelB.ext{X:Nat->Prop}{ρ ρ':Rho}{F F':Nat->Prop}{w w':World}(E:Ext X ρ F w ρ' F' w'){v:V}{c:Value}
  (ha:match v with | .own i=> ¬X i | .ownv i _ _=> ¬X i | .lptr i _=> ¬X i | .eptr i _ _=> ¬X i | _=>True) (h:RelB ρ F w v c):RelB ρ' F' w' v c:=by
 cases v<;>simp only[RelB]at h⊢ <;>try exact h
 case lst t l=>
  obtain⟨a,cap,e,hl,h⟩:=h
  refine⟨a,cap,e,hl,h.imp id ?_⟩
  rintro ⟨b,s,ha,hf,hat⟩
  exact⟨b,s,ha,E.stab b hf,hat.of_block (E.mem b hf)⟩
 case own id=>
  obtain⟨t,a,len,cap,h,e⟩:=h
  exact⟨t,a,len,cap,E.ids _ _ ha h,e⟩
 case ownv id lo hi=>
  obtain⟨t,a,len,cap,h,e⟩:=h
  exact⟨t,a,len,cap,E.ids _ _ ha h,e⟩
 case sptr cs=>
  obtain⟨b,s,e,hf,hp,hat⟩:=h
  exact⟨b,s,e,E.stab b hf,hp,hat.of_block (E.mem b hf)⟩
 case lptr id off=>
  obtain⟨b,n,h,e⟩:=h
  exact⟨b,n,E.ids _ _ ha h,e⟩
 case eptr id row col=>
  obtain⟨t,b,s,len,cap,h,e⟩:=h
  exact⟨t,b,s,len,cap,E.ids _ _ ha h,e⟩
theorem RelC.ext{X:Nat->Prop}{ρ ρ':Rho}{F F':Nat->Prop}{w w':World}(E:Ext X ρ F w ρ' F' w'){v:V}{c:Value}
  (ha:AvC X v) (h:RelC ρ F w v c):RelC ρ' F' w' v c:=by
 cases v<;>simp only[RelC]at h⊢ <;>try exact RelB.ext E ha h
 case fn f cap=>
  obtain⟨ca,e,hs,h⟩:=h
  refine⟨ca,e,hs,λi v hv=> ?_⟩
  obtain⟨c,hc,r⟩:=h i v hv
  exact⟨c,hc,RelB.ext E (ha v (al_mem_get hv)) r⟩
theorem ZS6(v:V):AvC (λ_=>False) v:=by
 cases v<;>simp[AvC]
 intro v _;cases v<;>simp
theorem RelC.ext0{ρ ρ':Rho}{F F':Nat->Prop}{w w':World}(E:Ext (λ_=>False) ρ F w ρ' F' w'){v:V}{c:Value}(h:RelC ρ F w v c):RelC ρ' F' w' v c:=
 RelC.ext E (ZS6 v) h
theorem RelA.ext0{ρ ρ':Rho}{F F':Nat->Prop}{w w':World}(E:Ext (λ_=>False) ρ F w ρ' F' w'){v:V}{c:Value}(h:RelA ρ F w v c):RelA ρ' F' w' v c:=by
 cases v<;>simp only[RelA]at h⊢ <;>try exact RelC.ext0 E h
 case agg cs=>
  obtain⟨ca,e,hs,h⟩:=h
  exact⟨ca,e,hs,λi v hv=>let ⟨c,hc,r⟩:=h i v hv;⟨c,hc,RelC.ext0 E r⟩⟩
theorem RelT.ext0{ρ ρ':Rho}{F F':Nat->Prop}{w w':World}(E:Ext (λ_=>False) ρ F w ρ' F' w'){v:V}{c:Value}(h:RelT ρ F w v c):RelT ρ' F' w' v c:=by
 cases v<;>simp only[RelT]at h⊢ <;>try exact RelA.ext0 E h
 case tup vs=>
  obtain⟨ca,e,hs,h⟩:=h
  exact⟨ca,e,hs,λi v hv=>let ⟨c,hc,r⟩:=h i v hv;⟨c,hc,RelA.ext0 E r⟩⟩
theorem RelC.undef{ρ:Rho}{F:Nat->Prop}{w:World}(c:Value):RelC ρ F w .undef c:=trivial
theorem RelT.undef{ρ:Rho}{F:Nat->Prop}{w:World}(c:Value):RelT ρ F w .undef c:=trivial
def WkC(ρ:Rho)(F:Nat->Prop)(w:World)(ρ':Rho)(F':Nat->Prop)(w':World)(g:V->V):Prop:= ∀v c,RelC ρ F w v c->RelC ρ' F' w' (g v) c
theorem WkC.toA{ρ ρ':Rho}{F F':Nat->Prop}{w w':World}{g gA:V->V}(hA: ∀cs,gA (.agg cs)= .agg (cs.map g))(hA': ∀v,(∀cs,v≠ .agg cs)->gA v=g v)
  (hg: ∀v cs,g v= .agg cs->False)
  (h:WkC ρ F w ρ' F' w' g) {v:V} {c:Value} (r:RelA ρ F w v c):RelA ρ' F' w' (gA v) c:=by
 by_cases hv: ∃cs,v= .agg cs
 ·obtain⟨cs,rfl⟩:=hv
  rw[hA]
  obtain⟨ca,e,hs,r⟩:=r
  refine⟨ca,e,by simpa using hs,λi u hu=> ?_⟩
  rw[List.getElem?_map]at hu
  cases hc:cs[i]? with
  | none=>simp[hc]at hu
  | some x=>
   simp[hc]at hu
   obtain⟨c,hc',r⟩:=r i x hc
   exact⟨c,hc',hu▸h x c r⟩
 ·have hv': ∀cs,v≠ .agg cs:=λcs e=>hv ⟨cs,e⟩
  rw[hA' v hv']
  have r':RelC ρ F w v c:=by cases v<;>first | exact r | exact absurd rfl (hv' _)
  have:=h v c r'
  generalize hz:g v=z at this
  cases z<;>first | exact this | exact(hg v _ hz).elim
theorem WkC.toT{ρ ρ':Rho}{F F':Nat->Prop}{w w':World}{g gA gT:V->V}(hA: ∀cs,gA (.agg cs)= .agg (cs.map g))(hA': ∀v,(∀cs,v≠ .agg cs)->gA v=g v)
  (hT: ∀cs,gT (.tup cs)= .tup (cs.map gA)) (hT': ∀v,(∀cs,v≠ .tup cs)->gT v=gA v)
  (hg: ∀v cs,g v= .agg cs->False) (hg': ∀v cs,g v= .tup cs->False)
  (h:WkC ρ F w ρ' F' w' g) {v:V} {c:Value} (r:RelT ρ F w v c):RelT ρ' F' w' (gT v) c:=by
 by_cases hv: ∃cs,v= .tup cs
 ·obtain⟨cs,rfl⟩:=hv
  rw[hT]
  obtain⟨ca,e,hs,r⟩:=r
  refine⟨ca,e,by simpa using hs,λi u hu=> ?_⟩
  rw[List.getElem?_map]at hu
  cases hc:cs[i]? with
  | none=>simp[hc]at hu
  | some x=>
   simp[hc]at hu
   obtain⟨c,hc',r⟩:=r i x hc
   exact⟨c,hc',hu▸h.toA hA hA' hg r⟩
 ·have hv': ∀cs,v≠ .tup cs:=λcs e=>hv ⟨cs,e⟩
  rw[hT' v hv']
  have r':RelA ρ F w v c:=by cases v<;>first | exact r | exact absurd rfl (hv' _)
  have:=h.toA hA hA' hg r'
  generalize hz:gA v=z at this
  cases z<;>try exact this
  exfalso
  by_cases ha: ∃cs,v= .agg cs
  ·obtain⟨cs,rfl⟩:=ha;rw[hA]at hz;cases hz
  ·rw[hA' v λcs e=>ha ⟨cs,e⟩]at hz;exact hg' v _ hz
theorem ZKJ{ρ ρ':Rho}{F F':Nat->Prop}{w w':World}{id:Nat}(E:Ext (λi=>i=id) ρ F w ρ' F' w'):WkC ρ F w ρ' F' w' (ZCA id):=by
 intro v c r
 cases v<;>try exact RelC.undef c
 case own i | ownv i _ _ | lptr i _ | eptr i _ _=>
  simp only[ZCA]
  cases h:Nat.beq i id
  ·exact RelC.ext E (show¬i=id from λe=>by subst e;simp at h) r
  ·exact RelC.undef c
 all_goals exact RelC.ext E (X:=λi=>i=id) trivial r
theorem ZNI{id:Nat}{v:V}{cs:List V}(h:ZCA id v= .agg cs):False:=by
 cases v<;>simp only[ZCA]at h<;>try cases h
 all_goals (revert h;cases Nat.beq _ id<;>exact λh=>nomatch h)
theorem ZNJ{id:Nat}{v:V}{cs:List V}(h:ZCA id v= .tup cs):False:=by
 cases v<;>simp only[ZCA]at h<;>try cases h
 all_goals (revert h;cases Nat.beq _ id<;>exact λh=>nomatch h)
theorem ZS7{ρ ρ':Rho}{F F':Nat->Prop}{w w':World}{id:Nat}(E:Ext (λi=>i=id) ρ F w ρ' F' w'){v:V}{c:Value}(r:RelT ρ F w v c):RelT ρ' F' w' (ZGo id v) c:=by
 refine(ZKJ E).toT (gA:=ZJ7 id) (λ_=>rfl) ?_ (λ_=>rfl) ?_ (λ_ _=>ZNI) (λ_ _=>ZNJ) r
 ·intro v hv;cases v<;>first | rfl | exact absurd rfl (hv _)
 ·intro v hv;cases v<;>first | rfl | exact absurd rfl (hv _)
end Ev
end
section
namespace Ev
open Go
def DR(a b:Nat):Prop:=a<=b\/True
theorem DR.refl(a:Nat):DR a a:=by unfold DR;first | exact Nat.le_refl _ | exact .inr trivial
theorem DR.succ(a:Nat):DR a (a+1):=by unfold DR;first | exact Nat.le_succ _ | exact .inr trivial
theorem DR.add(a k:Nat):DR a (a+k):=by unfold DR;first | exact Nat.le_add_right _ _ | exact .inr trivial
theorem DR.trans{a b c:Nat}(h:DR a b)(k:DR b c):DR a c:=by unfold DR at*;first | exact Nat.le_trans h k | exact .inr trivial
structure Chg(B:Nat->Prop)(w w':World):Prop where
 os:w'.os=w.os
 tape:w'.tape=w.tape
 output:w'.output=w.output
 size:w.heap.size<=w'.heap.size
 block: ∀b,b<w.heap.size-> ¬B b->w'.heap[b]?=w.heap[b]?
 drew:DR w.drawn w'.drawn
theorem Chg.refl(B:Nat->Prop)(w:World):Chg B w w:=⟨rfl,rfl,rfl,Nat.le_refl _,λ_ _ _=>rfl,DR.refl _⟩
theorem Chg.trans{A B C:Nat->Prop}{a b c:World}(h:Chg A a b)(k:Chg B b c)(ha: ∀x,A x->C x)(hb: ∀x,x<a.heap.size->B x->C x):Chg C a c:=
 ⟨k.os.trans h.os,k.tape.trans h.tape,k.output.trans h.output,Nat.le_trans h.size k.size,λx hx hc=>
  (k.block x (Nat.lt_of_lt_of_le hx h.size) λe=>hc (hb x hx e)).trans (h.block x hx λe=>hc (ha x e)),DR.trans h.drew k.drew⟩
theorem Chg.mono{A B:Nat->Prop}{a b:World}(h:Chg A a b)(k: ∀x,A x->B x):Chg B a b:=
 ⟨h.os,h.tape,h.output,h.size,λx hx hb=>h.block x hx λe=>hb (k x e),h.drew⟩
theorem ZCh.lt{ρ:Rho}{F:Nat->Prop}{w:World}{loc:Loc}{blk:Blk}(h:ZCh ρ F w loc blk){b:Nat}(hb:loc.block=some b):b<w.heap.size:=by
 cases loc with
 | box b' n=>
  cases blk with
  | box cs=>
   obtain⟨_,arr,hr,_⟩:=h
   simp[Loc.block]at hb;subst hb;exact hr.lt
  | rows t l=>exact h.elim
 | row t a len cap=>
  cases blk with
  | box cs=>exact h.elim
  | rows t' l=>
   obtain⟨_,_,_,h⟩:=h
   cases a with
   | none=>simp[Loc.block]at hb
   | some a=>
    simp only[Loc.block]at hb
    split at hb
    ·cases hb
    ·rename_i hc
     rcases h with h | ⟨b',s,arr,e,hr,_⟩
     ·exact absurd h hc
     ·cases e;cases hb;exact hr.lt
def ZNK(ρ:Rho)(F:Nat->Prop)(w:World)(ρ':Rho)(F':Nat->Prop)(w':World):Blk->Blk->Prop
 | .box cs,.box cs'=>cs'.length=cs.length/\ ∀(i:Nat) (v v':V),cs[i]?=some v->cs'[i]?=some v'-> ∀c,RelC ρ F w v c->RelC ρ' F' w' v' c
 | .rows t l,x=>x= .rows t l
 | _,_=>False
theorem ZCh.weaken{ρ ρ':Rho}{F F':Nat->Prop}{w w':World}{loc:Loc}{blk blk':Blk}(h:ZCh ρ F w loc blk)
  (hm: ∀b,loc.block=some b->w'.heap[b]?=w.heap[b]?) (hk:ZNK ρ F w ρ' F' w' blk blk'):ZCh ρ' F' w' loc blk':=by
 cases loc with
 | box b n=>
  cases blk with
  | rows t l=>exact h.elim
  | box cs=>
   cases blk' with
   | rows t l=>exact hk.elim
   | box cs'=>
    obtain⟨hl,arr,hr,hs,hc⟩:=h
    obtain⟨hl',hk⟩:=hk
    refine⟨by omega,arr,hr.of_block (hm b rfl),hs,λi v' hv'=> ?_⟩
    have hi:i<cs.length:=by
     have:=(al_get_iff.mp hv').1
     omega
    obtain⟨c,hc',r⟩:=hc i cs[i] (al_get_get hi)
    exact⟨c,hc',hk i _ v' (al_get_get hi) hv' c r⟩
 | row t a len cap=>
  cases blk with
  | box cs=>exact h.elim
  | rows t' l=>
   have e:blk'= .rows t' l:=hk
   subst e
   obtain⟨ht,hl,hc,h⟩:=h
   refine⟨ht,hl,hc,?_⟩
   by_cases h0:cap=0
   ·exact .inl h0
   ·refine .inr ?_
    rcases h with h | ⟨b,s,arr,e,hr,hle,hat⟩
    ·exact absurd h h0
    ·have hb:=hm b (by subst e;simp[Loc.block,h0])
     exact⟨b,s,arr,e,hr.of_block hb,hle,hat.of_block hb⟩
theorem ZFv{ρ ρ':Rho}{F F':Nat->Prop}{σ σ':ZAI}{w w':World}(S:Nat->Prop)(H:Core ρ F σ w)
  (mem: ∀id loc b,¬S id->ρ' id=some loc->loc.block=some b->w'.heap[b]?=w.heap[b]?)
  (old: ∀id loc,¬S id->ρ' id=some loc->ρ id=some loc)
  (sto: ∀id blk',¬S id->look σ' id=some blk'-> ∃blk,look σ id=some blk/\ZNK ρ F w ρ' F' w' blk blk')
  (new: ∀id loc blk,S id->ρ' id=some loc->look σ' id=some blk->ZCh ρ' F' w' loc blk)
  (injS: ∀i j li lj b,S i->ρ' i=some li->ρ' j=some lj->li.block=some b->lj.block=some b->i=j)
  (stable: ∀b,F' b->b<w'.heap.size/\ ¬ρ'.M b) (gl:Glob F' w'):Core ρ' F' σ' w' where
 heap id loc blk h1 h2:=by
  by_cases hs:S id
  ·exact new id loc blk hs h1 h2
  ·obtain⟨b0,h0,hk⟩:=sto id blk hs h2
   exact(H.heap id loc b0 (old id loc hs h1) h0).weaken (λb hb=>mem id loc b hs h1 hb) hk
 inj i j li lj b hi hj hbi hbj:=by
  by_cases hs:S i
  ·exact injS i j li lj b hs hi hj hbi hbj
  ·by_cases ht:S j
   ·exact(injS j i lj li b ht hj hi hbj hbi).symm
   ·exact H.inj i j li lj b (old i li hs hi) (old j lj ht hj) hbi hbj
 stable:=stable
 glob:=gl
theorem ZNL{ρ:Rho}{F F':Nat->Prop}{σ:ZAI}{w w':World}(H:Core ρ F σ w)(h:Chg (λ_=>False) w w')
  (hF: ∀b,F b->F' b) (hF': ∀b,F' b->b<w'.heap.size/\ ¬ρ.M b) (hM: ∀b,ρ.M b->b<w.heap.size):Core ρ F' σ w':=
 ZFv (λ_=>False) H (λid loc b _ h1 h2=>h.block b (hM b ⟨id,loc,h1,h2⟩) (λe=>e)) (λ_ _ _ h=>h)
  (λid blk _ hl=>⟨blk,hl,by
   cases blk with
   | rows t l=>rfl
   | box cs=>
    refine⟨rfl,λi v v' h1 h2 c r=> ?_⟩
    rw[h1]at h2;cases h2
    exact RelC.ext0 ⟨λ_ _ _ h=>h,hF,λb hb=>h.block b (H.stable b hb).1 (λe=>e)⟩ r⟩)
  (λ_ _ _ h=>h.elim) (λ_ _ _ _ _ h=>h.elim) hF' (H.glob.keep hF λb hb=>h.block b (H.stable b hb).1 (λe=>e))
structure Stp(ρ:Rho)(F:Nat->Prop)(w:World)(ρ':Rho)(F':Nat->Prop)(w':World):Prop where
 chg:Chg ρ.M w w'
 mb: ∀b,ρ'.M b->ρ.M b\/w.heap.size<=b
 stb: ∀b,F' b->F b\/ρ.M b\/w.heap.size<=b
def ZCC(dst id:Nat):Prop:= ∃j,id=dst+10000*j
def Dom(ρ:Rho)(σ:ZAI):Prop:= ∀id l,ρ id=some l->look σ id≠none
structure Post(calm:Prop)(dst:Nat)(ρ:Rho)(F:Nat->Prop)(s:St)(w:World)(v:V)(s':St)(ρ':Rho)(F':Nat->Prop)(w':World)(c:Value):Prop where
 core:Core ρ' F' s'.st w'
 stp:Stp ρ F w ρ' F' w'
 val:RelT ρ' F' w' v c
 fr: ∀t x,RelT ρ F w (get s.fr t) x->RelT ρ' F' w' (get s'.fr t) x
 len:s'.fr.length=s.fr.length
 dom:Dom ρ s.st->Dom ρ' s'.st
 low: ∀id,id<100->look s'.st id≠none->look s.st id≠none
 par: ∀id l,id<100->ρ id=some l->look s'.st id≠none->ρ' id=some l
 calm:calm->s'.fr=s.fr/\(∀id l,ρ id=some l->ρ' id=some l)/\(∀id l,ρ' id=some l->ρ id=some l\/(ZCC dst id/\look s'.st id≠none))/\
  (∀id b,look s.st id=some b->look s'.st id=some b)/\(∀id b,look s'.st id=some b->look s.st id=some b\/ZCC dst id)/\
  (∀b,b<w.heap.size->w'.heap[b]?=w.heap[b]?)/\(∀b,F b->F' b)
 ext: ∃X:Nat->Prop,Ext X ρ F w ρ' F' w'/\ ∀id,X id->look s.st id≠none
 kept: ∀id l,ρ' id=some l->look s'.st id≠none\/(look s.st id=none/\ρ id=some l)
 mem: ∀id l b,look s.st id=none->ρ id=some l->l.block=some b->w'.heap[b]?=w.heap[b]?
def ZBU(o:Oper)(t:Nat):Prop:=Operand.tmp t∈o.op.operands
def OpOK(P:Program)(calm:Prop)(o:Oper)(s:St)(v:V)(s':St):Prop:=
 ∀(ρ:Rho) (F:Nat->Prop) (a:Act) (w:World),Core ρ F s.st w->(∀b,ρ.M b->b<w.heap.size)->
  (∀id,look s.st id=none->ZCC (idOf o) id->ρ id=none)->
  (∀t,ZBU o t->RelT ρ F w (get s.fr t) (a.tmps.getD t undef))->
  ∀(N:Act->World->Prop) (Q:Exit->Act->World->Prop),
   (∀c w' ρ' F',Post calm (idOf o) ρ F s w v s' ρ' F' w' c->N (a.put o.dst c) w')->o.wp P a w N Q
end Ev
end
section
namespace Ev
open Go
def ZBV(P:Program)(t n:Nat):Prop:= ∃i,P.info? t=some i/\i.size=n
def aggD:TypeDesc->Bool
 | .struct _=>true
 | .array _ _=>true
 | _=>false
def ZCD(P:Program)(t:Nat)(b:Bool):Prop:= ∃d,P.underlying t=some d/\aggD d=b
def ZIM(P:Program)(t:Nat)(vs:List Value):Prop:= ∃i z,P.info? t=some i/\i.zero=some z/\z.cells.toList=vs
def ZKK(P:Program)(e:Nat)(τ:Ty):Prop:=ZBV P e τ.width/\ZIM P e ((τ.cells τ.zero).map sv)/\ZCD P e τ.isAgg/\(∃i,P.info? e=some i/\i.bytes<=128)/\(τ= .u8->P.underlying e=some (.int .u8))
def ZIN(P:Program):TypeDesc->TK->Prop
 | .int k,.int k'=>k=k'
 | .bool,.bool=>True
 | .string,.str=>True
 | .slice e,.sl τ=>ZKK P e τ
 | .array n e,.arr n' w a=>n=n'/\ZBV P e w/\ZCD P e a
 | .struct _,.struct=>True
 | _,.other=>True
 | _,_=>False
def ZNM(P:Program):TypeDesc->List (Nat×Nat×Bool)->Prop
 | .struct fs,flds=>flds.length=fs.size/\ ∀(i:Nat) off size a,flds[i]?=some (off,size,a)-> ∃f,fs[i]?=some f/\f.offset=off/\ZBV P f.type size/\ZCD P f.type a
 | _,flds=>flds=[]
def eqV:List V->List V->Option Bool
 | [],[]=>some true
 | .int k a::xs,.int k' b::ys=>cond (decide (k=k')) ((eqV xs ys).bind λt=>some (decide (a=b) && t)) none
 | .str a::xs,.str b::ys=>(eqV xs ys).bind λt=>some (decide (a=b) && t)
 | .bool a::xs,.bool b::ys=>(eqV xs ys).bind λt=>some (decide (a=b) && t)
 | _,_=>none
def ZKL(P:Program)(t:Nat)(zs:List V):Prop:= ∀(xs ys:Array Value) (us vs:List V) (b:Bool) (w:World),xs.toList=us.map sv->ys.toList=vs.map sv->
 fits zs us=true->fits zs vs=true->eqV us vs=some b->(Op.equal t (.agg xs) (.agg ys)).run P w= .ok b w/\(∀op x y,(eqGuard op t x y (.agg xs) (.agg ys)).run P w= .ok () w)
structure TIok(P:Program)(t:Nat)(ti:TI):Prop where
 size:ZBV P t ti.size
 zero:ZIM P t (ti.zero.map sv)
 agg:ZCD P t ti.agg
 kind: ∃d,P.underlying t=some d/\ZIN P d ti.kind/\ZNM P d ti.flds
 zlen:ti.zero.length=ti.size
 zpure:allB (λv=>v.plain || (match v with | .nils=>true | _=>false)) ti.zero=true
def ZBW(P:Program)(T:Tab):Prop:= ∀t ti,T.get t=some ti->TIok P t ti/\(ti.flat=true->ZKL P t ti.zero)
def ZKM:Value->V->Bool
 | .int k n,.int k' n'=>decide (k=k') && decide (n=n')
 | .bool a,.bool b=>decide (a=b)
 | .string s,.str l=>decide (s.data.toList=l)
 | .slice none 0 0,.nils=>true
 | _,_=>false
theorem ZS8{c:Value}{v:V}(h:ZKM c v=true):c=sv v:=by
 unfold ZKM at h
 split at h
 ·simp at h;obtain⟨rfl,rfl⟩:=h;rfl
 ·simp at h;subst h;rfl
 ·rename_i s l;simp at h;subst h;rfl
 ·rfl
 ·cases h
def ZFw:List Value->List V->Bool
 | [],[]=>true
 | c::cs,v::vs=>ZKM c v && ZFw cs vs
 | _,_=>false
theorem ZNN: ∀ {cs:List Value} {vs:List V},ZFw cs vs=true->cs=vs.map sv
 | [],[],_=>rfl
 | c::cs,v::vs,h=>by
  simp only[ZFw,ZAJ]at h
  rw[ZS8 h.1,ZNN h.2];rfl
 | [],_::_,h=>by simp[ZFw]at h
 | _::_,[],h=>by simp[ZFw]at h
def ZEP(P:Program)(t n:Nat):Bool:=match P.info? t with
 | some i=>Nat.beq i.size n
 | none=>false
def aggB(P:Program)(t:Nat)(b:Bool):Bool:=match P.underlying t with
 | some d=>decide (aggD d=b)
 | none=>false
def ZIO(P:Program)(t:Nat)(vs:List V):Bool:=match P.info? t with
 | some i=>match i.zero with
  | some z=>ZFw z.cells.toList vs
  | none=>false
 | none=>false
def ZNO(P:Program)(t:Nat):Bool:=match P.info? t with
 | some i=>Nat.ble i.bytes 128
 | none=>false
def u8B(P:Program)(e:Nat)(τ:Ty):Bool:= !decide (τ= .u8) || (match P.underlying e with
 | some (.int .u8)=>true
 | _=>false)
theorem ZS9{P:Program}{e:Nat}{τ:Ty}(h:u8B P e τ=true)(ht:τ= .u8):P.underlying e=some (.int .u8):=by
 unfold u8B at h
 simp only[ht,decide_true,ZAG,Bool.false_or]at h
 split at h
 ·assumption
 ·cases h
def ZKN(P:Program):TypeDesc->TK->Bool
 | .int k,.int k'=>decide (k=k')
 | .bool,.bool=>true
 | .string,.str=>true
 | .slice e,.sl τ=>ZEP P e τ.width && ZIO P e (τ.cells τ.zero) && aggB P e τ.isAgg && ZNO P e && u8B P e τ
 | .array n e,.arr n' w a=>Nat.beq n n' && ZEP P e w && aggB P e a
 | .struct _,.struct=>true
 | _,.other=>true
 | _,_=>false
def ZFx(P:Program):List Field->List (Nat×Nat×Bool)->Bool
 | [],[]=>true
 | f::fs,(off,size,a)::r=>Nat.beq f.offset off && ZEP P f.type size && aggB P f.type a && ZFx P fs r
 | _,_=>false
def ZNP(P:Program):TypeDesc->List (Nat×Nat×Bool)->Bool
 | .struct fs,flds=>ZFx P fs.toList flds
 | _,flds=>flds.isEmpty
def zpB(v:V):Bool:=v.plain || (match v with | .nils=>true | _=>false)
def tiB(P:Program)(t:Nat)(ti:TI):Bool:=
 ZEP P t ti.size && ZIO P t ti.zero && aggB P t ti.agg && (match P.underlying t with
  | some d=>ZKN P d ti.kind && ZNP P d ti.flds
  | none=>false) && Nat.beq ti.zero.length ti.size && allB zpB ti.zero
theorem ZFy{P:Program}{t n:Nat}(h:ZEP P t n=true):ZBV P t n:=by
 unfold ZEP at h;split at h
 ·rename_i i hi;exact⟨i,hi,ZAb h⟩
 ·cases h
theorem ZG4{P:Program}{t:Nat}{b:Bool}(h:aggB P t b=true):ZCD P t b:=by
 unfold aggB at h;split at h
 ·rename_i d hd;exact⟨d,hd,of_decide_eq_true h⟩
 ·cases h
theorem ZNQ{P:Program}{t:Nat}{vs:List V}(h:ZIO P t vs=true):ZIM P t (vs.map sv):=by
 unfold ZIO at h;split at h
 ·rename_i i hi
  split at h
  ·rename_i z hz;exact⟨i,z,hi,hz,ZNN h⟩
  ·cases h
 ·cases h
theorem ZNR{P:Program} : ∀ {fs:List Field} {r:List (Nat×Nat×Bool)},ZFx P fs r=true->
  r.length=fs.length/\ ∀(i:Nat) off size a,r[i]?=some (off,size,a)-> ∃f,fs[i]?=some f/\f.offset=off/\ZBV P f.type size/\ZCD P f.type a
 | [],[],_=>⟨rfl,λi _ _ _ h=>by simp at h⟩
 | f::fs,(off,size,a)::r,h=>by
  simp only[ZFx,ZAJ]at h
  obtain⟨hl,hr⟩:=ZNR h.2
  refine⟨by simp[hl],λi=> ?_⟩
  cases i with
  | zero=>
   intro off' size' a' e
   simp at e
   obtain⟨rfl,rfl,rfl⟩:=e
   exact⟨f,rfl,ZAb h.1.1.1,ZFy h.1.1.2,ZG4 h.1.2⟩
  | succ i=>intro off' size' a' e;simpa using hr i off' size' a' (by simpa using e)
 | [],_::_,h=>by simp[ZFx]at h
 | _::_,[],h=>by simp[ZFx]at h
theorem ZT{P:Program}{d:TypeDesc}{k:TK}(h:ZKN P d k=true):ZIN P d k:=by
 unfold ZKN at h
 split at h
 ·rename_i k k';exact(of_decide_eq_true h:k=k')
 ·trivial
 ·trivial
 ·simp only[ZAJ]at h
  refine⟨ZFy h.1.1.1.1,ZNQ h.1.1.1.2,ZG4 h.1.1.2,?_,ZS9 h.2⟩
  have:=h.1.2
  unfold ZNO at this;split at this
  ·rename_i i hi;exact⟨i,hi,Nat.le_of_ble_eq_true this⟩
  ·cases this
 ·simp only[ZAJ]at h
  exact⟨ZAb h.1.1,ZFy h.1.2,ZG4 h.2⟩
 ·trivial
 ·cases d<;>trivial
 ·cases h
theorem ZTA{P:Program}{t:Nat}{ti:TI}(h:tiB P t ti=true):TIok P t ti:=by
 simp only[tiB,ZAJ]at h
 obtain⟨⟨⟨⟨⟨h1,h2⟩,h3⟩,h4⟩,h5⟩,h6⟩:=h
 refine⟨ZFy h1,ZNQ h2,ZG4 h3,?_,ZAb h5,h6⟩
 split at h4
 ·rename_i d hd
  simp only[ZAJ]at h4
  refine⟨d,hd,ZT h4.1,?_⟩
  have:=h4.2
  cases d<;>simp only[ZNP]at this<;>simp only[ZNM]<;>first
   | (obtain⟨hl,hr⟩:=ZNR this;exact⟨by simpa using hl,λi off size a e=>by simpa using hr i off size a e⟩)
   | simpa using this
 ·cases h4
def tabB(P:Program):Tab->Bool
 | []=>true
 | (t,ti)::r=>cond (tiB P t ti) (tabB P r) false
theorem ZNS{P:Program} : ∀ {T:Tab},tabB P T=true-> ∀t ti,T.get t=some ti->TIok P t ti
 | [],_,t,ti,h=>by simp[Tab.get]at h
 | (i,x)::r,hb,t,ti,h=>by
  simp only[tabB]at hb
  cases hx:tiB P i x<;>simp[hx]at hb
  simp only[Tab.get]at h
  cases he:Nat.beq i t<;>simp[he]at h
  ·exact ZNS hb t ti h
  ·have:=ZAb he;subst this;subst h;exact ZTA hx
end Ev
end
end
