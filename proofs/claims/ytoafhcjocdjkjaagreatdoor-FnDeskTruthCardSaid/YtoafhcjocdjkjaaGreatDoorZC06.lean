/- Laid together by program (what the claim does not reach is left out): Fn2, Fn6, AbbC. -/
import Derived.Test.YtoafhcjocdjkjaaGreatDoorZC05
set_option linter.all false
set_option maxRecDepth 100000
open Go.Proofs.Tryz
noncomputable section
namespace Ev
open Go
def Zas:ZBW prog tab:=ZIl (by kernel_rfl) (by kernel_rfl)
abbrev N121(f:T233):=OKP 121 (mkE p233 r268 false f)
def F121:T233:=λa=>
 cond (a.2.1<=a.1) (some ((decide (a.1<=a.2.2.1)),())) (some (false,()))
theorem ok121:N121 (F121):=fk0 .nil func121
abbrev N280(f:T268):=OKP 280 (mkE p268 r268 false f)
def q280_0:List SP:=pat 42 0 [(0,.one (.str)),(6,.one (.int .i64)),(7,.one (.int .i64))]
def s280_0(b:T233):Lp (Str×Int×Int×Unit) (Bool×Unit):=λt1 rec K=>
 cond (t1.2.2.1<t1.2.1) (rdL t1.1 t1.2.2.1 λx1=>cond ((Int.ofNat (UInt8.toNat x1))>=97) (rdL t1.1 t1.2.2.1 λx2=>cond (!((Int.ofNat (UInt8.toNat x2))<=122)) (cond (!(t1.2.2.1=0)) (rdL t1.1 t1.2.2.1 λx3=>cond (!((Int.ofNat (UInt8.toNat x3))<48)) (rdL t1.1 t1.2.2.1 λx4=>cond ((Int.ofNat (UInt8.toNat x4))>57) (some (false,())) (rec (t1.1,t1.2.1,(w64 (t1.2.2.1+1)),()))) (some (false,()))) (some (false,()))) (rec (t1.1,t1.2.1,(w64 (t1.2.2.1+1)),()))) (cond (!(t1.2.2.1=0)) (rdL t1.1 t1.2.2.1 λx2=>cond (!((Int.ofNat (UInt8.toNat x2))<48)) (rdL t1.1 t1.2.2.1 λx3=>cond ((Int.ofNat (UInt8.toNat x3))>57) (some (false,())) (rec (t1.1,t1.2.1,(w64 (t1.2.2.1+1)),()))) (some (false,()))) (some (false,())))) (K t1)
def F280(b:T233):T268:=λa=>
 ZAD (s280_0 b) fuel (a.1,(Int.ofNat a.1.length),0,()) λx1=>(b ((Int.ofNat x1.1.length),1,8,())).bind λx2=>some (x2.1,())
theorem ok280{b} :N121 b->N280 (F280 b):=λa=>fk1 p268 r268 q280_0 (s280_0 b) (.cons a .nil) func280
abbrev N281(f:T269):=OKP 281 (mkE p269 r268 false f)
def F281(b:T233):T269:=λa=>
 (b (a.1,0,512,())).bind λx1=>some (x1.1,())
theorem ok281{b} :N121 b->N281 (F281 b):=λa=>fk0 (.cons a .nil) func281
abbrev N219(f:T269):=OKP 219 (mkE p269 r268 false f)
def F219(b:T233):T269:=λa=>
 (b (a.1,0,3,())).bind λx1=>some (x1.1,())
theorem ok219{b} :N121 b->N219 (F219 b):=λa=>fk0 (.cons a .nil) func219
abbrev N218(f:T331):=OKP 218 (mkE p331 r268 false f)
def F218(b:T233)(c:T269):T331:=λa=>
 (b (a.1.At.X,(-1024),1024,())).bind λx1=>cond x1.1 ((b (a.1.At.Y,(-1024),1024,())).bind λx2=>cond x2.1 ((c (a.1.Heading,())).bind λx3=>cond x3.1 ((b (a.1.Tilt,0,16,())).bind λx4=>cond x4.1 ((b (a.1.Lift,1,32,())).bind λx5=>some (x5.1,())) (some (false,()))) (some (false,()))) (some (false,()))) (some (false,()))
theorem ok218{c d} :N121 c->N219 d->N218 (F218 c d):=λa b=>fk0 (oks2 a b) func218
def p57:List SP:=[.one (.int .i64)]
def r57:List SP:=[.one (.bool)]
abbrev T57:=Int×Unit->Option (Bool×Unit)
abbrev N57(f:T57):=OKP 57 (mkE p57 r57 false f)
def F57(b:T233):T57:=λa=>
 (b (a.1,(-4096),4096,())).bind λx1=>some (x1.1,())
theorem ok57{b} :N121 b->N57 (F57 b):=λa=>fk0 (.cons a .nil) func57
abbrev N124(f:T181):=OKP 124 (mkE p181 r268 false f)
def F124(b:T57):T181:=λa=>
 (b (a.1.X,())).bind λx1=>cond x1.1 ((b (a.1.Y,())).bind λx2=>some (x2.1,())) (some (false,()))
theorem ok124{b} :N57 b->N124 (F124 b):=λa=>fk0 (.cons a .nil) func124
abbrev N192(f:T270):=OKP 192 (mkE p270 r268 false f)
def F192(b:T268)(c:T269)(d:T331)(e:T233)(g:T181):T270:=λa=>
 (b (a.1.Name,())).bind λx1=>cond (!x1.1) (some (false,())) (cond (a.1.Kind=1) (cond (decide (a.1.Name=a.1.Name) && (decide (a.1.Kind=a.1.Kind) && (decide (a.1.Line=[]) && (decide (a.1.At.X=0) && (decide (a.1.At.Y=0) && (decide (a.1.Heading=0) && (decide (a.1.Tilt=0) && (decide (a.1.Most=a.1.Most) && true)))))))) ((c (a.1.Most,())).bind λx2=>some (x2.1,())) (some (false,()))) (cond (a.1.Kind=2) ((b (a.1.Line,())).bind λx2=>cond x2.1 (cond (!(a.1.Line=a.1.Name)) ((d ((⟨⟨a.1.At.X,a.1.At.Y⟩,a.1.Heading,a.1.Tilt,1⟩:Jet),())).bind λx3=>cond x3.1 ((e (a.1.Most,0,32,())).bind λx4=>some (x4.1,())) (some (false,()))) (some (false,()))) (some (false,()))) (cond (a.1.Kind=3) (cond (decide (a.1.Name=a.1.Name) && (decide (a.1.Kind=a.1.Kind) && (decide (a.1.Line=a.1.Line) && (decide (a.1.At.X=a.1.At.X) && (decide (a.1.At.Y=a.1.At.Y) && (decide (a.1.Heading=0) && (decide (a.1.Tilt=0) && (decide (a.1.Most=0) && true)))))))) ((b (a.1.Line,())).bind λx2=>cond x2.1 (cond (!(a.1.Line=a.1.Name)) ((g (a.1.At,())).bind λx3=>some (x3.1,())) (some (false,()))) (some (false,()))) (some (false,()))) (some (false,())))))
theorem ok192{g h i j k} :N280 g->N281 h->N218 i->N121 j->N124 k->N192 (F192 g h i j k):=λa b c d e=>fk0 (oks5 a b c d e) func192
def p283:List SP:=[.t .device,.sp [.str]]
abbrev T283:=Device×(Str×Unit)×Unit->Option (Bool×Unit)
abbrev N283(f:T283):=OKP 283 (mkE p283 r268 false f)
def F283:T283:=λa=>
 some ((decide (a.1.Name=a.2.1.1)),())
theorem ok283:N283 (F283):=fk0 .nil func283
def p282:List SP:=[.one (.r .device),.fn 283 [.str]]
abbrev T282:=List Device×(Str×Unit)×Unit->Option (Int×Unit)
abbrev N282(f:T282):=OKP 282 (mkE p282 p269 false f)
def q282_0:List SP:=pat 19 0 [(0,.one (.r .device)),(1,.fn 283 [.str]),(7,.one (.int .i64)),(8,.one (.int .i64))]
def s282_0(b:T283):Lp (List Device×(Str×Unit)×Int×Int×Unit) (Int×Unit):=λt1 rec K=>
 cond (t1.2.2.2.1<t1.2.2.1) (rdL t1.1 t1.2.2.2.1 λx1=>(b (x1,(t1.2.1.1,()),())).bind λx2=>cond x2.1 (some (t1.2.2.2.1,())) (rec (t1.1,(t1.2.1.1,()),t1.2.2.1,(w64 (t1.2.2.2.1+1)),()))) (K (t1.1,(t1.2.1.1,()),t1.2.2.1,t1.2.2.2.1,()))
def F282(b:T283):T282:=λa=>
 ZAD (s282_0 b) fuel (a.1,(a.2.1.1,()),(Int.ofNat a.1.length),0,()) λx1=>some ((-1),())
theorem ok282{b} :N283 b->N282 (F282 b):=λa=>fk1 p282 p269 q282_0 (s282_0 b) (.cons a .nil) func282
abbrev N193(f:T265):=OKP 193 (mkE p265 p269 false f)
def F193(b:T282):T265:=λa=>
 (b (a.1,(a.2.1,()),())).bind λx1=>some (x1.1,())
theorem ok193{b} :N282 b->N193 (F193 b):=λa=>fk0 (.cons a .nil) func193
abbrev N194(f:T266):=OKP 194 (mkE p266 r268 false f)
def F194(b:T265):T266:=λa=>
 cond (a.2.1.Kind=1) (some (true,())) ((b (a.1,a.2.1.Line,())).bind λx1=>cond (x1.1>=0) (rdL a.1 x1.1 λx2=>some ((decide (x2.Kind=(w64 (a.2.1.Kind-1)))),())) (some (false,())))
theorem ok194{b} :N193 b->N194 (F194 b):=λa=>fk0 (.cons a .nil) func194
abbrev N118(f:T230):=OKP 118 (mkE p228 r268 false f)
def q118_0:List SP:=pat 40 0 [(0,.one (.r .device)),(8,.one (.r .device)),(9,.one (.int .i64)),(10,.one (.int .i64))]
def s118_0(b:T270)(c:T266):Lp (List Device×List Device×Int×Int×Unit) (Bool×Unit):=λt1 rec K=>
 cond (t1.2.2.2.1<t1.2.2.1) (rdL t1.2.1 t1.2.2.2.1 λx1=>(b (x1,())).bind λx2=>cond (!(!x2.1)) (cond (t1.2.2.2.1>0) (rdL t1.1 (w64 (t1.2.2.2.1-1)) λx3=>cond (!(Op.bytesLess x1.Name x3.Name || decide (x1.Name=x3.Name))) ((c (t1.1,x1,())).bind λx4=>cond (!x4.1) (some (false,())) (rec (t1.1,t1.2.1,t1.2.2.1,(w64 (t1.2.2.2.1+1)),()))) (some (false,()))) ((c (t1.1,x1,())).bind λx3=>cond (!x3.1) (some (false,())) (rec (t1.1,t1.2.1,t1.2.2.1,(w64 (t1.2.2.2.1+1)),())))) (some (false,()))) (K t1)
def F118(b:T270)(c:T266):T230:=λa=>
 cond ((Int.ofNat a.1.length)>8) (some (false,())) (ZAD (s118_0 b c) fuel (a.1,a.1,(Int.ofNat a.1.length),0,()) λx1=>some (true,()))
theorem ok118{c d} :N192 c->N194 d->N118 (F118 c d):=λa b=>fk1 p228 r268 q118_0 (s118_0 c d) (oks2 a b) func118
abbrev N199(f:T171):=OKP 199 (mkE p171 r268 false f)
def F199(b:T233)(c:T268):T171:=λa=>
 (b (a.1.Tick,0,64,())).bind λx1=>cond x1.1 ((c (a.1.Name,())).bind λx2=>cond x2.1 ((b (a.1.Level,0,32,())).bind λx3=>cond x3.1 ((b (a.1.Ramp,0,16,())).bind λx4=>some (x4.1,())) (some (false,()))) (some (false,()))) (some (false,()))
theorem ok199{c d} :N121 c->N280 d->N199 (F199 c d):=λa b=>fk0 (oks2 a b) func199
abbrev N302(f:T269):=OKP 302 (mkE p269 r268 false f)
def F302:T269:=λa=>
 some ((!(decide (a.1=a.1))),())
theorem ok302:N302 (F302):=fk0 .nil func302
abbrev N216(f:T358):=OKP 216 (mkE p358 p269 false f)
def F216(b:T269):T358:=λa=>
 (b (a.1,())).bind λx1=>(b (a.2.1,())).bind λx2=>cond x1.1 (cond x2.1 (some (0,())) (some ((-1),()))) (cond x2.1 (some (1,())) (cond (a.1<a.2.1) (some ((-1),())) (cond (a.1>a.2.1) (some (1,())) (some (0,())))))
theorem ok216{b} :N302 b->N216 (F216 b):=λa=>fk0 (.cons a .nil) func216
abbrev N341(f:T268):=OKP 341 (mkE p268 r268 false f)
def F341:T268:=λa=>
 some ((!decide (a.1=a.1)),())
theorem ok341:N341 (F341):=fk0 .nil func341
abbrev N288(f:T188):=OKP 288 (mkE p41 p269 false f)
def F288(b:T268):T188:=λa=>
 (b (a.1,())).bind λx1=>(b (a.2.1,())).bind λx2=>cond x1.1 (cond x2.1 (some (0,())) (some ((-1),()))) (cond x2.1 (some (1,())) (cond (Op.bytesLess a.1 a.2.1) (some ((-1),())) (cond (!(Op.bytesLess a.1 a.2.1 || decide (a.1=a.2.1))) (some (1,())) (some (0,())))))
theorem ok288{b} :N341 b->N288 (F288 b):=λa=>fk0 (.cons a .nil) func288
abbrev N215(f:T376):=OKP 215 (mkE p373 p269 false f)
def q215_0:List SP:=pat 18 0 [(3,.one (.int .i64)),(6,.one (.r .int)),(7,.one (.int .i64)),(8,.one (.int .i64))]
def s215_0:Lp (Int×List Int×Int×Int×Unit) (Int×Unit):=λt1 rec K=>
 cond (t1.2.2.2.1<t1.2.2.1) (rdL t1.2.1 t1.2.2.2.1 λx1=>cond (!(x1=t1.1)) (some (x1,())) (rec (t1.1,t1.2.1,t1.2.2.1,(w64 (t1.2.2.2.1+1)),()))) (K t1)
def F215:T376:=λa=>
 ZAD (s215_0) fuel (0,a.1,(Int.ofNat a.1.length),0,()) λx1=>some (x1.1,())
theorem ok215:N215 (F215):=fk1 p373 p269 q215_0 s215_0 .nil func215
abbrev N201(f:T307):=OKP 201 (mkE p307 p269 false f)
def F201(b:T358)(c:T188)(d:T376):T307:=λa=>
 (b (a.1.Tick,a.2.1.Tick,())).bind λx1=>(c (a.1.Name,a.2.1.Name,())).bind λx2=>(d (([x1.1,x2.1]:List Int),())).bind λx3=>some (x3.1,())
theorem ok201{d e g} :N216 d->N288 e->N215 g->N201 (F201 d e g):=λa b c=>fk0 (oks3 a b c) func201
abbrev N119(f:T231):=OKP 119 (mkE p229 r268 false f)
def q119_0:List SP:=pat 33 0 [(0,.one (.r .cue)),(5,.one (.r .cue)),(6,.one (.int .i64)),(7,.one (.int .i64))]
def s119_0(b:T171)(c:T307):Lp (List Cue×List Cue×Int×Int×Unit) (Bool×Unit):=λt1 rec K=>
 cond (t1.2.2.2.1<t1.2.2.1) (rdL t1.2.1 t1.2.2.2.1 λx1=>(b (x1,())).bind λx2=>cond (!(!x2.1)) (cond (t1.2.2.2.1>0) (rdL t1.1 (w64 (t1.2.2.2.1-1)) λx3=>(c (x3,x1,())).bind λx4=>cond (x4.1>=0) (some (false,())) (rec (t1.1,t1.2.1,t1.2.2.1,(w64 (t1.2.2.2.1+1)),()))) (rec (t1.1,t1.2.1,t1.2.2.1,(w64 (t1.2.2.2.1+1)),()))) (some (false,()))) (K t1)
def F119(b:T171)(c:T307):T231:=λa=>
 ZAD (s119_0 b c) fuel (a.1,a.1,(Int.ofNat a.1.length),0,()) λx1=>some ((decide ((Int.ofNat x1.1.length)<=12)),())
theorem ok119{c d} :N199 c->N201 d->N119 (F119 c d):=λa b=>fk1 p229 r268 q119_0 (s119_0 c d) (oks2 a b) func119
abbrev N122(f:T181):=OKP 122 (mkE p181 r268 false f)
def F122(b:T233):T181:=λa=>
 (b (a.1.X,(-8),8,())).bind λx1=>cond x1.1 ((b (a.1.Y,(-8),8,())).bind λx2=>some (x2.1,())) (some (false,()))
theorem ok122{b} :N121 b->N122 (F122 b):=λa=>fk0 (.cons a .nil) func122
abbrev N120(f:T232):=OKP 120 (mkE p232 r268 false f)
def q120_0:List SP:=pat 41 0 [(0,.one (.r .gust)),(5,.one (.r .gust)),(6,.one (.int .i64)),(7,.one (.int .i64))]
def s120_0(b:T233)(c:T181):Lp (List Gust×List Gust×Int×Int×Unit) (Bool×Unit):=λt1 rec K=>
 cond (t1.2.2.2.1<t1.2.2.1) (rdL t1.2.1 t1.2.2.2.1 λx1=>(b (x1.From,0,64,())).bind λx2=>cond (!(!x2.1)) ((c (x1.Drift,())).bind λx3=>cond (!(!x3.1)) (cond (t1.2.2.2.1>0) (rdL t1.1 (w64 (t1.2.2.2.1-1)) λx4=>cond (x1.From<=x4.From) (some (false,())) (rec (t1.1,t1.2.1,t1.2.2.1,(w64 (t1.2.2.2.1+1)),()))) (rec (t1.1,t1.2.1,t1.2.2.1,(w64 (t1.2.2.2.1+1)),()))) (some (false,()))) (some (false,()))) (K t1)
def F120(b:T233)(c:T181):T232:=λa=>
 ZAD (s120_0 b c) fuel (a.1,a.1,(Int.ofNat a.1.length),0,()) λx1=>some ((decide ((Int.ofNat x1.1.length)<=8)),())
theorem ok120{c d} :N121 c->N122 d->N120 (F120 c d):=λa b=>fk1 p232 r268 q120_0 (s120_0 c d) (oks2 a b) func120
def p50:List SP:=[.agg [.r .device,.r .cue,.r .gust,.int .i64]]
def r50:List SP:=[.one (.bool)]
abbrev T50:=ShD×Unit->Option (Bool×Unit)
abbrev N50(f:T50):=OKP 50 (mkE p50 r50 false f)
def F50(b:T230)(c:T231)(d:T232)(e:T233):T50:=λa=>
 (b (a.1.1,())).bind λx1=>cond x1.1 ((c (a.1.2.1,())).bind λx2=>cond x2.1 ((d (a.1.2.2.1,())).bind λx3=>cond x3.1 ((e (a.1.2.2.2.1,0,64,())).bind λx4=>some (x4.1,())) (some (false,()))) (some (false,()))) (some (false,()))
theorem ok50{e g h i} :N118 e->N119 g->N120 h->N121 i->N50 (F50 e g h i):=λa b c d=>fk0 (oks4 a b c d) func50
abbrev N123(f:T235):=OKP 123 (mkE p235 p269 false f)
def F123(b:T358)(c:T376):T235:=λa=>
 (b (a.1.X,a.2.1.X,())).bind λx1=>(b (a.1.Y,a.2.1.Y,())).bind λx2=>(c (([x1.1,x2.1]:List Int),())).bind λx3=>some (x3.1,())
theorem ok123{c d} :N216 c->N215 d->N123 (F123 c d):=λa b=>fk0 (oks2 a b) func123
def p51:List SP:=[.one (.r .place)]
def r51:List SP:=[.one (.bool)]
abbrev T51:=List Place×Unit->Option (Bool×Unit)
abbrev N51(f:T51):=OKP 51 (mkE p51 r51 false f)
def q51_0:List SP:=pat 33 0 [(0,.one (.r .place)),(5,.one (.r .place)),(6,.one (.int .i64)),(7,.one (.int .i64))]
def s51_0(b:T181)(c:T235)(d:T233):Lp (List Place×List Place×Int×Int×Unit) (Bool×Unit):=λt1 rec K=>
 cond (t1.2.2.2.1<t1.2.2.1) (rdL t1.2.1 t1.2.2.2.1 λx1=>(b (x1,())).bind λx2=>cond (!(!x2.1)) (cond (t1.2.2.2.1>0) (rdL t1.1 (w64 (t1.2.2.2.1-1)) λx3=>(c (x3,x1,())).bind λx4=>cond (x4.1>=0) (some (false,())) (rec (t1.1,t1.2.1,t1.2.2.1,(w64 (t1.2.2.2.1+1)),()))) (rec (t1.1,t1.2.1,t1.2.2.1,(w64 (t1.2.2.2.1+1)),()))) (some (false,()))) (K t1)
def F51(b:T181)(c:T235)(d:T233):T51:=λa=>
 ZAD (s51_0 b c d) fuel (a.1,a.1,(Int.ofNat a.1.length),0,()) λx1=>(d ((Int.ofNat x1.1.length),1,4,())).bind λx2=>some (x2.1,())
theorem ok51{d e g} :N122 d->N123 e->N121 g->N51 (F51 d e g):=λa b c=>fk1 p51 r51 q51_0 (s51_0 d e g) (oks3 a b c) func51
def p52:List SP:=[.t .box]
def r52:List SP:=[.one (.bool)]
abbrev T52:=Box×Unit->Option (Bool×Unit)
abbrev N52(f:T52):=OKP 52 (mkE p52 r52 false f)
def F52(b:T181):T52:=λa=>
 (b (a.1.Low,())).bind λx1=>cond x1.1 ((b (a.1.High,())).bind λx2=>cond x2.1 (cond (a.1.Low.X<=a.1.High.X) (some ((decide (a.1.Low.Y<=a.1.High.Y)),())) (some (false,()))) (some (false,()))) (some (false,()))
theorem ok52{b} :N124 b->N52 (F52 b):=λa=>fk0 (.cons a .nil) func52
def p25:List SP:=[.agg [.r .device,.r .cue,.r .gust,.int .i64,.r .place,.int .i64,.int .i64,.int .i64,.int .i64]]
def r25:List SP:=[.one (.bool)]
abbrev T25:=DkD×Unit->Option (Bool×Unit)
abbrev N25(f:T25):=OKP 25 (mkE p25 r25 false f)
def F25(b:T50)(c:T51)(d:T52):T25:=λa=>
 (b ((a.1.1,a.1.2.1,a.1.2.2.1,a.1.2.2.2.1,()),())).bind λx1=>cond x1.1 ((c (a.1.2.2.2.2.1,())).bind λx2=>cond x2.1 ((d ((⟨⟨a.1.2.2.2.2.2.1,a.1.2.2.2.2.2.2.1⟩,⟨a.1.2.2.2.2.2.2.2.1,a.1.2.2.2.2.2.2.2.2.1⟩⟩:Box),())).bind λx3=>some (x3.1,())) (some (false,()))) (some (false,()))
theorem ok25{d e g} :N50 d->N51 e->N52 g->N25 (F25 d e g):=λa b c=>fk0 (oks3 a b c) func25
abbrev N184(f:T228):=OKP 184 (mkE p228 r228 false f)
def F184:T228:=λa=>
 ZBm (List.isEmpty a.1) (some ([],())) (capK (List.length ([]:List Device)+a.1.length) (some ((([]:List Device)++a.1),())))
theorem ok184:N184 (F184):=fk0 .nil func184
abbrev N185(f:T229):=OKP 185 (mkE p229 r229 false f)
def F185:T229:=λa=>
 ZBm (List.isEmpty a.1) (some ([],())) (capK (List.length ([]:List Cue)+a.1.length) (some ((([]:List Cue)++a.1),())))
theorem ok185:N185 (F185):=fk0 .nil func185
abbrev T186:=List Gust×Unit->Option (List Gust×Unit)
abbrev N186(f:T186):=OKP 186 (mkE p232 r326 false f)
def F186:T186:=λa=>
 ZBm (List.isEmpty a.1) (some ([],())) (capK (List.length ([]:List Gust)+a.1.length) (some ((([]:List Gust)++a.1),())))
theorem ok186:N186 (F186):=fk0 .nil func186
abbrev N94(f:T139):=OKP 94 (mkE p139 r139 false f)
def F94(b:T228)(c:T229)(d:T186):T139:=λa=>
 (b (a.1.1,())).bind λx1=>(c (a.1.2.1,())).bind λx2=>(d (a.1.2.2.1,())).bind λx3=>some ((x1.1,x2.1,x3.1,a.1.2.2.2.1,()),())
theorem ok94{d e g} :N184 d->N185 e->N186 g->N94 (F94 d e g):=λa b c=>fk0 (oks3 a b c) func94
abbrev T95:=List Place×Unit->Option (List Place×Unit)
abbrev N95(f:T95):=OKP 95 (mkE p141 r324 false f)
def F95:T95:=λa=>
 ZBm (List.isEmpty a.1) (some ([],())) (capK (List.length ([]:List Place)+a.1.length) (some ((([]:List Place)++a.1),())))
theorem ok95:N95 (F95):=fk0 .nil func95
def p46:List SP:=[.agg [.r .device,.r .cue,.r .gust,.int .i64,.r .place,.int .i64,.int .i64,.int .i64,.int .i64]]
def r46:List SP:=[.agg [.o 0 .device,.o 1 .cue,.o 2 .gust,.int .i64,.o 3 .place,.int .i64,.int .i64,.int .i64,.int .i64]]
abbrev T46:=DkD×Unit->Option (DkD×Unit)
abbrev N46(f:T46):=OKP 46 (mkE p46 r46 false f)
def F46(b:T139)(c:T95):T46:=λa=>
 (b ((a.1.1,a.1.2.1,a.1.2.2.1,a.1.2.2.2.1,()),())).bind λx1=>(c (a.1.2.2.2.2.1,())).bind λx2=>some ((x1.1.1,x1.1.2.1,x1.1.2.2.1,x1.1.2.2.2.1,x2.1,a.1.2.2.2.2.2.1,a.1.2.2.2.2.2.2.1,a.1.2.2.2.2.2.2.2.1,a.1.2.2.2.2.2.2.2.2.1,()),())
theorem ok46{c d} :N94 c->N95 d->N46 (F46 c d):=λa b=>fk0 (oks2 a b) func46
def r97:List SP:=[.one (.str),.one (.bool)]
abbrev T97:=Str×Unit->Option (Str×Bool×Unit)
abbrev N97(f:T97):=OKP 97 (mkE p268 r97 false f)
def F97:T97:=λa=>
 (λj1:Option (Str×Bool×Unit)=>(λj2:Option (Str×Bool×Unit)=>cond (a.1=[100,101,118,105,99,101]) (cond (a.1=[100,101,118,105,99,101]) (some ([84],true,())) j2) (cond (a.1=[99,117,101]) (some ([84],true,())) j2)) (cond (a.1=[114,101,109,111,118,101]) (some ([110],true,())) (cond (a.1=[103,117,115,116]) (some ([78,80],true,())) (cond (a.1=[116,105,99,107,115]) (cond (a.1=[116,105,99,107,115]) (some ([78],true,())) j1) (cond (a.1=[116,117,114,110]) (cond (a.1=[116,117,114,110]) (some ([78],true,())) j1) (cond (a.1=[108,105,102,116,115]) (cond (a.1=[108,105,102,116,115]) (some ([78],true,())) j1) (cond (a.1=[100,114,111,112,115]) (cond (a.1=[100,114,111,112,115]) (some ([78],true,())) j1) (cond (a.1=[99,111,117,110,116]) (some ([78],true,())) j1)))))))) (cond (a.1=[114,111,115,101]) (some ([42],true,())) (cond (a.1=[98,97,115,105,110]) (some ([80,80],true,())) (cond (a.1=[115,104,105,102,116]) (some ([80],true,())) (cond (a.1=[108,101,118,101,108]) (some ([110,78],true,())) (cond (a.1=[108,105,109,105,116]) (cond (a.1=[108,105,109,105,116]) (some ([],true,())) (some ([],false,()))) (cond (a.1=[108,97,110,100,105,110,103,115]) (cond (a.1=[108,97,110,100,105,110,103,115]) (some ([],true,())) (some ([],false,()))) (cond (a.1=[104,105,103,104]) (cond (a.1=[104,105,103,104]) (some ([],true,())) (some ([],false,()))) (cond (a.1=[115,97,102,101]) (cond (a.1=[115,97,102,101]) (some ([],true,())) (some ([],false,()))) (cond (a.1=[108,101,97,115,116]) (cond (a.1=[108,101,97,115,116]) (some ([],true,())) (some ([],false,()))) (cond (a.1=[100,114,121]) (some ([],true,())) (some ([],false,()))))))))))))
theorem ok97:N97 (F97):=fk0 .nil func97
def p10:List SP:=[.one (.str),.one (.str)]
def r10:List SP:=[.one (.o 0 .str)]
abbrev T10:=Str×Str×Unit->Option (List Str×Unit)
abbrev N10(f:T10):=OKP 10 (mkE p10 r10 false f)
def F10(b:T38):T10:=λa=>
 cond (a.2.1=[]) (some (([a.1]:List Str),())) ((b a).bind λx1=>some (x1.1,()))
theorem ok10{b} :N38 b->N10 (F10 b):=λa=>fk0 (.cons a .nil) func10
abbrev T339:=Str×Str×Unit->Option (Bool×Unit)
abbrev N339(f:T339):=OKP 339 (mkE p41 r268 false f)
def F339:T339:=λa=>
 cond ((Int.ofNat a.1.length)>=(Int.ofNat a.2.1.length)) (okIf ((0:Int)<=(Int.ofNat a.2.1.length)/\((Int.ofNat a.2.1.length):Int)<=a.1.length) (some ((decide ((List.take (Int.toNat (Int.ofNat a.2.1.length)) a.1)=a.2.1)),()))) (some (false,()))
theorem ok339:N339 (F339):=fk0 .nil func339
abbrev N279(f:T58):=OKP 279 (mkE p41 p268 false f)
def F279(b:T339):T58:=λa=>
 (b a).bind λx1=>cond x1.1 (okIf ((0:Int)<=(Int.ofNat a.2.1.length)/\((Int.ofNat a.2.1.length):Int)<=a.1.length) (some ((List.drop (Int.toNat (Int.ofNat a.2.1.length)) a.1),()))) (some (a.1,()))
theorem ok279{b} :N339 b->N279 (F279 b):=λa=>fk0 (.cons a .nil) func279
abbrev N190(f:T58):=OKP 190 (mkE p41 p268 false f)
def F190(b:T58):T58:=λa=>
 (b a).bind λx1=>some (x1.1,())
theorem ok190{b} :N279 b->N190 (F190 b):=λa=>fk0 (.cons a .nil) func190
abbrev N99(f:T144):=OKP 99 (mkE p268 r144 false f)
def q99_0:List SP:=pat 49 0 [(0,.one (.str)),(4,.one (.int .i64)),(25,.one (.int .i64)),(26,.one (.int .i64))]
def s99_0:Lp (Str×Int×Int×Int×Unit) (Int×Bool×Unit):=λt2 rec K=>
 cond (t2.2.2.2.1<t2.2.2.1) (rdL t2.1 t2.2.2.2.1 λx1=>cond (!((Int.ofNat (UInt8.toNat x1))<48)) (rdL t2.1 t2.2.2.2.1 λx2=>cond ((Int.ofNat (UInt8.toNat x2))>57) (some (0,false,())) (rdL t2.1 t2.2.2.2.1 λx3=>rec (t2.1,(w64 ((w64 (10*t2.2.1))+(w64 (IntKind.wrap .u8 ((Int.ofNat (UInt8.toNat x3)) -48))))),t2.2.2.1,(w64 (t2.2.2.2.1+1)),()))) (some (0,false,()))) (K t2)
def F99:T144:=λa=>
 cond (!((Int.ofNat a.1.length)=0)) (cond (!((Int.ofNat a.1.length)>3)) (cond ((Int.ofNat a.1.length)>1) (rdL a.1 0 λx1=>cond ((Int.ofNat (UInt8.toNat x1))=48) (some (0,false,())) (ZAD (s99_0) fuel (a.1,0,(Int.ofNat a.1.length),0,()) λx2=>some (x2.2.1,true,()))) (ZAD (s99_0) fuel (a.1,0,(Int.ofNat a.1.length),0,()) λx1=>some (x1.2.1,true,()))) (some (0,false,()))) (some (0,false,()))
theorem ok99:N99 (F99):=fk1 p268 r144 q99_0 s99_0 .nil func99
def p54:List SP:=[.one (.int .i64)]
def r54:List SP:=[.one (.str)]
abbrev T54:=Int×Unit->Option (Str×Unit)
abbrev N54(f:T54):=OKP 54 (mkE p54 r54 false f)
def F54(b:T78):T54:=λa=>
 (b (a.1,())).bind λx1=>some (x1.1,())
theorem ok54{b} :N129 b->N54 (F54 b):=λa=>fk0 (.cons a .nil) func54
def p21:List SP:=[.one (.int .i64)]
def r21:List SP:=[.one (.str)]
abbrev T21:=Int×Unit->Option (Str×Unit)
abbrev N21(f:T21):=OKP 21 (mkE p21 r21 false f)
def F21(b:T57)(c:T54)(d:T58):T21:=λa=>
 (b (a.1,())).bind λx1=>cond (!x1.1) (some ([],())) (cond (a.1<0) ((c ((w64 (Int.tdiv (w64 (0-a.1)) 8)),())).bind λx2=>capK (List.length [45]+x2.1.length) (cond ((Int.tmod (w64 (0-a.1)) 8)>0) ((c ((w64 (1000+(w64 ((Int.tmod (w64 (0-a.1)) 8)*125)))),())).bind λx3=>okIf ((0:Int)<=1/\(1:Int)<=x3.1.length) ((d ((List.drop (Int.toNat 1) x3.1),[48],())).bind λx4=>capK (List.length [46]+x4.1.length) (capK (List.length ([45]++x2.1)+List.length ([46]++x4.1)) (some ((([45]++x2.1)++([46]++x4.1)),()))))) (some (([45]++x2.1),())))) ((c ((w64 (Int.tdiv a.1 8)),())).bind λx2=>capK (List.length ([]:Str)+x2.1.length) (cond ((Int.tmod a.1 8)>0) ((c ((w64 (1000+(w64 ((Int.tmod a.1 8)*125)))),())).bind λx3=>okIf ((0:Int)<=1/\(1:Int)<=x3.1.length) ((d ((List.drop (Int.toNat 1) x3.1),[48],())).bind λx4=>capK (List.length [46]+x4.1.length) (capK (List.length (([]:Str)++x2.1)+List.length ([46]++x4.1)) (some (((([]:Str)++x2.1)++([46]++x4.1)),()))))) (some ((([]:Str)++x2.1),())))))
theorem ok21{d e g} :N57 d->N54 e->N58 g->N21 (F21 d e g):=λa b c=>fk0 (oks3 a b c) func21
abbrev N189(f:T144):=OKP 189 (mkE p268 r144 false f)
def q189_2:List SP:=pat 57 0 [(0,.one (.str)),(9,.one (.int .i64)),(34,.one (.int .i64)),(44,.one (.o 5002001 .int)),(45,.one (.int .i64)),(46,.one (.int .i64))]
def s189_2(b:T58)(c:T96)(d:T144)(e:T21):Lp (Str×Int×Int×List Int×Int×Int×Unit) (Int×Bool×Unit):=λt5 rec K=>
 cond (t5.2.2.2.2.2.1<t5.2.2.2.2.1) (rdL t5.2.2.2.1 t5.2.2.2.2.2.1 λ_=>(t5.2.2.2.1[(Int.toNat t5.2.2.2.2.2.1)]?).bind λx1=>(e (x1,())).bind λx2=>cond (x2.1=t5.1) (some (x1,true,())) (rec (t5.1,t5.2.1,t5.2.2.1,t5.2.2.2.1,t5.2.2.2.2.1,(w64 (t5.2.2.2.2.2.1+1)),()))) (K t5)
def q189_0:List SP:=pat 57 0 [(0,.one (.str)),(9,.one (.int .i64)),(34,.one (.int .i64))]
def s189_0(b:T58)(c:T96)(d:T144)(e:T21):Lp (Str×Int×Int×Unit) (Int×Bool×Unit):=λt4 rec K=>
 cond (t4.2.2.1<8) (ZAD (s189_2 b c d e) fuel (t4.1,t4.2.1,t4.2.2.1,([(w64 (t4.2.1+t4.2.2.1)),(w64 ((w64 (0-t4.2.1)) -t4.2.2.1))]:List Int),(Int.ofNat (List.length ([(w64 (t4.2.1+t4.2.2.1)),(w64 ((w64 (0-t4.2.1)) -t4.2.2.1))]:List Int))),0,()) λx1=>rec (x1.1,x1.2.1,(w64 (x1.2.2.1+1)),())) (K t4)
def F189(b:T58)(c:T96)(d:T144)(e:T21):T144:=λa=>
 (b (a.1,[45],())).bind λx1=>(c (x1.1,[46],())).bind λx2=>(d (x2.1,())).bind λx3=>cond (!(!x3.2.1)) (cond ((Int.ofNat x2.2.1.length)>3) (some (0,false,())) (ZAD (s189_0 b c d e) fuel (a.1,(w64 (8*x3.1)),0,()) λx4=>some (0,false,()))) (some (0,false,()))
theorem ok189{e g h i} :N190 e->N96 g->N99 h->N21 i->N189 (F189 e g h i):=λa b c d=>fk (ps:=p268) (rs:=r144) (L:=lenv [(0,ZA2 q189_0 (s189_0 e g h i)),(2,ZA2 q189_2 (s189_2 e g h i))]) (ls:=[(0,ZBB f189 0),(2,ZBB f189 1)]) (oks4 a b c d) func189 (.cons q189_0 (s189_0 e g h i) rfl (λ_ _ _ _=>by kernel_rfl) (.cons q189_2 (s189_2 e g h i) rfl (λ_ _ _ _=>by kernel_rfl) .nil))
def p55:List SP:=[.t .place]
def r55:List SP:=[.one (.str)]
abbrev T55:=Place×Unit->Option (Str×Unit)
abbrev N55(f:T55):=OKP 55 (mkE p55 r55 false f)
def F55(b:T181)(c:T21):T55:=λa=>
 (b (a.1,())).bind λx1=>cond (!x1.1) (some ([],())) (cond (a.1.Y<0) ((c (a.1.X,())).bind λx2=>capK (x2.1.length+List.length ([]:Str)) ((c (a.1.Y,())).bind λx3=>capK (List.length (x2.1++([]:Str))+x3.1.length) (capK (List.length ((x2.1++([]:Str))++x3.1)+List.length [105]) (some ((((x2.1++([]:Str))++x3.1)++[105]),()))))) ((c (a.1.X,())).bind λx2=>capK (x2.1.length+List.length [43]) ((c (a.1.Y,())).bind λx3=>capK (List.length (x2.1++[43])+x3.1.length) (capK (List.length ((x2.1++[43])++x3.1)+List.length [105]) (some ((((x2.1++[43])++x3.1)++[105]),()))))))
theorem ok55{c d} :N124 c->N21 d->N55 (F55 c d):=λa b=>fk0 (oks2 a b) func55
abbrev N100(f:T149):=OKP 100 (mkE p268 r356 false f)
def F100(b:T188)(c:T144)(d:T58)(e:T55):T149:=λa=>
 (b (a.1,[43,45],())).bind λx1=>cond (!(x1.1<1)) (rdL a.1 (w64 ((Int.ofNat a.1.length) -1)) λx2=>cond (!((Int.ofNat (UInt8.toNat x2))=105)) (some ((⟨0,0⟩:Place),false,())) (okIf ((0:Int)<=x1.1/\(x1.1:Int)<=a.1.length) ((c ((List.take (Int.toNat x1.1) a.1),())).bind λx3=>okIf ((0:Int)<=x1.1/\(x1.1:Int)<=(w64 ((Int.ofNat a.1.length) -1))/\((w64 ((Int.ofNat a.1.length) -1)):Int)<=a.1.length) ((d ((List.drop (Int.toNat x1.1) (List.take (Int.toNat (w64 ((Int.ofNat a.1.length) -1))) a.1)),[43],())).bind λx4=>(c (x4.1,())).bind λx5=>cond (!(!x3.2.1)) (cond (!(!x5.2.1)) ((e ((⟨x3.1,x5.1⟩:Place),())).bind λx6=>cond (!(x6.1=a.1)) (some ((⟨0,0⟩:Place),false,())) (some ((⟨x3.1,x5.1⟩:Place),true,()))) (some ((⟨0,0⟩:Place),false,()))) (some ((⟨0,0⟩:Place),false,())))))) (some ((⟨0,0⟩:Place),false,()))
theorem ok100{e g h i} :N188 e->N189 g->N190 h->N55 i->N100 (F100 e g h i):=λa b c d=>fk0 (oks4 a b c d) func100
def r98:List SP:=[.one (.o 0 .place),.one (.bool)]
abbrev N98(f:T145):=OKP 98 (mkE p254 r98 false f)
def q98_0:List SP:=pat 29 0 [(4,.one (.o 5000001 .place)),(10,.one (.r .str)),(11,.one (.int .i64)),(12,.one (.int .i64))]
def s98_0(b:T149):Lp (List Place×List Str×Int×Int×Unit) (List Place×Bool×Unit):=λt1 rec K=>
 cond (t1.2.2.2.1<t1.2.2.1) (rdL t1.2.1 t1.2.2.2.1 λx1=>(b (x1,())).bind λx2=>cond (!x2.2.1) (some ([],false,())) (capK (t1.1.length+List.length ([x2.1]:List Place)) (rec ((t1.1++([x2.1]:List Place)),t1.2.1,t1.2.2.1,(w64 (t1.2.2.2.1+1)),())))) (K t1)
def F98(b:T149):T145:=λa=>
 ZAD (s98_0 b) fuel (([]:List Place),a.1,(Int.ofNat a.1.length),0,()) λx1=>some (x1.1,true,())
theorem ok98{b} :N100 b->N98 (F98 b):=λa=>fk1 p254 r98 q98_0 (s98_0 b) (.cons a .nil) func98
def p47:List SP:=[.one (.str)]
def r47:List SP:=[.agg [.str,.str,.int .i64,.o 0 .place],.one (.bool)]
abbrev T47:=Str×Unit->Option ((Str×Str×Int×List Place×Unit)×Bool×Unit)
abbrev N47(f:T47):=OKP 47 (mkE p47 r47 false f)
def q47_0:List SP:=pat 101 0 [(2,.box 5000001 [.str,.str,.int .i64,.o 5000002 .place]),(7,.one (.str)),(8,.one (.bool)),(9,.box 5000003 [.str,.str,.int .i64,.o 5000004 .place]),(62,.one (.o 5000005 .str)),(63,.one (.int .i64)),(64,.one (.int .i64))]
def s47_0(b:T96)(c:T97)(d:T10)(e:T145)(g:T144)(h:T149):Lp ((Str×Str×Int×List Place×Unit)×Str×Bool×(Str×Str×Int×List Place×Unit)×List Str×Int×Int×Unit) ((Str×Str×Int×List Place×Unit)×Bool×Unit):=λt5 rec K=>
 cond (t5.2.2.2.2.2.2.1<t5.2.2.2.2.2.1) (rdL t5.2.2.2.2.1 t5.2.2.2.2.2.2.1 λ_=>(t5.2.2.2.2.1[(Int.toNat t5.2.2.2.2.2.2.1)]?).bind λx1=>rdL t5.2.1 t5.2.2.2.2.2.2.1 λx2=>cond ((Int.ofNat (UInt8.toNat x2))=78) ((g (x1,())).bind λx3=>cond (!x3.2.1) (some ((t5.2.2.2.1.1,t5.2.2.2.1.2.1,x3.1,t5.2.2.2.1.2.2.2.1,()),false,())) (rec (t5.1,t5.2.1,x3.2.1,(t5.2.2.2.1.1,t5.2.2.2.1.2.1,x3.1,t5.2.2.2.1.2.2.2.1,()),t5.2.2.2.2.1,t5.2.2.2.2.2.1,(w64 (t5.2.2.2.2.2.2.1+1)),()))) (cond ((Int.ofNat (UInt8.toNat x2))=80) ((h (x1,())).bind λx3=>capK (t5.2.2.2.1.2.2.2.1.length+List.length ([x3.1]:List Place)) (cond (!x3.2.1) (some ((t5.2.2.2.1.1,t5.2.2.2.1.2.1,t5.2.2.2.1.2.2.1,(t5.2.2.2.1.2.2.2.1++([x3.1]:List Place)),()),false,())) (rec (t5.1,t5.2.1,x3.2.1,(t5.2.2.2.1.1,t5.2.2.2.1.2.1,t5.2.2.2.1.2.2.1,(t5.2.2.2.1.2.2.2.1++([x3.1]:List Place)),()),t5.2.2.2.2.1,t5.2.2.2.2.2.1,(w64 (t5.2.2.2.2.2.2.1+1)),())))) (cond (!t5.2.2.1) (some ((t5.2.2.2.1.1,x1,t5.2.2.2.1.2.2.1,t5.2.2.2.1.2.2.2.1,()),false,())) (rec (t5.1,t5.2.1,t5.2.2.1,(t5.2.2.2.1.1,x1,t5.2.2.2.1.2.2.1,t5.2.2.2.1.2.2.2.1,()),t5.2.2.2.2.1,t5.2.2.2.2.2.1,(w64 (t5.2.2.2.2.2.2.1+1)),()))))) (K t5)
def F47(b:T96)(c:T97)(d:T10)(e:T145)(g:T144)(h:T149):T47:=λa=>
 (b (a.1,[32],())).bind λx1=>(c (x1.1,())).bind λx2=>cond (!(!x2.2.1)) (cond (!(x1.2.2.1=(!decide (x2.1=[])))) (some ((x1.1,x1.2.1,0,[],()),false,())) (cond (!(x2.1=[])) (cond (x2.1=[84]) (some ((x1.1,x1.2.1,0,[],()),true,())) ((d (x1.2.1,[32],())).bind λx3=>cond (x2.1=[42]) ((e (x3.1,())).bind λx4=>some ((x1.1,x1.2.1,0,x4.1,()),x4.2.1,())) (cond (!((Int.ofNat x3.1.length)=(Int.ofNat x2.1.length))) (some ((x1.1,x1.2.1,0,[],()),false,())) (ZAD (s47_0 b c d e g h) fuel (([],[],0,[],()),x2.1,x2.2.1,(x1.1,x1.2.1,0,[],()),x3.1,(Int.ofNat x3.1.length),0,()) λx4=>some (x4.2.2.2.1,true,()))))) (some ((x1.1,x1.2.1,0,[],()),true,())))) (some ((x1.1,x1.2.1,0,[],()),false,()))
theorem ok47{h i j k l m} :N96 h->N97 i->N10 j->N98 k->N99 l->N100 m->N47 (F47 h i j k l m):=λa b c d e g=>fk1 p47 r47 q47_0 (s47_0 h i j k l m) (oks6 a b c d e g) func47
abbrev N191(f:T77):=OKP 191 (mkE p270 p268 false f)
def F191(b:T270)(c:T21)(d:T55)(e:T54):T77:=λa=>
 (b (a.1,())).bind λx1=>cond (!x1.1) (some ([],())) (cond (a.1.Kind=1) (capK (List.length [112,117,109,112,32]+List.length a.1.Name) (capK (List.length ([112,117,109,112,32]++a.1.Name)+List.length [32,109,111,115,116,32]) ((c (a.1.Most,())).bind λx2=>capK (List.length (([112,117,109,112,32]++a.1.Name)++[32,109,111,115,116,32])+x2.1.length) (some (((([112,117,109,112,32]++a.1.Name)++[32,109,111,115,116,32])++x2.1),()))))) (cond (a.1.Kind=2) (capK (List.length [110,111,122,122,108,101,32]+List.length a.1.Name) (capK (List.length ([110,111,122,122,108,101,32]++a.1.Name)+List.length [32,111,110,32]) (capK (List.length (([110,111,122,122,108,101,32]++a.1.Name)++[32,111,110,32])+List.length a.1.Line) (capK (List.length ((([110,111,122,122,108,101,32]++a.1.Name)++[32,111,110,32])++a.1.Line)+List.length [32,97,116,32]) ((d (a.1.At,())).bind λx2=>capK (List.length (((([110,111,122,122,108,101,32]++a.1.Name)++[32,111,110,32])++a.1.Line)++[32,97,116,32])+x2.1.length) (capK (List.length ((((([110,111,122,122,108,101,32]++a.1.Name)++[32,111,110,32])++a.1.Line)++[32,97,116,32])++x2.1)+List.length [32,104,101,97,100,105,110,103,32]) ((e (a.1.Heading,())).bind λx3=>capK (List.length (((((([110,111,122,122,108,101,32]++a.1.Name)++[32,111,110,32])++a.1.Line)++[32,97,116,32])++x2.1)++[32,104,101,97,100,105,110,103,32])+x3.1.length) (capK (List.length ((((((([110,111,122,122,108,101,32]++a.1.Name)++[32,111,110,32])++a.1.Line)++[32,97,116,32])++x2.1)++[32,104,101,97,100,105,110,103,32])++x3.1)+List.length [32,116,105,108,116,32]) ((c (a.1.Tilt,())).bind λx4=>capK (List.length (((((((([110,111,122,122,108,101,32]++a.1.Name)++[32,111,110,32])++a.1.Line)++[32,97,116,32])++x2.1)++[32,104,101,97,100,105,110,103,32])++x3.1)++[32,116,105,108,116,32])+x4.1.length) (capK (List.length ((((((((([110,111,122,122,108,101,32]++a.1.Name)++[32,111,110,32])++a.1.Line)++[32,97,116,32])++x2.1)++[32,104,101,97,100,105,110,103,32])++x3.1)++[32,116,105,108,116,32])++x4.1)+List.length [32,109,111,115,116,32]) ((c (a.1.Most,())).bind λx5=>capK (List.length (((((((((([110,111,122,122,108,101,32]++a.1.Name)++[32,111,110,32])++a.1.Line)++[32,97,116,32])++x2.1)++[32,104,101,97,100,105,110,103,32])++x3.1)++[32,116,105,108,116,32])++x4.1)++[32,109,111,115,116,32])+x5.1.length) (some (((((((((((([110,111,122,122,108,101,32]++a.1.Name)++[32,111,110,32])++a.1.Line)++[32,97,116,32])++x2.1)++[32,104,101,97,100,105,110,103,32])++x3.1)++[32,116,105,108,116,32])++x4.1)++[32,109,111,115,116,32])++x5.1),()))))))))))))) (capK (List.length [108,97,109,112,32]+List.length a.1.Name) (capK (List.length ([108,97,109,112,32]++a.1.Name)+List.length [32,111,110,32]) (capK (List.length (([108,97,109,112,32]++a.1.Name)++[32,111,110,32])+List.length a.1.Line) (capK (List.length ((([108,97,109,112,32]++a.1.Name)++[32,111,110,32])++a.1.Line)+List.length [32,97,116,32]) ((d (a.1.At,())).bind λx2=>capK (List.length (((([108,97,109,112,32]++a.1.Name)++[32,111,110,32])++a.1.Line)++[32,97,116,32])+x2.1.length) (some (((((([108,97,109,112,32]++a.1.Name)++[32,111,110,32])++a.1.Line)++[32,97,116,32])++x2.1),())))))))))
theorem ok191{e g h i} :N192 e->N21 g->N55 h->N54 i->N191 (F191 e g h i):=λa b c d=>fk0 (oks4 a b c d) func191
abbrev N101(f:T243):=OKP 101 (mkE p268 r243 false f)
def F101(b:T10)(c:T144)(d:T77)(e:T149)(g:T144):T243:=λa=>
 (b (a.1,[32],())).bind λx1=>(λj2:Option (Device×Bool×Unit)=>(λj3:Option (Device×Bool×Unit)=>(λj1:Option (Device×Bool×Unit)=>cond ((Int.ofNat x1.1.length)=4) (rdL x1.1 0 λ_=>(x1.1[(Int.toNat 0)]?).bind λx2=>cond (x2=[112,117,109,112]) (rdL x1.1 3 λ_=>(x1.1[(Int.toNat 3)]?).bind λx3=>(c (x3,())).bind λx4=>rdL x1.1 1 λ_=>(x1.1[(Int.toNat 1)]?).bind λx5=>cond (!(a.1=[])) ((d ((⟨x5,1,[],⟨0,0⟩,0,0,x4.1⟩:Device),())).bind λx6=>cond (!(x6.1=a.1)) (some ((⟨[],0,[],⟨0,0⟩,0,0,0⟩:Device),false,())) (some ((⟨x5,1,[],⟨0,0⟩,0,0,x4.1⟩:Device),true,()))) (some ((⟨[],0,[],⟨0,0⟩,0,0,0⟩:Device),false,()))) (cond ((Int.ofNat x1.1.length)=12) (rdL x1.1 0 λ_=>(x1.1[(Int.toNat 0)]?).bind λx3=>cond (x3=[110,111,122,122,108,101]) (rdL x1.1 5 λ_=>(x1.1[(Int.toNat 5)]?).bind λx4=>(e (x4,())).bind λx5=>rdL x1.1 7 λ_=>(x1.1[(Int.toNat 7)]?).bind λx6=>(g (x6,())).bind λx7=>rdL x1.1 9 λ_=>(x1.1[(Int.toNat 9)]?).bind λx8=>(c (x8,())).bind λx9=>rdL x1.1 11 λ_=>(x1.1[(Int.toNat 11)]?).bind λx10=>(c (x10,())).bind λx11=>rdL x1.1 1 λ_=>(x1.1[(Int.toNat 1)]?).bind λx12=>rdL x1.1 3 λ_=>(x1.1[(Int.toNat 3)]?).bind λx13=>cond (!(a.1=[])) ((d ((⟨x12,2,x13,⟨x5.1.X,x5.1.Y⟩,x7.1,x9.1,x11.1⟩:Device),())).bind λx14=>cond (!(x14.1=a.1)) (some ((⟨[],0,[],⟨0,0⟩,0,0,0⟩:Device),false,())) (some ((⟨x12,2,x13,⟨x5.1.X,x5.1.Y⟩,x7.1,x9.1,x11.1⟩:Device),true,()))) (some ((⟨[],0,[],⟨0,0⟩,0,0,0⟩:Device),false,()))) (cond ((Int.ofNat x1.1.length)=6) (rdL x1.1 0 λ_=>(x1.1[(Int.toNat 0)]?).bind λx4=>cond (x4=[108,97,109,112]) (rdL x1.1 5 λ_=>(x1.1[(Int.toNat 5)]?).bind λx5=>(e (x5,())).bind λx6=>rdL x1.1 1 λ_=>(x1.1[(Int.toNat 1)]?).bind λx7=>rdL x1.1 3 λ_=>(x1.1[(Int.toNat 3)]?).bind λx8=>cond (!(a.1=[])) ((d ((⟨x7,3,x8,⟨x6.1.X,x6.1.Y⟩,0,0,0⟩:Device),())).bind λx9=>cond (!(x9.1=a.1)) (some ((⟨[],0,[],⟨0,0⟩,0,0,0⟩:Device),false,())) (some ((⟨x7,3,x8,⟨x6.1.X,x6.1.Y⟩,0,0,0⟩:Device),true,()))) (some ((⟨[],0,[],⟨0,0⟩,0,0,0⟩:Device),false,()))) (cond (!(a.1=[])) ((d ((⟨[],0,[],⟨0,0⟩,0,0,0⟩:Device),())).bind λx5=>cond (!(x5.1=a.1)) (some ((⟨[],0,[],⟨0,0⟩,0,0,0⟩:Device),false,())) (some ((⟨[],0,[],⟨0,0⟩,0,0,0⟩:Device),true,()))) (some ((⟨[],0,[],⟨0,0⟩,0,0,0⟩:Device),false,())))) j2)) j1)) (cond ((Int.ofNat x1.1.length)=12) (rdL x1.1 0 λ_=>(x1.1[(Int.toNat 0)]?).bind λx2=>cond (x2=[110,111,122,122,108,101]) (rdL x1.1 5 λ_=>(x1.1[(Int.toNat 5)]?).bind λx3=>(e (x3,())).bind λx4=>rdL x1.1 7 λ_=>(x1.1[(Int.toNat 7)]?).bind λx5=>(g (x5,())).bind λx6=>rdL x1.1 9 λ_=>(x1.1[(Int.toNat 9)]?).bind λx7=>(c (x7,())).bind λx8=>rdL x1.1 11 λ_=>(x1.1[(Int.toNat 11)]?).bind λx9=>(c (x9,())).bind λx10=>rdL x1.1 1 λ_=>(x1.1[(Int.toNat 1)]?).bind λx11=>rdL x1.1 3 λ_=>(x1.1[(Int.toNat 3)]?).bind λx12=>cond (!(a.1=[])) ((d ((⟨x11,2,x12,⟨x4.1.X,x4.1.Y⟩,x6.1,x8.1,x10.1⟩:Device),())).bind λx13=>cond (!(x13.1=a.1)) (some ((⟨[],0,[],⟨0,0⟩,0,0,0⟩:Device),false,())) (some ((⟨x11,2,x12,⟨x4.1.X,x4.1.Y⟩,x6.1,x8.1,x10.1⟩:Device),true,()))) (some ((⟨[],0,[],⟨0,0⟩,0,0,0⟩:Device),false,()))) j1) (cond ((Int.ofNat x1.1.length)=6) (rdL x1.1 0 λ_=>(x1.1[(Int.toNat 0)]?).bind λx2=>cond (x2=[108,97,109,112]) (rdL x1.1 5 λ_=>(x1.1[(Int.toNat 5)]?).bind λx3=>(e (x3,())).bind λx4=>rdL x1.1 1 λ_=>(x1.1[(Int.toNat 1)]?).bind λx5=>rdL x1.1 3 λ_=>(x1.1[(Int.toNat 3)]?).bind λx6=>cond (!(a.1=[])) ((d ((⟨x5,3,x6,⟨x4.1.X,x4.1.Y⟩,0,0,0⟩:Device),())).bind λx7=>cond (!(x7.1=a.1)) (some ((⟨[],0,[],⟨0,0⟩,0,0,0⟩:Device),false,())) (some ((⟨x5,3,x6,⟨x4.1.X,x4.1.Y⟩,0,0,0⟩:Device),true,()))) (some ((⟨[],0,[],⟨0,0⟩,0,0,0⟩:Device),false,()))) j3) (cond (!(a.1=[])) ((d ((⟨[],0,[],⟨0,0⟩,0,0,0⟩:Device),())).bind λx2=>cond (!(x2.1=a.1)) (some ((⟨[],0,[],⟨0,0⟩,0,0,0⟩:Device),false,())) (some ((⟨[],0,[],⟨0,0⟩,0,0,0⟩:Device),true,()))) (some ((⟨[],0,[],⟨0,0⟩,0,0,0⟩:Device),false,())))))) (cond ((Int.ofNat x1.1.length)=6) (rdL x1.1 0 λ_=>(x1.1[(Int.toNat 0)]?).bind λx3=>cond (x3=[108,97,109,112]) (rdL x1.1 5 λ_=>(x1.1[(Int.toNat 5)]?).bind λx4=>(e (x4,())).bind λx5=>rdL x1.1 1 λ_=>(x1.1[(Int.toNat 1)]?).bind λx6=>rdL x1.1 3 λ_=>(x1.1[(Int.toNat 3)]?).bind λx7=>cond (!(a.1=[])) ((d ((⟨x6,3,x7,⟨x5.1.X,x5.1.Y⟩,0,0,0⟩:Device),())).bind λx8=>cond (!(x8.1=a.1)) (some ((⟨[],0,[],⟨0,0⟩,0,0,0⟩:Device),false,())) (some ((⟨x6,3,x7,⟨x5.1.X,x5.1.Y⟩,0,0,0⟩:Device),true,()))) (some ((⟨[],0,[],⟨0,0⟩,0,0,0⟩:Device),false,()))) j2) j3)) (cond (!(a.1=[])) ((d ((⟨[],0,[],⟨0,0⟩,0,0,0⟩:Device),())).bind λx3=>cond (!(x3.1=a.1)) (some ((⟨[],0,[],⟨0,0⟩,0,0,0⟩:Device),false,())) (some ((⟨[],0,[],⟨0,0⟩,0,0,0⟩:Device),true,()))) (some ((⟨[],0,[],⟨0,0⟩,0,0,0⟩:Device),false,())))) (cond (!(a.1=[])) ((d ((⟨[],0,[],⟨0,0⟩,0,0,0⟩:Device),())).bind λx4=>cond (!(x4.1=a.1)) (some ((⟨[],0,[],⟨0,0⟩,0,0,0⟩:Device),false,())) (some ((⟨[],0,[],⟨0,0⟩,0,0,0⟩:Device),true,()))) (some ((⟨[],0,[],⟨0,0⟩,0,0,0⟩:Device),false,())))
theorem ok101{g h i j k} :N10 g->N189 h->N191 i->N100 j->N99 k->N101 (F101 g h i j k):=λa b c d e=>fk0 (oks5 a b c d e) func101
abbrev N198(f:T80):=OKP 198 (mkE p171 p268 false f)
def F198(b:T171)(c:T54)(d:T21):T80:=λa=>
 (b (a.1,())).bind λx1=>cond (!x1.1) (some ([],())) ((c (a.1.Tick,())).bind λx2=>capK (x2.1.length+List.length [32]) (capK (List.length (x2.1++[32])+List.length a.1.Name) (capK (List.length ((x2.1++[32])++a.1.Name)+List.length [32]) ((d (a.1.Level,())).bind λx3=>capK (List.length (((x2.1++[32])++a.1.Name)++[32])+x3.1.length) (cond (!(a.1.Ramp=0)) ((c (a.1.Ramp,())).bind λx4=>capK (List.length [32,105,110,32]+x4.1.length) (capK (List.length ((((x2.1++[32])++a.1.Name)++[32])++x3.1)+List.length ([32,105,110,32]++x4.1)) (some ((((((x2.1++[32])++a.1.Name)++[32])++x3.1)++([32,105,110,32]++x4.1)),())))) (some (((((x2.1++[32])++a.1.Name)++[32])++x3.1),())))))))
theorem ok198{d e g} :N199 d->N54 e->N21 g->N198 (F198 d e g):=λa b c=>fk0 (oks3 a b c) func198
abbrev N104(f:T245):=OKP 104 (mkE p268 r245 false f)
def F104(b:T10)(c:T144)(d:T144)(e:T80):T245:=λa=>
 (b (a.1,[32],())).bind λx1=>(λj1:Option (Cue×Bool×Unit)=>cond (!((Int.ofNat x1.1.length)=3)) (cond (!((Int.ofNat x1.1.length)=5)) (some ((⟨0,[],0,0⟩:Cue),false,())) j1) j1) (rdL x1.1 0 λ_=>(x1.1[(Int.toNat 0)]?).bind λx2=>(c (x2,())).bind λx3=>rdL x1.1 2 λ_=>(x1.1[(Int.toNat 2)]?).bind λx4=>(d (x4,())).bind λx5=>cond ((Int.ofNat x1.1.length)=5) (rdL x1.1 4 λ_=>(x1.1[(Int.toNat 4)]?).bind λx6=>(c (x6,())).bind λx7=>rdL x1.1 1 λ_=>(x1.1[(Int.toNat 1)]?).bind λx8=>cond (!(!x3.2.1)) (cond (!(!x5.2.1)) (cond (!(!x7.2.1)) ((e ((⟨x3.1,x8,x5.1,x7.1⟩:Cue),())).bind λx9=>cond (!(x9.1=a.1)) (some ((⟨0,[],0,0⟩:Cue),false,())) (some ((⟨x3.1,x8,x5.1,x7.1⟩:Cue),true,()))) (some ((⟨0,[],0,0⟩:Cue),false,()))) (some ((⟨0,[],0,0⟩:Cue),false,()))) (some ((⟨0,[],0,0⟩:Cue),false,()))) (rdL x1.1 1 λ_=>(x1.1[(Int.toNat 1)]?).bind λx6=>cond (!(!x3.2.1)) (cond (!(!x5.2.1)) ((e ((⟨x3.1,x6,x5.1,0⟩:Cue),())).bind λx7=>cond (!(x7.1=a.1)) (some ((⟨0,[],0,0⟩:Cue),false,())) (some ((⟨x3.1,x6,x5.1,0⟩:Cue),true,()))) (some ((⟨0,[],0,0⟩:Cue),false,()))) (some ((⟨0,[],0,0⟩:Cue),false,()))))
theorem ok104{e g h i} :N10 e->N99 g->N189 h->N198 i->N104 (F104 e g h i):=λa b c d=>fk0 (oks4 a b c d) func104
abbrev N291(f:T325):=OKP 291 (mkE p325 p181 false f)
def q291_0:List SP:=pat 27 0 [(1,.one (.int .i64)),(4,.boxt 5000001 .place),(5,.boxt 5000002 .place),(13,.one (.r .gust)),(14,.one (.int .i64)),(15,.one (.int .i64))]
def s291_0(b:T232):Lp (Int×Place×Place×List Gust×Int×Int×Unit) (Place×Unit):=λt2 rec K=>
 cond (t2.2.2.2.2.2.1<t2.2.2.2.2.1) (rdL t2.2.2.2.1 t2.2.2.2.2.2.1 λx1=>cond (x1.From<=t2.1) (rec (t2.1,t2.2.1,x1.Drift,t2.2.2.2.1,t2.2.2.2.2.1,(w64 (t2.2.2.2.2.2.1+1)),())) (rec (t2.1,t2.2.1,t2.2.2.1,t2.2.2.2.1,t2.2.2.2.2.1,(w64 (t2.2.2.2.2.2.1+1)),()))) (K t2)
def F291(b:T232):T325:=λa=>
 (b (a.1,())).bind λx1=>cond (!x1.1) (some ((⟨0,0⟩:Place),())) (ZAD (s291_0 b) fuel (a.2.1,(⟨0,0⟩:Place),(⟨0,0⟩:Place),a.1,(Int.ofNat a.1.length),0,()) λx2=>some (x2.2.2.1,()))
theorem ok291{b} :N120 b->N291 (F291 b):=λa=>fk1 p325 p181 q291_0 (s291_0 b) (.cons a .nil) func291
abbrev N204(f:T328):=OKP 204 (mkE p325 r326 false f)
def q204_0:List SP:=pat 30 0 [(1,.one (.int .i64)),(5,.one (.o 5000001 .gust)),(14,.one (.r .gust)),(15,.one (.int .i64)),(16,.one (.int .i64))]
def s204_0(b:T325):Lp (Int×List Gust×List Gust×Int×Int×Unit) (List Gust×Unit):=λt2 rec K=>
 cond (t2.2.2.2.2.1<t2.2.2.2.1) (rdL t2.2.2.1 t2.2.2.2.2.1 λx1=>cond (x1.From>t2.1) (capK (t2.2.1.length+List.length ([x1]:List Gust)) (rec (t2.1,(t2.2.1++([x1]:List Gust)),t2.2.2.1,t2.2.2.2.1,(w64 (t2.2.2.2.2.1+1)),()))) (rec (t2.1,t2.2.1,t2.2.2.1,t2.2.2.2.1,(w64 (t2.2.2.2.2.1+1)),()))) (K t2)
def F204(b:T325):T328:=λa=>
 (b a).bind λx1=>ZAD (s204_0 b) fuel (a.2.1,([(⟨a.2.1,⟨x1.1.X,x1.1.Y⟩⟩:Gust)]:List Gust),a.1,(Int.ofNat a.1.length),0,()) λx2=>some (x2.2.1,())
theorem ok204{b} :N291 b->N204 (F204 b):=λa=>fk1 p325 r326 q204_0 (s204_0 b) (.cons a .nil) func204
abbrev N203(f:T186):=OKP 203 (mkE p232 r326 false f)
def q203_0:List SP:=pat 27 0 [(3,.one (.o 5000001 .gust)),(4,.boxt 5000002 .place),(9,.one (.r .gust)),(10,.one (.int .i64)),(11,.one (.int .i64))]
def s203_0:Lp (List Gust×Place×List Gust×Int×Int×Unit) (List Gust×Unit):=λt1 rec K=>
 cond (t1.2.2.2.2.1<t1.2.2.2.1) (rdL t1.2.2.1 t1.2.2.2.2.1 λx1=>cond (!(decide (x1.Drift.X=t1.2.1.X) && (decide (x1.Drift.Y=t1.2.1.Y) && true))) (capK (t1.1.length+List.length ([x1]:List Gust)) (rec ((t1.1++([x1]:List Gust)),x1.Drift,t1.2.2.1,t1.2.2.2.1,(w64 (t1.2.2.2.2.1+1)),()))) (rec (t1.1,t1.2.1,t1.2.2.1,t1.2.2.2.1,(w64 (t1.2.2.2.2.1+1)),()))) (K t1)
def F203:T186:=λa=>
 ZAD (s203_0) fuel (([]:List Gust),(⟨0,0⟩:Place),a.1,(Int.ofNat a.1.length),0,()) λx1=>some (x1.1,())
theorem ok203:N203 (F203):=fk1 p232 r326 q203_0 s203_0 .nil func203
abbrev N106(f:T251):=OKP 106 (mkE p251 r251 false f)
def q106_0:List SP:=pat 52 0 [(1,.one (.r .gust)),(2,.one (.int .i64)),(8,.one (.o 5000001 .gust)),(26,.one (.r .gust)),(27,.one (.int .i64)),(28,.one (.int .i64))]
def s106_0(b:T232)(c:T233)(d:T328)(e:T186):Lp (List Gust×Int×List Gust×List Gust×Int×Int×Unit) (List Gust×Bool×Unit):=λt4 rec K=>
 cond (t4.2.2.2.2.2.1<t4.2.2.2.2.1) (rdL t4.2.2.2.1 t4.2.2.2.2.2.1 λx1=>cond (x1.From<t4.2.1) (capK (t4.2.2.1.length+List.length ([x1]:List Gust)) (rec (t4.1,t4.2.1,(t4.2.2.1++([x1]:List Gust)),t4.2.2.2.1,t4.2.2.2.2.1,(w64 (t4.2.2.2.2.2.1+1)),()))) (rec (t4.1,t4.2.1,t4.2.2.1,t4.2.2.2.1,t4.2.2.2.2.1,(w64 (t4.2.2.2.2.2.1+1)),()))) (K t4)
def F106(b:T232)(c:T233)(d:T328)(e:T186):T251:=λa=>
 (b (a.1,())).bind λx1=>cond (!(!x1.1)) ((b (a.2.1,())).bind λx2=>cond (!(!x2.1)) ((c (a.2.2.1,0,64,())).bind λx3=>cond (!x3.1) (some (([]:List Gust),false,())) (ZAD (s106_0 b c d e) fuel (a.2.1,a.2.2.1,([]:List Gust),a.1,(Int.ofNat a.1.length),0,()) λx4=>(d (x4.1,x4.2.1,())).bind λx5=>capK (x4.2.2.1.length+x5.1.length) ((e ((x4.2.2.1++x5.1),())).bind λx6=>cond ((Int.ofNat x6.1.length)>8) (some (([]:List Gust),false,())) (some (x6.1,true,()))))) (some (([]:List Gust),false,()))) (some (([]:List Gust),false,()))
theorem ok106{e g h i} :N120 e->N121 g->N204 h->N203 i->N106 (F106 e g h i):=λa b c d=>fk1 p251 r251 q106_0 (s106_0 e g h i) (oks4 a b c d) func106
abbrev N304(f:T371):=OKP 304 (mkE p269 p269 false f)
def F304:T371:=λa=>
 some ((Int.tmod (w64 ((Int.tmod a.1 4)+4)) 4),())
theorem ok304:N304 (F304):=fk0 .nil func304
abbrev N220(f:T355):=OKP 220 (mkE p355 p181 false f)
def q220_0:List SP:=pat 17 0 [(2,.boxt 5000001 .place),(4,.boxt 5000002 .place),(6,.one (.int .i64)),(7,.one (.int .i64))]
def s220_0(b:T371):Lp (Place×Place×Int×Int×Unit) (Place×Unit):=λt2 rec K=>
 cond (t2.2.2.2.1<t2.2.2.1) (rec ((⟨(w64 (0-t2.1.Y)),t2.1.X⟩:Place),t2.2.1,t2.2.2.1,(w64 (t2.2.2.2.1+1)),())) (K t2)
def F220(b:T371):T355:=λa=>
 (b (a.2.1,())).bind λx1=>ZAD (s220_0 b) fuel (a.1,(⟨0,0⟩:Place),x1.1,0,()) λx2=>some (x2.1,())
theorem ok220{b} :N304 b->N220 (F220 b):=λa=>fk1 p355 p181 q220_0 (s220_0 b) (.cons a .nil) func220
abbrev N292(f:T358):=OKP 292 (mkE p358 p269 false f)
def F292(b:T269)(c:T371):T358:=λa=>
 (b (a.1,())).bind λx1=>cond (!x1.1) (some (0,())) ((c (a.2.1,())).bind λx2=>some ((Int.tmod (w64 (a.1+x2.1)) 4),()))
theorem ok292{c d} :N219 c->N304 d->N292 (F292 c d):=λa b=>fk0 (oks2 a b) func292
abbrev N205(f:T327):=OKP 205 (mkE p327 r228 false f)
def q205_0:List SP:=pat 38 0 [(1,.one (.int .i64)),(5,.one (.o 5000001 .device)),(13,.one (.r .device)),(14,.one (.int .i64)),(15,.one (.int .i64))]
def s205_0(b:T230)(c:T355)(d:T358):Lp (Int×List Device×List Device×Int×Int×Unit) (List Device×Unit):=λt2 rec K=>
 cond (t2.2.2.2.2.1<t2.2.2.2.1) (rdL t2.2.2.1 t2.2.2.2.2.1 λx1=>(c (x1.At,t2.1,())).bind λx2=>cond (x1.Kind=2) ((d (x1.Heading,t2.1,())).bind λx3=>capK (t2.2.1.length+List.length ([(⟨x1.Name,x1.Kind,x1.Line,⟨x2.1.X,x2.1.Y⟩,x3.1,x1.Tilt,x1.Most⟩:Device)]:List Device)) (rec (t2.1,(t2.2.1++([(⟨x1.Name,x1.Kind,x1.Line,⟨x2.1.X,x2.1.Y⟩,x3.1,x1.Tilt,x1.Most⟩:Device)]:List Device)),t2.2.2.1,t2.2.2.2.1,(w64 (t2.2.2.2.2.1+1)),()))) (capK (t2.2.1.length+List.length ([(⟨x1.Name,x1.Kind,x1.Line,⟨x2.1.X,x2.1.Y⟩,x1.Heading,x1.Tilt,x1.Most⟩:Device)]:List Device)) (rec (t2.1,(t2.2.1++([(⟨x1.Name,x1.Kind,x1.Line,⟨x2.1.X,x2.1.Y⟩,x1.Heading,x1.Tilt,x1.Most⟩:Device)]:List Device)),t2.2.2.1,t2.2.2.2.1,(w64 (t2.2.2.2.2.1+1)),())))) (K t2)
def F205(b:T230)(c:T355)(d:T358):T327:=λa=>
 (b (a.1,())).bind λx1=>cond (!x1.1) (some (([]:List Device),())) (ZAD (s205_0 b c d) fuel (a.2.1,([]:List Device),a.1,(Int.ofNat a.1.length),0,()) λx2=>some (x2.2.1,()))
theorem ok205{d e g} :N118 d->N220 e->N292 g->N205 (F205 d e g):=λa b c=>fk1 p327 r228 q205_0 (s205_0 d e g) (oks3 a b c) func205
abbrev N206(f:T328):=OKP 206 (mkE p325 r326 false f)
def q206_0:List SP:=pat 31 0 [(1,.one (.int .i64)),(5,.one (.o 5000001 .gust)),(13,.one (.r .gust)),(14,.one (.int .i64)),(15,.one (.int .i64))]
def s206_0(b:T232)(c:T355):Lp (Int×List Gust×List Gust×Int×Int×Unit) (List Gust×Unit):=λt2 rec K=>
 cond (t2.2.2.2.2.1<t2.2.2.2.1) (rdL t2.2.2.1 t2.2.2.2.2.1 λx1=>(c (x1.Drift,t2.1,())).bind λx2=>capK (t2.2.1.length+List.length ([(⟨x1.From,⟨x2.1.X,x2.1.Y⟩⟩:Gust)]:List Gust)) (rec (t2.1,(t2.2.1++([(⟨x1.From,⟨x2.1.X,x2.1.Y⟩⟩:Gust)]:List Gust)),t2.2.2.1,t2.2.2.2.1,(w64 (t2.2.2.2.2.1+1)),()))) (K t2)
def F206(b:T232)(c:T355):T328:=λa=>
 (b (a.1,())).bind λx1=>cond (!x1.1) (some (([]:List Gust),())) (ZAD (s206_0 b c) fuel (a.2.1,([]:List Gust),a.1,(Int.ofNat a.1.length),0,()) λx2=>some (x2.2.1,()))
theorem ok206{c d} :N120 c->N220 d->N206 (F206 c d):=λa b=>fk1 p325 r326 q206_0 (s206_0 c d) (oks2 a b) func206
abbrev N107(f:T252):=OKP 107 (mkE p329 r139 false f)
def F107(b:T50)(c:T327)(d:T229)(e:T328):T252:=λa=>
 (b (a.1,())).bind λx1=>cond (!x1.1) (some (([],[],[],0,()),())) ((c (a.1.1,a.2.1,())).bind λx2=>(d (a.1.2.1,())).bind λx3=>(e (a.1.2.2.1,a.2.1,())).bind λx4=>some ((x2.1,x3.1,x4.1,a.1.2.2.2.1,()),()))
theorem ok107{e g h i} :N50 e->N205 g->N185 h->N206 i->N107 (F107 e g h i):=λa b c d=>fk0 (oks4 a b c d) func107
abbrev T343:=Place×Unit->Option (Place×Bool×Unit)
abbrev N343(f:T343):=OKP 343 (mkE p181 r356 false f)
def F343(b:T181):T343:=λa=>
 (b (a.1,())).bind λx1=>cond (!x1.1) (some ((⟨0,0⟩:Place),false,())) (some (a.1,true,()))
theorem ok343{b} :N124 b->N343 (F343 b):=λa=>fk0 (.cons a .nil) func343
abbrev T293:=Place×Place×Unit->Option (Place×Bool×Unit)
abbrev N293(f:T293):=OKP 293 (mkE p235 r356 false f)
def F293(b:T181)(c:T343):T293:=λa=>
 (b (a.1,())).bind λx1=>cond (!(!x1.1)) ((b (a.2.1,())).bind λx2=>cond (!x2.1) (some ((⟨0,0⟩:Place),false,())) ((c ((⟨(w64 (a.1.X+a.2.1.X)),(w64 (a.1.Y+a.2.1.Y))⟩:Place),())).bind λx3=>some x3)) (some ((⟨0,0⟩:Place),false,()))
theorem ok293{c d} :N124 c->N343 d->N293 (F293 c d):=λa b=>fk0 (oks2 a b) func293
abbrev N207(f:T330):=OKP 207 (mkE p330 r167 false f)
def q207_0:List SP:=pat 57 0 [(3,.boxt 5000001 .place),(6,.one (.o 5000002 .device)),(22,.one (.al 5000002 .device)),(23,.one (.int .i64)),(24,.one (.int .i64))]
def s207_0(b:T230)(c:T181)(d:T228)(e:T293)(g:T270):Lp (Place×List Device×Unit×Int×Int×Unit) (List Device×Bool×Unit):=λt4 rec K=>
 cond (t4.2.2.2.2.1<t4.2.2.2.1) (rdL t4.2.1 t4.2.2.2.2.1 λ_=>(t4.2.1[(Int.toNat t4.2.2.2.2.1)]?).bind λx1=>cond (x1.Kind=1) (rec (t4.1,t4.2.1,(),t4.2.2.2.1,(w64 (t4.2.2.2.2.1+1)),())) ((e (x1.At,t4.1,())).bind λx2=>rdL t4.2.1 t4.2.2.2.2.1 λ_=>(t4.2.1[(Int.toNat t4.2.2.2.2.1)]?).bind λx3=>cond (!(!x2.2.1)) (rdL (List.set t4.2.1 (Int.toNat t4.2.2.2.2.1) (⟨x3.Name,x3.Kind,x3.Line,⟨x2.1.X,x2.1.Y⟩,x3.Heading,x3.Tilt,x3.Most⟩:Device)) t4.2.2.2.2.1 λ_=>((List.set t4.2.1 (Int.toNat t4.2.2.2.2.1) (⟨x3.Name,x3.Kind,x3.Line,⟨x2.1.X,x2.1.Y⟩,x3.Heading,x3.Tilt,x3.Most⟩:Device))[(Int.toNat t4.2.2.2.2.1)]?).bind λx4=>(g (x4,())).bind λx5=>cond (!x5.1) (some (([]:List Device),false,())) (rec (t4.1,(List.set t4.2.1 (Int.toNat t4.2.2.2.2.1) (⟨x3.Name,x3.Kind,x3.Line,⟨x2.1.X,x2.1.Y⟩,x3.Heading,x3.Tilt,x3.Most⟩:Device)),(),t4.2.2.2.1,(w64 (t4.2.2.2.2.1+1)),()))) (some (([]:List Device),false,())))) (K (t4.1,t4.2.1,(),t4.2.2.2.1,t4.2.2.2.2.1,()))
def F207(b:T230)(c:T181)(d:T228)(e:T293)(g:T270):T330:=λa=>
 (b (a.1,())).bind λx1=>cond (!(!x1.1)) ((c (a.2.1,())).bind λx2=>cond (!x2.1) (some (([]:List Device),false,())) ((d (a.1,())).bind λx3=>ZAD (s207_0 b c d e g) fuel (a.2.1,x3.1,(),(Int.ofNat x3.1.length),0,()) λx4=>some (x4.2.1,true,()))) (some (([]:List Device),false,()))
theorem ok207{g h i j k} :N118 g->N124 h->N184 i->N293 j->N192 k->N207 (F207 g h i j k):=λa b c d e=>fk1 p330 r167 q207_0 (s207_0 g h i j k) (oks5 a b c d e) func207
abbrev N108(f:T258):=OKP 108 (mkE p258 r236 false f)
def F108(b:T330)(c:T50)(d:T139):T258:=λa=>
 (b (a.1.1,a.2.1,())).bind λx1=>(c (a.1,())).bind λx2=>cond (!(!x2.1)) (cond (!x1.2.1) (some (([],[],[],0,()),false,())) ((d (a.1,())).bind λx3=>some ((x1.1,x3.1.2.1,x3.1.2.2.1,x3.1.2.2.2.1,()),true,()))) (some (([],[],[],0,()),false,()))
theorem ok108{d e g} :N207 d->N50 e->N94 g->N108 (F108 d e g):=λa b c=>fk0 (oks3 a b c) func108
abbrev N126(f:T311):=OKP 126 (mkE p331 p269 false f)
def F126(b:T331):T311:=λa=>
 (b (a.1,())).bind λx1=>cond (!x1.1) (some (0,())) (some ((w64 (a.1.Lift+1)),()))
theorem ok126{b} :N218 b->N126 (F126 b):=λa=>fk0 (.cons a .nil) func126
abbrev T225:=Jet×Int×Unit->Option (Bool×Unit)
abbrev N225(f:T225):=OKP 225 (mkE p351 r268 false f)
def F225(b:T331)(c:T311)(d:T233):T225:=λa=>
 (b (a.1,())).bind λx1=>cond x1.1 ((c (a.1,())).bind λx2=>(d (a.2.1,0,x2.1,())).bind λx3=>some (x3.1,())) (some (false,()))
theorem ok225{d e g} :N218 d->N126 e->N121 g->N225 (F225 d e g):=λa b c=>fk0 (oks3 a b c) func225
def p303:List SP:=[.t .place,.one (.int .i64),.one (.int .i64)]
abbrev T303:=Place×Int×Int×Unit->Option (Place×Bool×Unit)
abbrev N303(f:T303):=OKP 303 (mkE p303 r356 false f)
def F303(b:T181)(c:T269)(d:T57)(e:T355)(g:T343):T303:=λa=>
 (b (a.1,())).bind λx1=>cond (!(!x1.1)) ((c (a.2.1,())).bind λx2=>cond (!(!x2.1)) ((d (a.2.2.1,())).bind λx3=>cond (!x3.1) (some ((⟨0,0⟩:Place),false,())) ((e ((⟨a.2.2.1,0⟩:Place),a.2.1,())).bind λx4=>(g ((⟨(w64 (a.1.X+x4.1.X)),(w64 (a.1.Y+x4.1.Y))⟩:Place),())).bind λx5=>some x5)) (some ((⟨0,0⟩:Place),false,()))) (some ((⟨0,0⟩:Place),false,()))
theorem ok303{g h i j k} :N124 g->N219 h->N57 i->N220 j->N343 k->N303 (F303 g h i j k):=λa b c d e=>fk0 (oks5 a b c d e) func303
abbrev N217(f:T356):=OKP 217 (mkE p351 r356 false f)
def F217(b:T225)(c:T303):T356:=λa=>
 (b a).bind λx1=>cond (!x1.1) (some ((⟨0,0⟩:Place),false,())) ((c (a.1.At,a.1.Heading,(w64 (a.2.1*a.1.Tilt)),())).bind λx2=>some x2)
theorem ok217{c d} :N225 c->N303 d->N217 (F217 c d):=λa b=>fk0 (oks2 a b) func217
abbrev N125(f:T316):=OKP 125 (mkE p331 r356 false f)
def F125(b:T311)(c:T356):T316:=λa=>
 (b (a.1,())).bind λx1=>(c (a.1,x1.1,())).bind λx2=>some x2
theorem ok125{c d} :N126 c->N217 d->N125 (F125 c d):=λa b=>fk0 (oks2 a b) func125
abbrev N214(f:T319):=OKP 214 (mkE p141 r319 false f)
def q214_0:List SP:=pat 58 0 [(2,.boxt 5000001 .box),(4,.boxt 5000002 .box),(18,.one (.r .place)),(19,.one (.int .i64)),(20,.one (.int .i64))]
def s214_0(b:T181):Lp (Box×Box×List Place×Int×Int×Unit) (Box×Bool×Unit):=λt3 rec K=>
 cond (t3.2.2.2.2.1<t3.2.2.2.1) (rdL t3.2.2.1 t3.2.2.2.2.1 λx1=>(b (x1,())).bind λx2=>cond (!x2.1) (some ((⟨⟨0,0⟩,⟨0,0⟩⟩:Box),false,())) (rec (t3.1,(⟨⟨(mn t3.2.1.Low.X x1.X),(mn t3.2.1.Low.Y x1.Y)⟩,⟨(mx t3.2.1.High.X x1.X),(mx t3.2.1.High.Y x1.Y)⟩⟩:Box),t3.2.2.1,t3.2.2.2.1,(w64 (t3.2.2.2.2.1+1)),()))) (K t3)
def F214(b:T181):T319:=λa=>
 cond ((Int.ofNat a.1.length)=0) (some ((⟨⟨0,0⟩,⟨0,0⟩⟩:Box),false,())) (rdL a.1 0 λx1=>rdL a.1 0 λx2=>ZAD (s214_0 b) fuel ((⟨⟨0,0⟩,⟨0,0⟩⟩:Box),(⟨⟨x1.X,x1.Y⟩,⟨x2.X,x2.Y⟩⟩:Box),a.1,(Int.ofNat a.1.length),0,()) λx3=>some (x3.2.1,true,()))
theorem ok214{b} :N124 b->N214 (F214 b):=λa=>fk1 p141 r319 q214_0 (s214_0 b) (.cons a .nil) func214
abbrev N301(f:T357):=OKP 301 (mkE p357 r319 false f)
def F301(b:T51)(c:T233)(d:T319):T357:=λa=>
 (b (a.1,())).bind λx1=>cond (!(!x1.1)) ((c (a.2.1,0,128,())).bind λx2=>cond (!x2.1) (some ((⟨⟨0,0⟩,⟨0,0⟩⟩:Box),false,())) ((d (a.1,())).bind λx3=>some ((⟨⟨(w64 (a.2.1*x3.1.Low.X)),(w64 (a.2.1*x3.1.Low.Y))⟩,⟨(w64 (a.2.1*x3.1.High.X)),(w64 (a.2.1*x3.1.High.Y))⟩⟩:Box),true,()))) (some ((⟨⟨0,0⟩,⟨0,0⟩⟩:Box),false,()))
theorem ok301{d e g} :N51 d->N121 e->N214 g->N301 (F301 d e g):=λa b c=>fk0 (oks3 a b c) func301
abbrev N213(f:T318):=OKP 213 (mkE p318 r319 false f)
def F213(b:T316)(c:T311)(d:T357):T318:=λa=>
 (b (a.1,())).bind λx1=>(c (a.1,())).bind λx2=>(d (a.2.1,x2.1,())).bind λx3=>cond (!(!x1.2.1)) (cond (!x3.2.1) (some ((⟨⟨0,0⟩,⟨0,0⟩⟩:Box),false,())) (some ((⟨⟨(w64 (x1.1.X+x3.1.Low.X)),(w64 (x1.1.Y+x3.1.Low.Y))⟩,⟨(w64 (x1.1.X+x3.1.High.X)),(w64 (x1.1.Y+x3.1.High.Y))⟩⟩:Box),true,()))) (some ((⟨⟨0,0⟩,⟨0,0⟩⟩:Box),false,()))
theorem ok213{d e g} :N125 d->N126 e->N301 g->N213 (F213 d e g):=λa b c=>fk0 (oks3 a b c) func213
abbrev N130(f:T320):=OKP 130 (mkE p320 r268 false f)
def F130(b:T52)(c:T233):T320:=λa=>
 (b (a.1,())).bind λx1=>cond x1.1 ((c (a.2.1.X,a.1.Low.X,a.1.High.X,())).bind λx2=>cond x2.1 ((c (a.2.1.Y,a.1.Low.Y,a.1.High.Y,())).bind λx3=>some (x3.1,())) (some (false,()))) (some (false,()))
theorem ok130{c d} :N52 c->N121 d->N130 (F130 c d):=λa b=>fk0 (oks2 a b) func130
abbrev N294(f:T349):=OKP 294 (mkE p349 r268 false f)
def F294(b:T320):T349:=λa=>
 (b (a.2.1,a.1.Low,())).bind λx1=>cond x1.1 ((b (a.2.1,a.1.High,())).bind λx2=>some (x2.1,())) (some (false,()))
theorem ok294{b} :N130 b->N294 (F294 b):=λa=>fk0 (.cons a .nil) func294
abbrev N208(f:T308):=OKP 208 (mkE p308 p269 false f)
def q208_0:List SP:=pat 49 0 [(1,.one (.r .place)),(3,.boxt 5000001 .device),(5,.boxt 5000002 .box),(7,.one (.int .i64))]
def s208_0(b:T270)(c:T318)(d:T349):Lp (List Place×Device×Box×Int×Unit) (Int×Unit):=λt2 rec K=>
 cond (t2.2.2.2.1<=t2.2.1.Most) ((c ((⟨⟨t2.2.1.At.X,t2.2.1.At.Y⟩,t2.2.1.Heading,t2.2.1.Tilt,t2.2.2.2.1⟩:Jet),t2.1,())).bind λx1=>cond (!(!x1.2.1)) ((d (x1.1,t2.2.2.1,())).bind λx2=>cond (!x2.1) (some ((w64 (t2.2.2.2.1-1)),())) (rec (t2.1,t2.2.1,t2.2.2.1,(w64 (t2.2.2.2.1+1)),()))) (some ((w64 (t2.2.2.2.1-1)),()))) (K t2)
def F208(b:T270)(c:T318)(d:T349):T308:=λa=>
 (b (a.1,())).bind λx1=>cond (!(!x1.1)) (cond (!(a.1.Kind=2)) (some (0,())) (ZAD (s208_0 b c d) fuel (a.2.1,a.1,a.2.2.1,1,()) λx2=>some (x2.2.1.Most,()))) (some (0,()))
theorem ok208{d e g} :N192 d->N213 e->N294 g->N208 (F208 d e g):=λa b c=>fk1 p308 p269 q208_0 (s208_0 d e g) (oks3 a b c) func208
abbrev N109(f:T236):=OKP 109 (mkE p236 r236 false f)
def q109_0:List SP:=pat 49 0 [(1,.one (.r .place)),(5,.boxt 5000001 .box),(6,.box 5000002 [.o 5000003 .device,.o 5000004 .cue,.o 5000005 .gust,.int .i64]),(8,.box 5000006 [.o 5000007 .device,.o 5000008 .cue,.o 5000009 .gust,.int .i64]),(28,.one (.al 5000007 .device)),(29,.one (.int .i64)),(30,.one (.int .i64))]
def s109_0(b:T50)(c:T51)(d:T52)(e:T139)(g:T308):Lp (List Place×Box×ShD×ShD×Unit×Int×Int×Unit) (ShD×Bool×Unit):=λt5 rec K=>
 cond (t5.2.2.2.2.2.2.1<t5.2.2.2.2.2.1) (rdL t5.2.2.2.1.1 t5.2.2.2.2.2.2.1 λ_=>(t5.2.2.2.1.1[(Int.toNat t5.2.2.2.2.2.2.1)]?).bind λx1=>cond (x1.Kind=2) ((g (x1,t5.1,t5.2.1,())).bind λx2=>rdL t5.2.2.2.1.1 t5.2.2.2.2.2.2.1 λ_=>(t5.2.2.2.1.1[(Int.toNat t5.2.2.2.2.2.2.1)]?).bind λx3=>rec (t5.1,t5.2.1,t5.2.2.1,((List.set t5.2.2.2.1.1 (Int.toNat t5.2.2.2.2.2.2.1) (⟨x3.Name,x3.Kind,x3.Line,⟨x3.At.X,x3.At.Y⟩,x3.Heading,x3.Tilt,x2.1⟩:Device)),t5.2.2.2.1.2.1,t5.2.2.2.1.2.2.1,t5.2.2.2.1.2.2.2.1,()),(),t5.2.2.2.2.2.1,(w64 (t5.2.2.2.2.2.2.1+1)),())) (rec (t5.1,t5.2.1,t5.2.2.1,t5.2.2.2.1,(),t5.2.2.2.2.2.1,(w64 (t5.2.2.2.2.2.2.1+1)),()))) (K (t5.1,t5.2.1,t5.2.2.1,t5.2.2.2.1,(),t5.2.2.2.2.2.1,t5.2.2.2.2.2.2.1,()))
def F109(b:T50)(c:T51)(d:T52)(e:T139)(g:T308):T236:=λa=>
 (b (a.1,())).bind λx1=>cond (!(!x1.1)) ((c (a.2.1,())).bind λx2=>cond (!(!x2.1)) ((d (a.2.2.1,())).bind λx3=>cond (!x3.1) (some (([],[],[],0,()),false,())) ((e (a.1,())).bind λx4=>ZAD (s109_0 b c d e g) fuel (a.2.1,a.2.2.1,([],[],[],0,()),x4.1,(),(Int.ofNat x4.1.1.length),0,()) λx5=>some (x5.2.2.2.1,true,()))) (some (([],[],[],0,()),false,()))) (some (([],[],[],0,()),false,()))
theorem ok109{g h i j k} :N50 g->N51 h->N52 i->N94 j->N208 k->N109 (F109 g h i j k):=λa b c d e=>fk1 p236 r236 q109_0 (s109_0 g h i j k) (oks5 a b c d e) func109
def p48:List SP:=[.agg [.r .device,.r .cue,.r .gust,.int .i64,.r .place,.int .i64,.int .i64,.int .i64,.int .i64],.agg [.str,.str,.int .i64,.o 0 .place]]
def r48:List SP:=[.agg [.o 1 .device,.o 2 .cue,.o 3 .gust,.int .i64,.o 4 .place,.int .i64,.int .i64,.int .i64,.int .i64],.one (.bool),.one (.bool)]
def r48b:List SP:=[.agg [.o 1 .device,.o 2 .cue,.o 3 .gust,.int .i64,.al 0 .place,.int .i64,.int .i64,.int .i64,.int .i64],.one (.bool),.one (.bool)]
abbrev T48:=(DkD×(Str×Str×Int×List Place×Unit)×Unit->Option (List Place×DkD×Bool×Bool×Unit))×(DkD×(Str×Str×Int×List Place×Unit)×Unit->Option (List Place×(List Device×List Cue×List Gust×Int×Unit×Int×Int×Int×Int×Unit)×Bool×Bool×Unit))
def N48(f:T48):Entry:= {pars:=p48.map SP.sh,res:=r48.map SP.sh,shares:=false,muts:=true,sem:=λR av bs K=>match av with
 | [_,.agg (.str w::_)]=>cond (w=[114,111,115,101]) ((mkE p48 r48b false f.2).sem R av bs K) ((mkE p48 r48 false f.1).sem R av bs K)
 | _=>none}
def F48(b:T46)(c:T243)(d:T167)(e:T244)(g:T245)(h:T322)(i:T251)(j:T51)(k:T52)(l:T252)(m:T258)(n:T236):T48:=
 (
 λa=>(b (a.1,())).bind λx1=>cond (a.2.1.1=[100,101,118,105,99,101]) ((c (a.2.1.2.1,())).bind λx2=>cond x2.2.1 ((d (a.1.1,x2.1,())).bind λx3=>some (a.2.1.2.2.2.1,(x3.1,x1.1.2.1,x1.1.2.2.1,x1.1.2.2.2.1,x1.1.2.2.2.2.1,x1.1.2.2.2.2.2.1,x1.1.2.2.2.2.2.2.1,x1.1.2.2.2.2.2.2.2.1,x1.1.2.2.2.2.2.2.2.2.1,()),x3.2.1,true,())) (some (a.2.1.2.2.2.1,x1.1,false,true,()))) (cond (a.2.1.1=[114,101,109,111,118,101]) ((e (a.1.1,a.2.1.2.1,())).bind λx2=>some (a.2.1.2.2.2.1,(x2.1,x1.1.2.1,x1.1.2.2.1,x1.1.2.2.2.1,x1.1.2.2.2.2.1,x1.1.2.2.2.2.2.1,x1.1.2.2.2.2.2.2.1,x1.1.2.2.2.2.2.2.2.1,x1.1.2.2.2.2.2.2.2.2.1,()),x2.2.1,true,())) (cond (a.2.1.1=[99,117,101]) ((g (a.2.1.2.1,())).bind λx2=>cond x2.2.1 ((h (a.1.2.1,x2.1,())).bind λx3=>some (a.2.1.2.2.2.1,(x1.1.1,x3.1,x1.1.2.2.1,x1.1.2.2.2.1,x1.1.2.2.2.2.1,x1.1.2.2.2.2.2.1,x1.1.2.2.2.2.2.2.1,x1.1.2.2.2.2.2.2.2.1,x1.1.2.2.2.2.2.2.2.2.1,()),x3.2.1,true,())) (some (a.2.1.2.2.2.1,x1.1,false,true,()))) (cond (a.2.1.1=[103,117,115,116]) (rdL a.2.1.2.2.2.1 0 λ_=>(a.2.1.2.2.2.1[(Int.toNat 0)]?).bind λx2=>(i (a.1.2.2.1,([(⟨0,⟨x2.X,x2.Y⟩⟩:Gust)]:List Gust),a.2.1.2.2.1,())).bind λx3=>some (a.2.1.2.2.2.1,(x1.1.1,x1.1.2.1,x3.1,x1.1.2.2.2.1,x1.1.2.2.2.2.1,x1.1.2.2.2.2.2.1,x1.1.2.2.2.2.2.2.1,x1.1.2.2.2.2.2.2.2.1,x1.1.2.2.2.2.2.2.2.2.1,()),x3.2.1,true,())) (cond (a.2.1.1=[116,105,99,107,115]) (some (a.2.1.2.2.2.1,(x1.1.1,x1.1.2.1,x1.1.2.2.1,a.2.1.2.2.1,x1.1.2.2.2.2.1,x1.1.2.2.2.2.2.1,x1.1.2.2.2.2.2.2.1,x1.1.2.2.2.2.2.2.2.1,x1.1.2.2.2.2.2.2.2.2.1,()),(decide (a.2.1.2.2.1<=64)),true,())) (cond (a.2.1.1=[114,111,115,101]) ((j (a.2.1.2.2.2.1,())).bind λx2=>none) (cond (a.2.1.1=[98,97,115,105,110]) (rdL a.2.1.2.2.2.1 0 λ_=>(a.2.1.2.2.2.1[(Int.toNat 0)]?).bind λx2=>rdL a.2.1.2.2.2.1 1 λ_=>(a.2.1.2.2.2.1[(Int.toNat 1)]?).bind λx3=>(k ((⟨⟨x2.X,x2.Y⟩,⟨x3.X,x3.Y⟩⟩:Box),())).bind λx4=>some (a.2.1.2.2.2.1,(x1.1.1,x1.1.2.1,x1.1.2.2.1,x1.1.2.2.2.1,x1.1.2.2.2.2.1,x2.X,x2.Y,x3.X,x3.Y,()),x4.1,true,())) (cond (a.2.1.1=[116,117,114,110]) ((l ((a.1.1,a.1.2.1,a.1.2.2.1,a.1.2.2.2.1,()),a.2.1.2.2.1,())).bind λx2=>some (a.2.1.2.2.2.1,(x2.1.1,x2.1.2.1,x2.1.2.2.1,x2.1.2.2.2.1,x1.1.2.2.2.2.1,x1.1.2.2.2.2.2.1,x1.1.2.2.2.2.2.2.1,x1.1.2.2.2.2.2.2.2.1,x1.1.2.2.2.2.2.2.2.2.1,()),true,true,())) (cond (a.2.1.1=[115,104,105,102,116]) (rdL a.2.1.2.2.2.1 0 λ_=>(a.2.1.2.2.2.1[(Int.toNat 0)]?).bind λx2=>(m ((a.1.1,a.1.2.1,a.1.2.2.1,a.1.2.2.2.1,()),x2,())).bind λx3=>some (a.2.1.2.2.2.1,(x3.1.1,x3.1.2.1,x3.1.2.2.1,x3.1.2.2.2.1,x1.1.2.2.2.2.1,x1.1.2.2.2.2.2.1,x1.1.2.2.2.2.2.2.1,x1.1.2.2.2.2.2.2.2.1,x1.1.2.2.2.2.2.2.2.2.1,()),x3.2.1,true,())) (cond (a.2.1.1=[108,105,109,105,116]) ((n ((a.1.1,a.1.2.1,a.1.2.2.1,a.1.2.2.2.1,()),a.1.2.2.2.2.1,(⟨⟨a.1.2.2.2.2.2.1,a.1.2.2.2.2.2.2.1⟩,⟨a.1.2.2.2.2.2.2.2.1,a.1.2.2.2.2.2.2.2.2.1⟩⟩:Box),())).bind λx2=>some (a.2.1.2.2.2.1,(x2.1.1,x2.1.2.1,x2.1.2.2.1,x2.1.2.2.2.1,x1.1.2.2.2.2.1,x1.1.2.2.2.2.2.1,x1.1.2.2.2.2.2.2.1,x1.1.2.2.2.2.2.2.2.1,x1.1.2.2.2.2.2.2.2.2.1,()),x2.2.1,true,())) (some (a.2.1.2.2.2.1,x1.1,false,false,()))))))))))),
 λa=>(b (a.1,())).bind λx1=>cond (a.2.1.1=[100,101,118,105,99,101]) ((c (a.2.1.2.1,())).bind λx2=>cond x2.2.1 ((d (a.1.1,x2.1,())).bind λx3=>none) (none)) (cond (a.2.1.1=[114,101,109,111,118,101]) ((e (a.1.1,a.2.1.2.1,())).bind λx2=>none) (cond (a.2.1.1=[99,117,101]) ((g (a.2.1.2.1,())).bind λx2=>cond x2.2.1 ((h (a.1.2.1,x2.1,())).bind λx3=>none) (none)) (cond (a.2.1.1=[103,117,115,116]) (rdL a.2.1.2.2.2.1 0 λ_=>(a.2.1.2.2.2.1[(Int.toNat 0)]?).bind λx2=>(i (a.1.2.2.1,([(⟨0,⟨x2.X,x2.Y⟩⟩:Gust)]:List Gust),a.2.1.2.2.1,())).bind λx3=>none) (cond (a.2.1.1=[116,105,99,107,115]) (none) (cond (a.2.1.1=[114,111,115,101]) ((j (a.2.1.2.2.2.1,())).bind λx2=>some (a.2.1.2.2.2.1,(x1.1.1,x1.1.2.1,x1.1.2.2.1,x1.1.2.2.2.1,(),x1.1.2.2.2.2.2.1,x1.1.2.2.2.2.2.2.1,x1.1.2.2.2.2.2.2.2.1,x1.1.2.2.2.2.2.2.2.2.1,()),x2.1,true,())) (cond (a.2.1.1=[98,97,115,105,110]) (rdL a.2.1.2.2.2.1 0 λ_=>(a.2.1.2.2.2.1[(Int.toNat 0)]?).bind λx2=>rdL a.2.1.2.2.2.1 1 λ_=>(a.2.1.2.2.2.1[(Int.toNat 1)]?).bind λx3=>(k ((⟨⟨x2.X,x2.Y⟩,⟨x3.X,x3.Y⟩⟩:Box),())).bind λx4=>none) (cond (a.2.1.1=[116,117,114,110]) ((l ((a.1.1,a.1.2.1,a.1.2.2.1,a.1.2.2.2.1,()),a.2.1.2.2.1,())).bind λx2=>none) (cond (a.2.1.1=[115,104,105,102,116]) (rdL a.2.1.2.2.2.1 0 λ_=>(a.2.1.2.2.2.1[(Int.toNat 0)]?).bind λx2=>(m ((a.1.1,a.1.2.1,a.1.2.2.1,a.1.2.2.2.1,()),x2,())).bind λx3=>none) (cond (a.2.1.1=[108,105,109,105,116]) ((n ((a.1.1,a.1.2.1,a.1.2.2.1,a.1.2.2.2.1,()),a.1.2.2.2.2.1,(⟨⟨a.1.2.2.2.2.2.1,a.1.2.2.2.2.2.2.1⟩,⟨a.1.2.2.2.2.2.2.2.1,a.1.2.2.2.2.2.2.2.2.1⟩⟩:Box),())).bind λx2=>none) (none)))))))))))
theorem ok48{b c d e g h i j k l m o}(h46:N46 b)(h101:N101 c)(h102:N102 d)(h103:N103 e)(h104:N104 g)(h105:N105 h)(h106:N106 i)(h51:N51 j)(h52:N52 k)(h107:N107 l)(h108:N108 m)(h109:N109 o):OKP 48 (N48 (F48 b c d e g h i j k l m o)):=by
 have h1:OKP 48 (mkE p48 r48 false (F48 b c d e g h i j k l m o).1):=fka0 (ann:=λn=>Nat.beq n 2500107 || Nat.beq n 2599999 || Nat.beq n 2700107 || Nat.beq n 2799999 || Nat.beq n 3600107 || Nat.beq n 3699999) (ZPI h46 h101 h102 h103 h104 h105 h106 h51 h52 h107 h108 h109) func48 (by kernel_rfl) λ_=>by kernel_rfl
 have h2:OKP 48 (mkE p48 r48b false (F48 b c d e g h i j k l m o).2):=fka0 (ann:=λn=>Nat.beq n 2500107 || Nat.beq n 2599999 || Nat.beq n 2700107 || Nat.beq n 2799999 || Nat.beq n 3600107 || Nat.beq n 3699999) (ZPI h46 h101 h102 h103 h104 h105 h106 h51 h52 h107 h108 h109) func48 (by kernel_rfl) λ_=>by kernel_rfl
 refine⟨λR av bs K r hs=> ?_,h1.fn⟩
 simp only[N48]at hs
 split at hs
 ·rename_i w _
  cases hb:decide (w=[114,111,115,101])<;>rw[hb]at hs
  ·exact h1.ent R _ bs K r hs
  ·exact h2.ent R _ bs K r hs
 ·cases hs
abbrev N295(f:T358):=OKP 295 (mkE p358 p269 false f)
def F295:T358:=λa=>
 cond (a.2.1=0) none (cond (a.2.1=0) none (cond ((Int.tmod a.1 a.2.1)<0) (some ((w64 ((w64 (Int.tdiv a.1 a.2.1)) -1)),())) (some ((w64 (Int.tdiv a.1 a.2.1)),()))))
theorem ok295:N295 (F295):=fk0 .nil func295
abbrev N209(f:T323):=OKP 209 (mkE p323 p269 false f)
def F209(b:T57)(c:T358):T323:=λa=>
 (b (a.1,())).bind λx1=>cond (!(!x1.1)) ((b (a.2.1,())).bind λx2=>cond (!x2.1) (some (0,())) (cond (a.2.2.1>=a.2.2.2.1) (some (a.2.1,())) (cond (!(a.2.2.1<=0)) (cond (a.2.2.2.1>999) (some (a.1,())) ((c ((w64 (a.2.2.1*(w64 (a.2.1-a.1)))),a.2.2.2.1,())).bind λx3=>some ((w64 (a.1+x3.1)),()))) (some (a.1,()))))) (some (0,()))
theorem ok209{c d} :N57 c->N295 d->N209 (F209 c d):=λa b=>fk0 (oks2 a b) func209
abbrev N110(f:T249):=OKP 110 (mkE p249 p269 false f)
def q110_0:List SP:=pat 58 0 [(1,.one (.str)),(2,.one (.int .i64)),(7,.one (.int .i64)),(8,.boxt 5000001 .cue),(19,.one (.r .cue)),(20,.one (.int .i64)),(21,.one (.int .i64))]
def s110_0(b:T231)(c:T323):Lp (Str×Int×Int×Cue×List Cue×Int×Int×Unit) (Int×Unit):=λt2 rec K=>
 cond (t2.2.2.2.2.2.2.1<t2.2.2.2.2.2.1) (rdL t2.2.2.2.2.1 t2.2.2.2.2.2.2.1 λx1=>cond (x1.Name=t2.1) (cond (x1.Tick<=t2.2.1) ((c (t2.2.2.1,t2.2.2.2.1.Level,(w64 (x1.Tick-t2.2.2.2.1.Tick)),t2.2.2.2.1.Ramp,())).bind λx2=>rec (t2.1,t2.2.1,x2.1,x1,t2.2.2.2.2.1,t2.2.2.2.2.2.1,(w64 (t2.2.2.2.2.2.2.1+1)),())) (rec (t2.1,t2.2.1,t2.2.2.1,t2.2.2.2.1,t2.2.2.2.2.1,t2.2.2.2.2.2.1,(w64 (t2.2.2.2.2.2.2.1+1)),()))) (rec (t2.1,t2.2.1,t2.2.2.1,t2.2.2.2.1,t2.2.2.2.2.1,t2.2.2.2.2.2.1,(w64 (t2.2.2.2.2.2.2.1+1)),()))) (K t2)
def F110(b:T231)(c:T323):T249:=λa=>
 (b (a.1,())).bind λx1=>cond (!(!x1.1)) (cond (a.2.2.1<0) (some (0,())) (ZAD (s110_0 b c) fuel (a.2.1,a.2.2.1,0,(⟨0,[],0,0⟩:Cue),a.1,(Int.ofNat a.1.length),0,()) λx2=>(c (x2.2.2.1,x2.2.2.2.1.Level,(w64 (x2.2.1-x2.2.2.2.1.Tick)),x2.2.2.2.1.Ramp,())).bind λx3=>some (x3.1,()))) (some (0,()))
theorem ok110{c d} :N119 c->N209 d->N110 (F110 c d):=λa b=>fk1 p249 p269 q110_0 (s110_0 c d) (oks2 a b) func110
abbrev N296(f:T373):=OKP 296 (mkE p373 r268 false f)
def q296_0:List SP:=pat 18 0 [(0,.one (.r .int)),(5,.one (.r .int)),(6,.one (.int .i64)),(7,.one (.int .i64))]
def s296_0(b:T233):Lp (List Int×List Int×Int×Int×Unit) (Bool×Unit):=λt1 rec K=>
 cond (t1.2.2.2.1<t1.2.2.1) (rdL t1.2.1 t1.2.2.2.1 λx1=>(b (x1,0,64,())).bind λx2=>cond (!x2.1) (some (false,())) (rec (t1.1,t1.2.1,t1.2.2.1,(w64 (t1.2.2.2.1+1)),()))) (K t1)
def F296(b:T233):T373:=λa=>
 ZAD (s296_0 b) fuel (a.1,a.1,(Int.ofNat a.1.length),0,()) λx1=>some ((decide ((Int.ofNat x1.1.length)<=8)),())
theorem ok296{b} :N121 b->N296 (F296 b):=λa=>fk1 p373 r268 q296_0 (s296_0 b) (.cons a .nil) func296
abbrev N298(f:T375):=OKP 298 (mkE p375 r375 false f)
def q298_0:List SP:=pat 31 0 [(1,.one (.int .i64)),(5,.one (.o 5000001 .int)),(17,.one (.r .int)),(18,.one (.int .i64)),(19,.one (.int .i64))]
def s298_0(b:T373):Lp (Int×List Int×List Int×Int×Int×Unit) (List Int×Unit):=λt2 rec K=>
 cond (t2.2.2.2.2.1<t2.2.2.2.1) (rdL t2.2.2.1 t2.2.2.2.2.1 λx1=>capK (t2.2.1.length+List.length ([(mn x1 t2.1)]:List Int)) (rec (t2.1,(t2.2.1++([(mn x1 t2.1)]:List Int)),t2.2.2.1,t2.2.2.2.1,(w64 (t2.2.2.2.2.1+1)),()))) (K t2)
def F298(b:T373):T375:=λa=>
 (b (a.1,())).bind λx1=>cond (!(!x1.1)) (cond (a.2.1<0) (some (([]:List Int),())) (ZAD (s298_0 b) fuel (a.2.1,([]:List Int),a.1,(Int.ofNat a.1.length),0,()) λx2=>some (x2.2.1,()))) (some (([]:List Int),()))
theorem ok298{b} :N296 b->N298 (F298 b):=λa=>fk1 p375 r375 q298_0 (s298_0 b) (.cons a .nil) func298
abbrev N299(f:T376):=OKP 299 (mkE p373 p269 false f)
def q299_0:List SP:=pat 17 0 [(3,.one (.int .i64)),(6,.one (.r .int)),(7,.one (.int .i64)),(8,.one (.int .i64))]
def s299_0:Lp (Int×List Int×Int×Int×Unit) (Int×Unit):=λt1 rec K=>
 cond (t1.2.2.2.1<t1.2.2.1) (rdL t1.2.1 t1.2.2.2.1 λx1=>rec ((w64 (t1.1+x1)),t1.2.1,t1.2.2.1,(w64 (t1.2.2.2.1+1)),())) (K t1)
def F299:T376:=λa=>
 ZAD (s299_0) fuel (0,a.1,(Int.ofNat a.1.length),0,()) λx1=>some (x1.1,())
theorem ok299:N299 (F299):=fk1 p373 p269 q299_0 s299_0 .nil func299
abbrev N297(f:T374):=OKP 297 (mkE p374 p269 false f)
def q297_0:List SP:=pat 23 0 [(0,.one (.int .i64)),(1,.one (.r .int)),(5,.one (.int .i64))]
def s297_0(b:T373)(c:T269)(d:T375)(e:T376):Lp (Int×List Int×Int×Unit) (Int×Unit):=λt3 rec K=>
 (d t3.2).bind λx1=>(e (x1.1,())).bind λx2=>cond (x2.1>t3.1) (rec (t3.1,t3.2.1,(w64 (t3.2.2.1-1)),())) (K t3)
def F297(b:T373)(c:T269)(d:T375)(e:T376):T374:=λa=>
 (b (a.2.1,())).bind λx1=>cond (!(!x1.1)) ((c (a.1,())).bind λx2=>cond (!x2.1) (some (0,())) (ZAD (s297_0 b c d e) fuel (a.1,a.2.1,64,()) λx3=>some (x3.2.2.1,()))) (some (0,()))
theorem ok297{e g h i} :N296 e->N281 g->N298 h->N299 i->N297 (F297 e g h i):=λa b c d=>fk1 p374 p269 q297_0 (s297_0 e g h i) (oks4 a b c d) func297
abbrev N210(f:T361):=OKP 210 (mkE p374 r375 false f)
def q210_0:List SP:=pat 53 0 [(5,.one (.int .i64)),(6,.one (.o 5000001 .int)),(7,.one (.int .i64)),(29,.one (.r .int)),(30,.one (.int .i64)),(31,.one (.int .i64))]
def s210_0(b:T373)(c:T269)(d:T374)(e:T375)(g:T376):Lp (Int×List Int×Int×List Int×Int×Int×Unit) (List Int×Unit):=λt6 rec K=>
 cond (t6.2.2.2.2.2.1<t6.2.2.2.2.1) (rdL t6.2.2.2.1 t6.2.2.2.2.2.1 λx1=>cond (x1>t6.1) (cond (t6.2.2.1>0) (rdL t6.2.1 t6.2.2.2.2.2.1 λ_=>(t6.2.1[(Int.toNat t6.2.2.2.2.2.1)]?).bind λx2=>rdL t6.2.1 t6.2.2.2.2.2.1 λ_=>(t6.2.1[(Int.toNat t6.2.2.2.2.2.1)]?).bind λx3=>rec (t6.1,(List.set t6.2.1 (Int.toNat t6.2.2.2.2.2.1) (w64 (x2+1))),(w64 (t6.2.2.1-1)),t6.2.2.2.1,t6.2.2.2.2.1,(w64 (t6.2.2.2.2.2.1+1)),())) (rec (t6.1,t6.2.1,t6.2.2.1,t6.2.2.2.1,t6.2.2.2.2.1,(w64 (t6.2.2.2.2.2.1+1)),()))) (rec (t6.1,t6.2.1,t6.2.2.1,t6.2.2.2.1,t6.2.2.2.2.1,(w64 (t6.2.2.2.2.2.1+1)),()))) (K t6)
def F210(b:T373)(c:T269)(d:T374)(e:T375)(g:T376):T361:=λa=>
 (b (a.2.1,())).bind λx1=>cond (!(!x1.1)) ((c (a.1,())).bind λx2=>cond (!x2.1) (some (([]:List Int),())) ((d a).bind λx3=>(e (a.2.1,x3.1,())).bind λx4=>(g (x4.1,())).bind λx5=>ZAD (s210_0 b c d e g) fuel (x3.1,x4.1,(w64 (a.1-x5.1)),a.2.1,(Int.ofNat a.2.1.length),0,()) λx6=>some (x6.2.1,()))) (some (([]:List Int),()))
theorem ok210{g h i j k} :N296 g->N281 h->N297 i->N298 j->N299 k->N210 (F210 g h i j k):=λa b c d e=>fk1 p374 r375 q210_0 (s210_0 g h i j k) (oks5 a b c d e) func210
abbrev N111(f:T329):=OKP 111 (mkE p329 r375 false f)
def q111_2:List SP:=pat 91 0 [(1,.one (.int .i64)),(2,.box 5002001 [.r .device,.r .cue,.r .gust,.int .i64]),(5,.one (.o 5002002 .int)),(7,.boxt 5002003 .device),(8,.one (.o 5002004 .int)),(9,.one (.o 5002005 .int)),(30,.one (.r .device)),(31,.one (.int .i64)),(32,.one (.int .i64)),(42,.one (.r .device)),(43,.one (.int .i64)),(44,.one (.int .i64))]
def s111_2(b:T50)(c:T233)(d:T249)(e:T361):Lp (Int×ShD×List Int×Device×List Int×List Int×List Device×Int×Int×List Device×Int×Int×Unit) (List Int×Unit):=λt5 rec K=>
 cond (t5.2.2.2.2.2.2.2.2.2.2.2.1<t5.2.2.2.2.2.2.2.2.2.2.1) (rdL t5.2.2.2.2.2.2.2.2.2.1 t5.2.2.2.2.2.2.2.2.2.2.2.1 λx1=>cond (x1.Line=t5.2.2.2.1.Name) (capK (t5.2.2.2.2.1.length+List.length ([t5.2.2.2.2.2.2.2.2.2.2.2.1]:List Int)) ((d (t5.2.1.2.1,x1.Name,t5.1,())).bind λx2=>capK (t5.2.2.2.2.2.1.length+List.length ([(mn x2.1 x1.Most)]:List Int)) (rec (t5.1,t5.2.1,t5.2.2.1,t5.2.2.2.1,(t5.2.2.2.2.1++([t5.2.2.2.2.2.2.2.2.2.2.2.1]:List Int)),(t5.2.2.2.2.2.1++([(mn x2.1 x1.Most)]:List Int)),t5.2.2.2.2.2.2.1,t5.2.2.2.2.2.2.2.1,t5.2.2.2.2.2.2.2.2.1,t5.2.2.2.2.2.2.2.2.2.1,t5.2.2.2.2.2.2.2.2.2.2.1,(w64 (t5.2.2.2.2.2.2.2.2.2.2.2.1+1)),())))) (rec (t5.1,t5.2.1,t5.2.2.1,t5.2.2.2.1,t5.2.2.2.2.1,t5.2.2.2.2.2.1,t5.2.2.2.2.2.2.1,t5.2.2.2.2.2.2.2.1,t5.2.2.2.2.2.2.2.2.1,t5.2.2.2.2.2.2.2.2.2.1,t5.2.2.2.2.2.2.2.2.2.2.1,(w64 (t5.2.2.2.2.2.2.2.2.2.2.2.1+1)),()))) (K t5)
def q111_4:List SP:=pat 91 0 [(1,.one (.int .i64)),(2,.box 5004001 [.r .device,.r .cue,.r .gust,.int .i64]),(5,.one (.o 5004002 .int)),(8,.one (.o 5004003 .int)),(30,.one (.r .device)),(31,.one (.int .i64)),(32,.one (.int .i64)),(74,.one (.o 5004004 .int)),(75,.one (.int .i64)),(76,.one (.int .i64))]
def s111_4(b:T50)(c:T233)(d:T249)(e:T361):Lp (Int×ShD×List Int×List Int×List Device×Int×Int×List Int×Int×Int×Unit) (List Int×Unit):=λt10 rec K=>
 cond (t10.2.2.2.2.2.2.2.2.2.1<t10.2.2.2.2.2.2.2.2.1) (rdL t10.2.2.2.2.2.2.2.1 t10.2.2.2.2.2.2.2.2.2.1 λ_=>(t10.2.2.2.2.2.2.2.1[(Int.toNat t10.2.2.2.2.2.2.2.2.2.1)]?).bind λx1=>rdL t10.2.2.2.1 t10.2.2.2.2.2.2.2.2.2.1 λ_=>(t10.2.2.2.1[(Int.toNat t10.2.2.2.2.2.2.2.2.2.1)]?).bind λx2=>rdL t10.2.2.1 x2 λ_=>(t10.2.2.1[(Int.toNat x2)]?).bind λx3=>rec (t10.1,t10.2.1,(List.set t10.2.2.1 (Int.toNat x2) x1),t10.2.2.2.1,t10.2.2.2.2.1,t10.2.2.2.2.2.1,t10.2.2.2.2.2.2.1,t10.2.2.2.2.2.2.2.1,t10.2.2.2.2.2.2.2.2.1,(w64 (t10.2.2.2.2.2.2.2.2.2.1+1)),())) (K t10)
def q111_0:List SP:=pat 91 0 [(1,.one (.int .i64)),(2,.box 5000001 [.r .device,.r .cue,.r .gust,.int .i64]),(5,.one (.o 5000002 .int)),(30,.one (.r .device)),(31,.one (.int .i64)),(32,.one (.int .i64))]
def s111_0(b:T50)(c:T233)(d:T249)(e:T361):Lp (Int×ShD×List Int×List Device×Int×Int×Unit) (List Int×Unit):=λt3 rec K=>
 cond (t3.2.2.2.2.2.1<t3.2.2.2.2.1) (rdL t3.2.2.2.1 t3.2.2.2.2.2.1 λx1=>cond (!(x1.Kind=1)) (rec (t3.1,t3.2.1,t3.2.2.1,t3.2.2.2.1,t3.2.2.2.2.1,(w64 (t3.2.2.2.2.2.1+1)),())) (ZAD (s111_2 b c d e) fuel (t3.1,t3.2.1,t3.2.2.1,x1,([]:List Int),([]:List Int),t3.2.2.2.1,t3.2.2.2.2.1,t3.2.2.2.2.2.1,t3.2.1.1,(Int.ofNat t3.2.1.1.length),0,()) λx2=>(e (x2.2.2.2.1.Most,x2.2.2.2.2.2.1,())).bind λx3=>ZAD (s111_4 b c d e) fuel (x2.1,x2.2.1,x2.2.2.1,x2.2.2.2.2.1,x2.2.2.2.2.2.2.1,x2.2.2.2.2.2.2.2.1,x2.2.2.2.2.2.2.2.2.1,x3.1,(Int.ofNat x3.1.length),0,()) λx4=>rec (x4.1,x4.2.1,x4.2.2.1,x4.2.2.2.2.1,x4.2.2.2.2.2.1,(w64 (x4.2.2.2.2.2.2.1+1)),()))) (K t3)
def F111(b:T50)(c:T233)(d:T249)(e:T361):T329:=λa=>
 (b (a.1,())).bind λx1=>cond (!x1.1) (some (([]:List Int),())) (okIf ((0:Int)<=(Int.ofNat a.1.1.length)) (capK (Int.toNat (Int.ofNat a.1.1.length)) ((c (a.2.1,0,(w64 (a.1.2.2.2.1-1)),())).bind λx2=>cond (!x2.1) (some ((List.replicate (Int.toNat (Int.ofNat a.1.1.length)) (Ty.zero .int)),())) (ZAD (s111_0 b c d e) fuel (a.2.1,a.1,(List.replicate (Int.toNat (Int.ofNat a.1.1.length)) (Ty.zero .int)),a.1.1,(Int.ofNat a.1.1.length),0,()) λx3=>some (x3.2.2.1,())))))
theorem ok111{e g h i} :N50 e->N121 g->N110 h->N210 i->N111 (F111 e g h i):=λa b c d=>fk (ps:=p329) (rs:=r375) (L:=lenv [(0,ZA2 q111_0 (s111_0 e g h i)),(2,ZA2 q111_2 (s111_2 e g h i)),(4,ZA2 q111_4 (s111_4 e g h i))]) (ls:=[(0,ZBB f111 0),(2,ZBB f111 1),(4,ZBB f111 2)]) (oks4 a b c d) func111 (.cons q111_0 (s111_0 e g h i) rfl (λ_ _ _ _=>by kernel_rfl) (.cons q111_2 (s111_2 e g h i) rfl (λ_ _ _ _=>by kernel_rfl) (.cons q111_4 (s111_4 e g h i) rfl (λ_ _ _ _=>by kernel_rfl) .nil)))
def p12:List SP:=[.one (.r .str),.one (.str)]
def r12:List SP:=[.one (.str)]
abbrev T12:=List Str×Str×Unit->Option (Str×Unit)
abbrev N12(f:T12):=OKP 12 (mkE p12 r12 false f)
def F12(b:T40):T12:=λa=>
 (b a).bind λx1=>some (x1.1,())
theorem ok12{b} :N40 b->N12 (F12 b):=λa=>fk0 (.cons a .nil) func12
abbrev N112(f:T254):=OKP 112 (mkE p254 p268 false f)
def F112(b:T12):T254:=λa=>
 cond ((Int.ofNat a.1.length)=0) (some ([110,111,110,101],())) ((b (a.1,[59,32],())).bind λx1=>some (x1.1,()))
theorem ok112{b} :N12 b->N112 (F112 b):=λa=>fk0 (.cons a .nil) func112
def p59:List SP:=[.agg [.r .device,.r .cue,.r .gust,.int .i64]]
def r59:List SP:=[.one (.o 0 .throw)]
abbrev T59:=ShD×Unit->Option (List Throw×Unit)
abbrev N59(f:T59):=OKP 59 (mkE p59 r59 false f)
def q59_2:List SP:=pat 52 0 [(1,.box 5002001 [.r .device,.r .cue,.r .gust,.int .i64]),(3,.one (.o 5002002 .throw)),(4,.one (.int .i64)),(14,.one (.int .i64)),(15,.one (.int .i64)),(20,.one (.o 5002003 .int)),(21,.one (.int .i64)),(22,.one (.int .i64))]
def s59_2(b:T50)(c:T329):Lp (ShD×List Throw×Int×Int×Int×List Int×Int×Int×Unit) (List Throw×Unit):=λt4 rec K=>
 cond (t4.2.2.2.2.2.2.2.1<t4.2.2.2.2.2.2.1) (rdL t4.2.2.2.2.2.1 t4.2.2.2.2.2.2.2.1 λ_=>(t4.2.2.2.2.2.1[(Int.toNat t4.2.2.2.2.2.2.2.1)]?).bind λx1=>cond (x1>0) (rdL t4.1.1 t4.2.2.2.2.2.2.2.1 λx2=>capK (t4.2.1.length+List.length ([(⟨x2.Name,t4.2.2.1,⟨⟨x2.At.X,x2.At.Y⟩,x2.Heading,x2.Tilt,x1⟩⟩:Throw)]:List Throw)) (rec (t4.1,(t4.2.1++([(⟨x2.Name,t4.2.2.1,⟨⟨x2.At.X,x2.At.Y⟩,x2.Heading,x2.Tilt,x1⟩⟩:Throw)]:List Throw)),t4.2.2.1,t4.2.2.2.1,t4.2.2.2.2.1,t4.2.2.2.2.2.1,t4.2.2.2.2.2.2.1,(w64 (t4.2.2.2.2.2.2.2.1+1)),()))) (rec (t4.1,t4.2.1,t4.2.2.1,t4.2.2.2.1,t4.2.2.2.2.1,t4.2.2.2.2.2.1,t4.2.2.2.2.2.2.1,(w64 (t4.2.2.2.2.2.2.2.1+1)),()))) (K t4)
def q59_0:List SP:=pat 52 0 [(1,.box 5000001 [.r .device,.r .cue,.r .gust,.int .i64]),(3,.one (.o 5000002 .throw)),(14,.one (.int .i64)),(15,.one (.int .i64))]
def s59_0(b:T50)(c:T329):Lp (ShD×List Throw×Int×Int×Unit) (List Throw×Unit):=λt2 rec K=>
 cond (t2.2.2.2.1<t2.2.2.1) ((c (t2.1,t2.2.2.2.1,())).bind λx1=>ZAD (s59_2 b c) fuel (t2.1,t2.2.1,t2.2.2.2.1,t2.2.2.1,t2.2.2.2.1,x1.1,(Int.ofNat x1.1.length),0,()) λx2=>rec (x2.1,x2.2.1,x2.2.2.2.1,(w64 (x2.2.2.2.2.1+1)),())) (K t2)
def F59(b:T50)(c:T329):T59:=λa=>
 (b (a.1,())).bind λx1=>cond (!x1.1) (some (([]:List Throw),())) (ZAD (s59_0 b c) fuel (a.1,([]:List Throw),a.1.2.2.2.1,0,()) λx2=>some (x2.2.1,()))
theorem ok59{c d} :N50 c->N111 d->N59 (F59 c d):=λa b=>fk (ps:=p59) (rs:=r59) (L:=lenv [(0,ZA2 q59_0 (s59_0 c d)),(2,ZA2 q59_2 (s59_2 c d))]) (ls:=[(0,ZBB f59 0),(2,ZBB f59 1)]) (oks2 a b) func59 (.cons q59_0 (s59_0 c d) rfl (λ_ _ _ _=>by kernel_rfl) (.cons q59_2 (s59_2 c d) rfl (λ_ _ _ _=>by kernel_rfl) .nil))
def p211:List SP:=[.t .throw]
abbrev T211:=Throw×Unit->Option (Int×Unit)
abbrev N211(f:T211):=OKP 211 (mkE p211 p269 false f)
def F211(b:T311):T211:=λa=>
 (b (a.1.jet,())).bind λx1=>some ((w64 (a.1.born+x1.1)),())
theorem ok211{b} :N126 b->N211 (F211 b):=λa=>fk0 (.cons a .nil) func211
abbrev N300(f:T350):=OKP 300 (mkE p350 r356 false f)
def q300_0:List SP:=pat 50 0 [(0,.one (.r .gust)),(2,.one (.int .i64)),(6,.boxt 5000001 .place),(8,.boxt 5000002 .place),(9,.one (.int .i64))]
def s300_0(b:T232)(c:T325):Lp (List Gust×Int×Place×Place×Int×Unit) (Place×Bool×Unit):=λt2 rec K=>
 cond (t2.2.2.2.2.1<t2.2.1) ((c (t2.1,t2.2.2.2.2.1,())).bind λx1=>rec (t2.1,t2.2.1,t2.2.2.1,(⟨(w64 (t2.2.2.2.1.X+x1.1.X)),(w64 (t2.2.2.2.1.Y+x1.1.Y))⟩:Place),(w64 (t2.2.2.2.2.1+1)),())) (K t2)
def F300(b:T232)(c:T325):T350:=λa=>
 (b (a.1,())).bind λx1=>cond (!(!x1.1)) (cond (!(a.2.1<0)) (cond (!(a.2.2.1<a.2.1)) (cond (a.2.2.1>128) (some ((⟨0,0⟩:Place),false,())) (ZAD (s300_0 b c) fuel (a.1,a.2.2.1,(⟨0,0⟩:Place),(⟨0,0⟩:Place),a.2.1,()) λx2=>some (x2.2.2.2.1,true,()))) (some ((⟨0,0⟩:Place),false,()))) (some ((⟨0,0⟩:Place),false,()))) (some ((⟨0,0⟩:Place),false,()))
theorem ok300{c d} :N120 c->N291 d->N300 (F300 c d):=λa b=>fk1 p350 r356 q300_0 (s300_0 c d) (oks2 a b) func300
abbrev N135(f:T352):=OKP 135 (mkE p351 p269 false f)
def F135(b:T225):T352:=λa=>
 (b a).bind λx1=>cond (!x1.1) (some (0,())) (some ((w64 (a.2.1*(w64 ((w64 (a.1.Lift+1)) -a.2.1)))),()))
theorem ok135{b} :N225 b->N135 (F135 b):=λa=>fk0 (.cons a .nil) func135
def p212:List SP:=[.t .throw,.one (.r .gust),.one (.int .i64)]
abbrev T212:=Throw×List Gust×Int×Unit->Option (Drop×Unit)
abbrev N212(f:T212):=OKP 212 (mkE p212 r310 false f)
def F212(b:T356)(c:T350)(d:T352):T212:=λa=>
 (b (a.1.jet,(w64 (a.2.2.1-a.1.born)),())).bind λx1=>(c (a.2.1,a.1.born,a.2.2.1,())).bind λx2=>(d (a.1.jet,(w64 (a.2.2.1-a.1.born)),())).bind λx3=>some ((⟨a.1.name,a.1.born,⟨(w64 (x1.1.X+x2.1.X)),(w64 (x1.1.Y+x2.1.Y))⟩,x3.1⟩:Drop),())
theorem ok212{d e g} :N217 d->N300 e->N135 g->N212 (F212 d e g):=λa b c=>fk0 (oks3 a b c) func212
abbrev N113(f:T255):=OKP 113 (mkE p329 r238 false f)
def q113_0:List SP:=pat 36 0 [(1,.one (.int .i64)),(2,.box 5000001 [.r .device,.r .cue,.r .gust,.int .i64]),(5,.one (.o 5000002 .drop)),(10,.one (.o 5000003 .throw)),(11,.one (.int .i64)),(12,.one (.int .i64))]
def s113_0(b:T59)(c:T211)(d:T212):Lp (Int×ShD×List Drop×List Throw×Int×Int×Unit) (List Drop×Unit):=λt2 rec K=>
 cond (t2.2.2.2.2.2.1<t2.2.2.2.2.1) (rdL t2.2.2.2.1 t2.2.2.2.2.2.1 λ_=>(t2.2.2.2.1[(Int.toNat t2.2.2.2.2.2.1)]?).bind λx1=>cond (x1.born<=t2.1) ((c (x1,())).bind λx2=>cond (t2.1<x2.1) ((d (x1,t2.2.1.2.2.1,t2.1,())).bind λx3=>capK (t2.2.2.1.length+List.length ([x3.1]:List Drop)) (rec (t2.1,t2.2.1,(t2.2.2.1++([x3.1]:List Drop)),t2.2.2.2.1,t2.2.2.2.2.1,(w64 (t2.2.2.2.2.2.1+1)),()))) (rec (t2.1,t2.2.1,t2.2.2.1,t2.2.2.2.1,t2.2.2.2.2.1,(w64 (t2.2.2.2.2.2.1+1)),()))) (rec (t2.1,t2.2.1,t2.2.2.1,t2.2.2.2.1,t2.2.2.2.2.1,(w64 (t2.2.2.2.2.2.1+1)),()))) (K t2)
def F113(b:T59)(c:T211)(d:T212):T255:=λa=>
 (b (a.1,())).bind λx1=>ZAD (s113_0 b c d) fuel (a.2.1,a.1,([]:List Drop),x1.1,(Int.ofNat x1.1.length),0,()) λx2=>some (x2.2.2.1,())
theorem ok113{d e g} :N59 d->N211 e->N212 g->N113 (F113 d e g):=λa b c=>fk1 p329 r238 q113_0 (s113_0 d e g) (oks3 a b c) func113
abbrev N114(f:T238):=OKP 114 (mkE p139 r238 false f)
def q114_0:List SP:=pat 25 0 [(1,.box 5000001 [.r .device,.r .cue,.r .gust,.int .i64]),(3,.one (.o 5000002 .drop)),(8,.one (.o 5000003 .throw)),(9,.one (.int .i64)),(10,.one (.int .i64))]
def s114_0(b:T59)(c:T211)(d:T212):Lp (ShD×List Drop×List Throw×Int×Int×Unit) (List Drop×Unit):=λt2 rec K=>
 cond (t2.2.2.2.2.1<t2.2.2.2.1) (rdL t2.2.2.1 t2.2.2.2.2.1 λ_=>(t2.2.2.1[(Int.toNat t2.2.2.2.2.1)]?).bind λx1=>(c (x1,())).bind λx2=>(d (x1,t2.1.2.2.1,x2.1,())).bind λx3=>capK (t2.2.1.length+List.length ([x3.1]:List Drop)) (rec (t2.1,(t2.2.1++([x3.1]:List Drop)),t2.2.2.1,t2.2.2.2.1,(w64 (t2.2.2.2.2.1+1)),()))) (K t2)
def F114(b:T59)(c:T211)(d:T212):T238:=λa=>
 (b (a.1,())).bind λx1=>ZAD (s114_0 b c d) fuel (a.1,([]:List Drop),x1.1,(Int.ofNat x1.1.length),0,()) λx2=>some (x2.2.1,())
theorem ok114{d e g} :N59 d->N211 e->N212 g->N114 (F114 d e g):=λa b c=>fk1 p139 r238 q114_0 (s114_0 d e g) (oks3 a b c) func114
abbrev N115(f:T256):=OKP 115 (mkE p329 p269 false f)
def q115_0:List SP:=pat 23 0 [(1,.one (.int .i64)),(5,.one (.int .i64)),(9,.one (.o 5000001 .throw)),(10,.one (.int .i64)),(11,.one (.int .i64))]
def s115_0(b:T59):Lp (Int×Int×List Throw×Int×Int×Unit) (Int×Unit):=λt2 rec K=>
 cond (t2.2.2.2.2.1<t2.2.2.2.1) (rdL t2.2.2.1 t2.2.2.2.2.1 λ_=>(t2.2.2.1[(Int.toNat t2.2.2.2.2.1)]?).bind λx1=>cond (x1.born<=t2.1) (rec (t2.1,(w64 (t2.2.1+1)),t2.2.2.1,t2.2.2.2.1,(w64 (t2.2.2.2.2.1+1)),())) (rec (t2.1,t2.2.1,t2.2.2.1,t2.2.2.2.1,(w64 (t2.2.2.2.2.1+1)),()))) (K t2)
def F115(b:T59):T256:=λa=>
 (b (a.1,())).bind λx1=>ZAD (s115_0 b) fuel (a.2.1,0,x1.1,(Int.ofNat x1.1.length),0,()) λx2=>some (x2.2.1,())
theorem ok115{b} :N59 b->N115 (F115 b):=λa=>fk1 p329 p269 q115_0 (s115_0 b) (.cons a .nil) func115
abbrev N116(f:T256):=OKP 116 (mkE p329 p269 false f)
def q116_0:List SP:=pat 23 0 [(1,.one (.int .i64)),(5,.one (.int .i64)),(9,.one (.o 5000001 .throw)),(10,.one (.int .i64)),(11,.one (.int .i64))]
def s116_0(b:T59)(c:T211):Lp (Int×Int×List Throw×Int×Int×Unit) (Int×Unit):=λt2 rec K=>
 cond (t2.2.2.2.2.1<t2.2.2.2.1) (rdL t2.2.2.1 t2.2.2.2.2.1 λ_=>(t2.2.2.1[(Int.toNat t2.2.2.2.2.1)]?).bind λx1=>(c (x1,())).bind λx2=>cond (x2.1<=t2.1) (rec (t2.1,(w64 (t2.2.1+1)),t2.2.2.1,t2.2.2.2.1,(w64 (t2.2.2.2.2.1+1)),())) (rec (t2.1,t2.2.1,t2.2.2.1,t2.2.2.2.1,(w64 (t2.2.2.2.2.1+1)),()))) (K t2)
def F116(b:T59)(c:T211):T256:=λa=>
 (b (a.1,())).bind λx1=>ZAD (s116_0 b c) fuel (a.2.1,0,x1.1,(Int.ofNat x1.1.length),0,()) λx2=>some (x2.2.1,())
theorem ok116{c d} :N59 c->N211 d->N116 (F116 c d):=λa b=>fk1 p329 p269 q116_0 (s116_0 c d) (oks2 a b) func116
abbrev N60(f:T312):=OKP 60 (mkE p331 p358 false f)
def F60(b:T311)(c:T352):T312:=λa=>
 (b (a.1,())).bind λx1=>(c (a.1,(w64 (Int.tdiv x1.1 2)),())).bind λx2=>some ((w64 (Int.tdiv x1.1 2)),x2.1,())
theorem ok60{c d} :N126 c->N135 d->N60 (F60 c d):=λa b=>fk0 (oks2 a b) func60
def p22:List SP:=[.agg [.r .device,.r .cue,.r .gust,.int .i64]]
def r22:List SP:=[.one (.int .i64)]
abbrev T22:=ShD×Unit->Option (Int×Unit)
abbrev N22(f:T22):=OKP 22 (mkE p22 r22 false f)
def q22_0:List SP:=pat 26 0 [(3,.one (.int .i64)),(9,.one (.o 5000001 .throw)),(10,.one (.int .i64)),(11,.one (.int .i64))]
def s22_0(b:T59)(c:T312):Lp (Int×List Throw×Int×Int×Unit) (Int×Unit):=λt2 rec K=>
 cond (t2.2.2.2.1<t2.2.2.1) (rdL t2.2.1 t2.2.2.2.1 λ_=>(t2.2.1[(Int.toNat t2.2.2.2.1)]?).bind λx1=>(c (x1.jet,())).bind λx2=>rec ((mx t2.1 x2.2.1),t2.2.1,t2.2.2.1,(w64 (t2.2.2.2.1+1)),())) (K t2)
def F22(b:T59)(c:T312):T22:=λa=>
 (b (a.1,())).bind λx1=>ZAD (s22_0 b c) fuel (0,x1.1,(Int.ofNat x1.1.length),0,()) λx2=>some (x2.1,())
theorem ok22{c d} :N59 c->N60 d->N22 (F22 c d):=λa b=>fk1 p22 r22 q22_0 (s22_0 c d) (oks2 a b) func22
abbrev N127(f:T315):=OKP 127 (mkE p357 p181 false f)
def q127_0:List SP:=pat 40 0 [(1,.one (.int .i64)),(4,.boxt 5000001 .place),(5,.boxt 5000002 .place),(20,.one (.r .place)),(21,.one (.int .i64)),(22,.one (.int .i64))]
def s127_0(b:T51)(c:T269)(d:T355):Lp (Int×Place×Place×List Place×Int×Int×Unit) (Place×Unit):=λt4 rec K=>
 cond (t4.2.2.2.2.2.1<t4.2.2.2.2.1) (rdL t4.2.2.2.1 t4.2.2.2.2.2.1 λx1=>(d (x1,(w64 (0-t4.1)),())).bind λx2=>(d (t4.2.2.1,(w64 (0-t4.1)),())).bind λx3=>cond (x2.1.X>x3.1.X) (rec (t4.1,t4.2.1,x1,t4.2.2.2.1,t4.2.2.2.2.1,(w64 (t4.2.2.2.2.2.1+1)),())) (rec (t4.1,t4.2.1,t4.2.2.1,t4.2.2.2.1,t4.2.2.2.2.1,(w64 (t4.2.2.2.2.2.1+1)),()))) (K t4)
def F127(b:T51)(c:T269)(d:T355):T315:=λa=>
 (b (a.1,())).bind λx1=>cond (!(!x1.1)) ((c (a.2.1,())).bind λx2=>cond (!x2.1) (some ((⟨0,0⟩:Place),())) (rdL a.1 0 λx3=>ZAD (s127_0 b c d) fuel (a.2.1,(⟨0,0⟩:Place),x3,a.1,(Int.ofNat a.1.length),0,()) λx4=>some (x4.2.2.1,()))) (some ((⟨0,0⟩:Place),()))
theorem ok127{d e g} :N51 d->N219 e->N220 g->N127 (F127 d e g):=λa b c=>fk1 p357 p181 q127_0 (s127_0 d e g) (oks3 a b c) func127
abbrev N128(f:T353):=OKP 128 (mkE p353 r268 false f)
def F128:T353:=λa=>
 cond (a.2.2.1=0) (some ((decide (a.1.X>a.2.1.High.X)),())) (cond (a.2.2.1=1) (some ((decide (a.1.Y>a.2.1.High.Y)),())) (cond (a.2.2.1=2) (some ((decide (a.1.X<a.2.1.Low.X)),())) (some ((decide (a.1.Y<a.2.1.Low.Y)),()))))
theorem ok128:N128 (F128):=fk0 .nil func128
def p53:List SP:=[.agg [.r .device,.r .cue,.r .gust,.int .i64],.one (.r .place),.t .box]
def r53:List SP:=[.t .throw,.t .place,.t .place,.one (.bool)]
abbrev T53:=ShD×List Place×Box×Unit->Option (Throw×Place×Place×Bool×Unit)
abbrev N53(f:T53):=OKP 53 (mkE p53 r53 false f)
def q53_2:List SP:=pat 78 0 [(1,.one (.r .place)),(5,.boxt 5002001 .box),(6,.boxt 5002002 .throw),(7,.boxt 5002003 .place),(8,.boxt 5002004 .place),(11,.boxt 5002005 .throw),(12,.boxt 5002006 .place),(14,.one (.int .i64)),(30,.one (.o 5002007 .throw)),(31,.one (.int .i64)),(32,.one (.int .i64)),(45,.one (.int .i64))]
def s53_2(b:T51)(c:T52)(d:T59)(e:T316)(g:T311)(h:T315)(i:T353):Lp (List Place×Box×Throw×Place×Place×Throw×Place×Int×List Throw×Int×Int×Int×Unit) (Throw×Place×Place×Bool×Unit):=λt8 rec K=>
 cond (t8.2.2.2.2.2.2.2.2.2.2.2.1<4) ((h (t8.1,t8.2.2.2.2.2.2.2.2.2.2.2.1,())).bind λx1=>(i ((⟨(w64 (t8.2.2.2.2.2.2.1.X+(w64 (t8.2.2.2.2.2.2.2.1*x1.1.X)))),(w64 (t8.2.2.2.2.2.2.1.Y+(w64 (t8.2.2.2.2.2.2.2.1*x1.1.Y))))⟩:Place),t8.2.1,t8.2.2.2.2.2.2.2.2.2.2.2.1,())).bind λx2=>cond x2.1 (some (t8.2.2.2.2.2.1,(⟨(w64 (t8.2.2.2.2.2.2.1.X+(w64 (t8.2.2.2.2.2.2.2.1*x1.1.X)))),(w64 (t8.2.2.2.2.2.2.1.Y+(w64 (t8.2.2.2.2.2.2.2.1*x1.1.Y))))⟩:Place),x1.1,true,())) (rec (t8.1,t8.2.1,t8.2.2.1,t8.2.2.2.1,t8.2.2.2.2.1,t8.2.2.2.2.2.1,t8.2.2.2.2.2.2.1,t8.2.2.2.2.2.2.2.1,t8.2.2.2.2.2.2.2.2.1,t8.2.2.2.2.2.2.2.2.2.1,t8.2.2.2.2.2.2.2.2.2.2.1,(w64 (t8.2.2.2.2.2.2.2.2.2.2.2.1+1)),()))) (K t8)
def q53_0:List SP:=pat 78 0 [(1,.one (.r .place)),(5,.boxt 5000001 .box),(6,.boxt 5000002 .throw),(7,.boxt 5000003 .place),(8,.boxt 5000004 .place),(30,.one (.o 5000005 .throw)),(31,.one (.int .i64)),(32,.one (.int .i64))]
def s53_0(b:T51)(c:T52)(d:T59)(e:T316)(g:T311)(h:T315)(i:T353):Lp (List Place×Box×Throw×Place×Place×List Throw×Int×Int×Unit) (Throw×Place×Place×Bool×Unit):=λt4 rec K=>
 cond (t4.2.2.2.2.2.2.2.1<t4.2.2.2.2.2.2.1) (rdL t4.2.2.2.2.2.1 t4.2.2.2.2.2.2.2.1 λ_=>(t4.2.2.2.2.2.1[(Int.toNat t4.2.2.2.2.2.2.2.1)]?).bind λx1=>(e (x1.jet,())).bind λx2=>(g (x1.jet,())).bind λx3=>ZAD (s53_2 b c d e g h i) fuel (t4.1,t4.2.1,t4.2.2.1,t4.2.2.2.1,t4.2.2.2.2.1,x1,x2.1,x3.1,t4.2.2.2.2.2.1,t4.2.2.2.2.2.2.1,t4.2.2.2.2.2.2.2.1,0,()) λx4=>rec (x4.1,x4.2.1,x4.2.2.1,x4.2.2.2.1,x4.2.2.2.2.1,x4.2.2.2.2.2.2.2.2.1,x4.2.2.2.2.2.2.2.2.2.1,(w64 (x4.2.2.2.2.2.2.2.2.2.2.1+1)),())) (K t4)
def F53(b:T51)(c:T52)(d:T59)(e:T316)(g:T311)(h:T315)(i:T353):T53:=λa=>
 (b (a.2.1,())).bind λx1=>cond (!(!x1.1)) ((c (a.2.2.1,())).bind λx2=>cond (!x2.1) (some ((⟨[],0,⟨⟨0,0⟩,0,0,0⟩⟩:Throw),(⟨0,0⟩:Place),(⟨0,0⟩:Place),false,())) ((d (a.1,())).bind λx3=>ZAD (s53_0 b c d e g h i) fuel (a.2.1,a.2.2.1,(⟨[],0,⟨⟨0,0⟩,0,0,0⟩⟩:Throw),(⟨0,0⟩:Place),(⟨0,0⟩:Place),x3.1,(Int.ofNat x3.1.length),0,()) λx4=>some ((⟨[],0,⟨⟨0,0⟩,0,0,0⟩⟩:Throw),(⟨0,0⟩:Place),(⟨0,0⟩:Place),false,()))) (some ((⟨[],0,⟨⟨0,0⟩,0,0,0⟩⟩:Throw),(⟨0,0⟩:Place),(⟨0,0⟩:Place),false,()))
theorem ok53{h j k l m o p} :N51 h->N52 j->N59 k->N125 l->N126 m->N127 o->N128 p->N53 (F53 h j k l m o p):=λa b c d e g i=>fka (ann:=λn=>Nat.beq n 2499999 || Nat.beq n 7402002 || Nat.beq n 7402003) (ps:=p53) (rs:=r53) (L:=lenv [(0,ZA2 q53_0 (s53_0 h j k l m o p)),(2,ZA2 q53_2 (s53_2 h j k l m o p))]) (ls:=[(0,ZBB f53 0),(2,ZBB f53 1)]) (oks7 a b c d e g i) func53 (.cons q53_0 (s53_0 h j k l m o p) rfl (λ_ _ _ _=>by kernel_rfl) (.cons q53_2 (s53_2 h j k l m o p) rfl (λ_ _ _ _=>by kernel_rfl) .nil))
def p19:List SP:=[.agg [.r .device,.r .cue,.r .gust,.int .i64],.one (.r .place),.t .box]
def r19:List SP:=[.one (.str)]
abbrev T19:=ShD×List Place×Box×Unit->Option (Str×Unit)
abbrev N19(f:T19):=OKP 19 (mkE p19 r19 false f)
def F19(b:T50)(c:T51)(d:T52)(e:T53)(g:T54)(h:T55):T19:=λa=>
 (b (a.1,())).bind λx1=>cond (!(!x1.1)) ((c (a.2.1,())).bind λx2=>cond (!(!x2.1)) ((d (a.2.2.1,())).bind λx3=>cond (!x3.1) (some ([110,111,116,104,105,110,103,32,116,111,32,115,97,121],())) ((e a).bind λx4=>cond (!x4.2.2.2.1) (some ([115,97,102,101],())) (capK (List.length [119,101,116,58,32]+List.length x4.1.name) (capK (List.length ([119,101,116,58,32]++x4.1.name)+List.length [32,97,116,32]) ((g (x4.1.born,())).bind λx5=>capK (List.length (([119,101,116,58,32]++x4.1.name)++[32,97,116,32])+x5.1.length) (capK (List.length ((([119,101,116,58,32]++x4.1.name)++[32,97,116,32])++x5.1)+List.length [32,108,97,110,100,115,32,97,116,32]) ((h (x4.2.1,())).bind λx6=>capK (List.length (((([119,101,116,58,32]++x4.1.name)++[32,97,116,32])++x5.1)++[32,108,97,110,100,115,32,97,116,32])+x6.1.length) (capK (List.length ((((([119,101,116,58,32]++x4.1.name)++[32,97,116,32])++x5.1)++[32,108,97,110,100,115,32,97,116,32])++x6.1)+List.length [32,105,110,32]) ((h (x4.2.2.1,())).bind λx7=>capK (List.length (((((([119,101,116,58,32]++x4.1.name)++[32,97,116,32])++x5.1)++[32,108,97,110,100,115,32,97,116,32])++x6.1)++[32,105,110,32])+x7.1.length) (some (((((((([119,101,116,58,32]++x4.1.name)++[32,97,116,32])++x5.1)++[32,108,97,110,100,115,32,97,116,32])++x6.1)++[32,105,110,32])++x7.1),()))))))))))) (some ([110,111,116,104,105,110,103,32,116,111,32,115,97,121],()))) (some ([110,111,116,104,105,110,103,32,116,111,32,115,97,121],()))
theorem ok19{h i j k l m} :N50 h->N51 i->N52 j->N53 k->N54 l->N55 m->N19 (F19 h i j k l m):=λa b c d e g=>fk0 (oks6 a b c d e g) func19
abbrev N117(f:T241):=OKP 117 (mkE p241 r319 false f)
def q117_0:List SP:=pat 42 0 [(1,.one (.r .place)),(4,.boxt 5000001 .box),(6,.one (.o 5000002 .place)),(17,.one (.o 5000003 .throw)),(18,.one (.int .i64)),(19,.one (.int .i64))]
def s117_0(b:T51)(c:T59)(d:T318)(e:T319):Lp (List Place×Box×List Place×List Throw×Int×Int×Unit) (Box×Bool×Unit):=λt3 rec K=>
 cond (t3.2.2.2.2.2.1<t3.2.2.2.2.1) (rdL t3.2.2.2.1 t3.2.2.2.2.2.1 λ_=>(t3.2.2.2.1[(Int.toNat t3.2.2.2.2.2.1)]?).bind λx1=>(d (x1.jet,t3.1,())).bind λx2=>capK (t3.2.2.1.length+List.length ([x2.1.Low,x2.1.High]:List Place)) (rec (t3.1,t3.2.1,(t3.2.2.1++([x2.1.Low,x2.1.High]:List Place)),t3.2.2.2.1,t3.2.2.2.2.1,(w64 (t3.2.2.2.2.2.1+1)),()))) (K t3)
def F117(b:T51)(c:T59)(d:T318)(e:T319):T241:=λa=>
 (b (a.2.1,())).bind λx1=>cond (!x1.1) (some ((⟨⟨0,0⟩,⟨0,0⟩⟩:Box),false,())) ((c (a.1,())).bind λx2=>ZAD (s117_0 b c d e) fuel (a.2.1,(⟨⟨0,0⟩,⟨0,0⟩⟩:Box),([]:List Place),x2.1,(Int.ofNat x2.1.length),0,()) λx3=>(e (x3.2.2.1,())).bind λx4=>some x4)
theorem ok117{e g h i} :N51 e->N59 g->N213 h->N214 i->N117 (F117 e g h i):=λa b c d=>fk1 p241 r319 q117_0 (s117_0 e g h i) (oks4 a b c d) func117
def p56:List SP:=[.agg [.r .device,.r .cue,.r .gust,.int .i64],.t .box]
def r56:List SP:=[.one (.o 0 .drop)]
abbrev T56:=ShD×Box×Unit->Option (List Drop×Unit)
abbrev N56(f:T56):=OKP 56 (mkE p56 r56 false f)
def q56_0:List SP:=pat 31 0 [(3,.boxt 5000001 .box),(5,.one (.o 5000002 .drop)),(14,.one (.o 5000003 .drop)),(15,.one (.int .i64)),(16,.one (.int .i64))]
def s56_0(b:T52)(c:T238)(d:T320):Lp (Box×List Drop×List Drop×Int×Int×Unit) (List Drop×Unit):=λt3 rec K=>
 cond (t3.2.2.2.2.1<t3.2.2.2.1) (rdL t3.2.2.1 t3.2.2.2.2.1 λ_=>(t3.2.2.1[(Int.toNat t3.2.2.2.2.1)]?).bind λx1=>(d (t3.1,x1.At,())).bind λx2=>cond (!x2.1) (capK (t3.2.1.length+List.length ([x1]:List Drop)) (rec (t3.1,(t3.2.1++([x1]:List Drop)),t3.2.2.1,t3.2.2.2.1,(w64 (t3.2.2.2.2.1+1)),()))) (rec (t3.1,t3.2.1,t3.2.2.1,t3.2.2.2.1,(w64 (t3.2.2.2.2.1+1)),()))) (K t3)
def F56(b:T52)(c:T238)(d:T320):T56:=λa=>
 (b (a.2.1,())).bind λx1=>cond (!x1.1) (some (([]:List Drop),())) ((c (a.1,())).bind λx2=>ZAD (s56_0 b c d) fuel (a.2.1,([]:List Drop),x2.1,(Int.ofNat x2.1.length),0,()) λx3=>some (x3.2.1,()))
theorem ok56{d e g} :N52 d->N114 e->N130 g->N56 (F56 d e g):=λa b c=>fk1 p56 r56 q56_0 (s56_0 d e g) (oks3 a b c) func56
def p20:List SP:=[.agg [.r .device,.r .cue,.r .gust,.int .i64],.t .box]
def r20:List SP:=[.one (.bool)]
abbrev T20:=ShD×Box×Unit->Option (Bool×Unit)
abbrev N20(f:T20):=OKP 20 (mkE p20 r20 false f)
def F20(b:T50)(c:T52)(d:T56):T20:=λa=>
 (b (a.1,())).bind λx1=>cond x1.1 ((c (a.2.1,())).bind λx2=>cond x2.1 ((d a).bind λx3=>some ((decide ((Int.ofNat x3.1.length)=0)),())) (some (false,()))) (some (false,()))
theorem ok20{d e g} :N50 d->N52 e->N56 g->N20 (F20 d e g):=λa b c=>fk0 (oks3 a b c) func20
def p49:List SP:=[.agg [.r .device,.r .cue,.r .gust,.int .i64,.r .place,.int .i64,.int .i64,.int .i64,.int .i64],.agg [.str,.str,.int .i64,.r .place]]
def r49:List SP:=[.one (.str)]
abbrev T49:=DkD×(Str×Str×Int×List Place×Unit)×Unit->Option (Str×Unit)
abbrev N49(f:T49):=OKP 49 (mkE p49 r49 false f)
def q49_1:List SP:=pat 171 0 [(5,.box 5001001 [.r .device,.r .cue,.r .gust,.int .i64]),(6,.one (.o 5001002 .str)),(35,.one (.o 5001003 .int)),(36,.one (.int .i64)),(37,.one (.int .i64))]
def s49_1(b:T249)(c:T21)(d:T329)(e:T254)(g:T255)(h:T54)(i:T55)(j:T238)(k:T256)(l:T256)(m:T22)(n:T19)(o:T241)(p:T20):Lp (ShD×List Str×List Int×Int×Int×Unit) (Str×Unit):=λt4 rec K=>
 cond (t4.2.2.2.2.1<t4.2.2.2.1) (rdL t4.2.2.1 t4.2.2.2.2.1 λ_=>(t4.2.2.1[(Int.toNat t4.2.2.2.2.1)]?).bind λx1=>cond (!(x1=0)) (rdL t4.1.1 t4.2.2.2.2.1 λx2=>capK (List.length x2.Name+List.length [32]) ((c (x1,())).bind λx3=>capK (List.length (x2.Name++[32])+x3.1.length) (capK (t4.2.1.length+List.length ([((x2.Name++[32])++x3.1)]:List Str)) (rec (t4.1,(t4.2.1++([((x2.Name++[32])++x3.1)]:List Str)),t4.2.2.1,t4.2.2.2.1,(w64 (t4.2.2.2.2.1+1)),()))))) (rec (t4.1,t4.2.1,t4.2.2.1,t4.2.2.2.1,(w64 (t4.2.2.2.2.1+1)),()))) (K t4)
def q49_3:List SP:=pat 171 0 [(6,.one (.o 5003001 .str)),(65,.one (.o 5003002 .drop)),(66,.one (.int .i64)),(67,.one (.int .i64))]
def s49_3(b:T249)(c:T21)(d:T329)(e:T254)(g:T255)(h:T54)(i:T55)(j:T238)(k:T256)(l:T256)(m:T22)(n:T19)(o:T241)(p:T20):Lp (List Str×List Drop×Int×Int×Unit) (Str×Unit):=λt11 rec K=>
 cond (t11.2.2.2.1<t11.2.2.1) (rdL t11.2.1 t11.2.2.2.1 λ_=>(t11.2.1[(Int.toNat t11.2.2.2.1)]?).bind λx1=>capK (List.length x1.From+List.length [32]) ((h (x1.Born,())).bind λx2=>capK (List.length (x1.From++[32])+x2.1.length) (capK (List.length ((x1.From++[32])++x2.1)+List.length [32]) ((i (x1.At,())).bind λx3=>capK (List.length (((x1.From++[32])++x2.1)++[32])+x3.1.length) (capK (List.length ((((x1.From++[32])++x2.1)++[32])++x3.1)+List.length [32]) ((c (x1.Height,())).bind λx4=>capK (List.length (((((x1.From++[32])++x2.1)++[32])++x3.1)++[32])+x4.1.length) (capK (t11.1.length+List.length ([((((((x1.From++[32])++x2.1)++[32])++x3.1)++[32])++x4.1)]:List Str)) (rec ((t11.1++([((((((x1.From++[32])++x2.1)++[32])++x3.1)++[32])++x4.1)]:List Str)),t11.2.1,t11.2.2.1,(w64 (t11.2.2.2.1+1)),()))))))))) (K t11)
def q49_5:List SP:=pat 171 0 [(6,.one (.o 5005001 .str)),(97,.one (.o 5005002 .drop)),(98,.one (.int .i64)),(99,.one (.int .i64))]
def s49_5(b:T249)(c:T21)(d:T329)(e:T254)(g:T255)(h:T54)(i:T55)(j:T238)(k:T256)(l:T256)(m:T22)(n:T19)(o:T241)(p:T20):Lp (List Str×List Drop×Int×Int×Unit) (Str×Unit):=λt19 rec K=>
 cond (t19.2.2.2.1<t19.2.2.1) (rdL t19.2.1 t19.2.2.2.1 λ_=>(t19.2.1[(Int.toNat t19.2.2.2.1)]?).bind λx1=>capK (List.length x1.From+List.length [32]) ((h (x1.Born,())).bind λx2=>capK (List.length (x1.From++[32])+x2.1.length) (capK (List.length ((x1.From++[32])++x2.1)+List.length [32]) ((i (x1.At,())).bind λx3=>capK (List.length (((x1.From++[32])++x2.1)++[32])+x3.1.length) (capK (t19.1.length+List.length ([((((x1.From++[32])++x2.1)++[32])++x3.1)]:List Str)) (rec ((t19.1++([((((x1.From++[32])++x2.1)++[32])++x3.1)]:List Str)),t19.2.1,t19.2.2.1,(w64 (t19.2.2.2.1+1)),()))))))) (K t19)
def F49(b:T249)(c:T21)(d:T329)(e:T254)(g:T255)(h:T54)(i:T55)(j:T238)(k:T256)(l:T256)(m:T22)(n:T19)(o:T241)(p:T20):T49:=λa=>
 cond (a.2.1.1=[108,101,118,101,108]) ((b (a.1.2.1,a.2.1.2.1,a.2.1.2.2.1,())).bind λx1=>(c (x1.1,())).bind λx2=>some (x2.1,())) (cond (a.2.1.1=[108,105,102,116,115]) ((d ((a.1.1,a.1.2.1,a.1.2.2.1,a.1.2.2.2.1,()),a.2.1.2.2.1,())).bind λx1=>ZAD (s49_1 b c d e g h i j k l m n o p) fuel ((a.1.1,a.1.2.1,a.1.2.2.1,a.1.2.2.2.1,()),([]:List Str),x1.1,(Int.ofNat x1.1.length),0,()) λx2=>(e (x2.2.1,())).bind λx3=>some (x3.1,())) (cond (a.2.1.1=[100,114,111,112,115]) ((g ((a.1.1,a.1.2.1,a.1.2.2.1,a.1.2.2.2.1,()),a.2.1.2.2.1,())).bind λx1=>ZAD (s49_3 b c d e g h i j k l m n o p) fuel (([]:List Str),x1.1,(Int.ofNat x1.1.length),0,()) λx2=>(e (x2.1,())).bind λx3=>some (x3.1,())) (cond (a.2.1.1=[108,97,110,100,105,110,103,115]) ((j ((a.1.1,a.1.2.1,a.1.2.2.1,a.1.2.2.2.1,()),())).bind λx1=>ZAD (s49_5 b c d e g h i j k l m n o p) fuel (([]:List Str),x1.1,(Int.ofNat x1.1.length),0,()) λx2=>(e (x2.1,())).bind λx3=>some (x3.1,())) (cond (a.2.1.1=[99,111,117,110,116]) ((k ((a.1.1,a.1.2.1,a.1.2.2.1,a.1.2.2.2.1,()),a.2.1.2.2.1,())).bind λx1=>(h (x1.1,())).bind λx2=>capK (x2.1.length+List.length [32]) ((l ((a.1.1,a.1.2.1,a.1.2.2.1,a.1.2.2.2.1,()),a.2.1.2.2.1,())).bind λx3=>(h (x3.1,())).bind λx4=>capK (List.length (x2.1++[32])+x4.1.length) (some (((x2.1++[32])++x4.1),())))) (cond (a.2.1.1=[104,105,103,104]) ((m ((a.1.1,a.1.2.1,a.1.2.2.1,a.1.2.2.2.1,()),())).bind λx1=>(c (x1.1,())).bind λx2=>some (x2.1,())) (cond (a.2.1.1=[115,97,102,101]) ((n ((a.1.1,a.1.2.1,a.1.2.2.1,a.1.2.2.2.1,()),a.1.2.2.2.2.1,(⟨⟨a.1.2.2.2.2.2.1,a.1.2.2.2.2.2.2.1⟩,⟨a.1.2.2.2.2.2.2.2.1,a.1.2.2.2.2.2.2.2.2.1⟩⟩:Box),())).bind λx1=>some (x1.1,())) (cond (a.2.1.1=[108,101,97,115,116]) ((o ((a.1.1,a.1.2.1,a.1.2.2.1,a.1.2.2.2.1,()),a.1.2.2.2.2.1,())).bind λx1=>cond (!x1.2.1) (some ([110,111,110,101],())) ((i (x1.1.Low,())).bind λx2=>capK (x2.1.length+List.length [32]) ((i (x1.1.High,())).bind λx3=>capK (List.length (x2.1++[32])+x3.1.length) (some (((x2.1++[32])++x3.1),()))))) ((p ((a.1.1,a.1.2.1,a.1.2.2.1,a.1.2.2.2.1,()),(⟨⟨a.1.2.2.2.2.2.1,a.1.2.2.2.2.2.2.1⟩,⟨a.1.2.2.2.2.2.2.2.1,a.1.2.2.2.2.2.2.2.2.1⟩⟩:Box),())).bind λx1=>cond x1.1 (some ([121,101,115],())) (some ([110,111],()))))))))))
theorem ok49{h n p q r s w y z A B C D E} :N110 h->N21 n->N111 p->N112 q->N113 r->N54 s->N55 w->N114 y->N115 z->N116 A->N22 B->N19 C->N117 D->N20 E->N49 (F49 h n p q r s w y z A B C D E):=λa b c d e g i j k l m o u v=>fk (ps:=p49) (rs:=r49) (L:=lenv [(1,ZA2 q49_1 (s49_1 h n p q r s w y z A B C D E)),(3,ZA2 q49_3 (s49_3 h n p q r s w y z A B C D E)),(5,ZA2 q49_5 (s49_5 h n p q r s w y z A B C D E))]) (ls:=[(1,ZBB f49 0),(3,ZBB f49 1),(5,ZBB f49 2)]) (ZUv a b c d e g i j k l m o u v) func49 (.cons q49_1 (s49_1 h n p q r s w y z A B C D E) rfl (λ_ _ _ _=>by kernel_rfl) (.cons q49_3 (s49_3 h n p q r s w y z A B C D E) rfl (λ_ _ _ _=>by kernel_rfl) (.cons q49_5 (s49_5 h n p q r s w y z A B C D E) rfl (λ_ _ _ _=>by kernel_rfl) .nil)))
def p18:List SP:=[.agg [.r .device,.r .cue,.r .gust,.int .i64,.r .place,.int .i64,.int .i64,.int .i64,.int .i64],.one (.str)]
def r18:List SP:=[.agg [.o 0 .device,.o 1 .cue,.o 2 .gust,.int .i64,.o 3 .place,.int .i64,.int .i64,.int .i64,.int .i64],.one (.str)]
abbrev T18:=DkD×Str×Unit->Option (DkD×Str×Unit)
abbrev N18(f:T18):=OKP 18 (mkE p18 r18 false f)
def F18(b:T25)(c:T46)(d:T47)(e:T48)(g:T49):T18:=λa=>
 (b (a.1,())).bind λx1=>cond (!(!x1.1)) (cond (!(a.2.1=[])) (rdL a.2.1 0 λx2=>cond ((Int.ofNat (UInt8.toNat x2))=35) ((c (a.1,())).bind λx3=>some (x3.1,[],())) ((d (a.2.1,())).bind λx3=>cond (!x3.2.1) ((c (a.1,())).bind λx4=>some (x4.1,[119,104,97,116],())) (cond (x3.1.1=[114,111,115,101]) ((e.2 (a.1,x3.1,())).bind λx4=>cond (!x4.2.2.2.1) ((c (a.1,())).bind λx5=>(g (a.1,(x3.1.1,x3.1.2.1,x3.1.2.2.1,x4.1,()),())).bind λx6=>some (x5.1,x6.1,())) (cond (!x4.2.2.1) ((c (a.1,())).bind λx5=>some (x5.1,[110,111],())) (some ((x4.2.1.1,x4.2.1.2.1,x4.2.1.2.2.1,x4.2.1.2.2.2.1,x4.1,x4.2.1.2.2.2.2.2.1,x4.2.1.2.2.2.2.2.2.1,x4.2.1.2.2.2.2.2.2.2.1,x4.2.1.2.2.2.2.2.2.2.2.1,()),[111,107],())))) ((e.1 (a.1,x3.1,())).bind λx4=>cond (!x4.2.2.2.1) ((c (a.1,())).bind λx5=>(g (a.1,(x3.1.1,x3.1.2.1,x3.1.2.2.1,x4.1,()),())).bind λx6=>some (x5.1,x6.1,())) (cond (!x4.2.2.1) ((c (a.1,())).bind λx5=>some (x5.1,[110,111],())) (some (x4.2.1,[111,107],()))))))) ((c (a.1,())).bind λx2=>some (x2.1,[],()))) ((c (a.1,())).bind λx2=>some (x2.1,[],()))
theorem ok18{g h i j k} :N25 g->N46 h->N47 i->OKP 48 (N48 j)->N49 k->N18 (F18 g h i j k):=λa b c d e=>fk0 (oks5 a b c d e) func18
end Ev
end
noncomputable section
namespace Ev
open Go
def Zat:ZBW prog tab:=ZIl (by kernel_rfl) (by kernel_rfl)
abbrev N196(f:T321):=OKP 196 (mkE p265 r41 false f)
def q196_0:List SP:=pat 34 0 [(1,.one (.str)),(5,.one (.o 5000001 .str)),(17,.one (.r .device)),(18,.one (.int .i64)),(19,.one (.int .i64))]
def s196_0(b:T230):Lp (Str×List Str×List Device×Int×Int×Unit) (List Str×Unit):=λt2 rec K=>
 cond (t2.2.2.2.2.1<t2.2.2.2.1) (rdL t2.2.2.1 t2.2.2.2.2.1 λx1=>cond (x1.Line=t2.1) (capK (t2.2.1.length+List.length ([x1.Name]:List Str)) (rec (t2.1,(t2.2.1++([x1.Name]:List Str)),t2.2.2.1,t2.2.2.2.1,(w64 (t2.2.2.2.2.1+1)),()))) (rec (t2.1,t2.2.1,t2.2.2.1,t2.2.2.2.1,(w64 (t2.2.2.2.2.1+1)),()))) (K t2)
def F196(b:T230):T321:=λa=>
 (b (a.1,())).bind λx1=>cond (!(!x1.1)) (cond (a.2.1=[]) (some (([]:List Str),())) (ZAD (s196_0 b) fuel (a.2.1,([]:List Str),a.1,(Int.ofNat a.1.length),0,()) λx2=>some (x2.2.1,()))) (some (([]:List Str),()))
theorem ok196{b} :N118 b->N196 (F196 b):=λa=>fk1 p265 r41 q196_0 (s196_0 b) (.cons a .nil) func196
end Ev
end
noncomputable section
namespace Ev
open Go
abbrev G184:=F184
theorem okG184:N184 G184:=ok184
abbrev G185:=F185
theorem okG185:N185 G185:=ok185
abbrev G121:=F121
theorem okG121:N121 G121:=ok121
abbrev G280:=F280 G121
theorem okG280:N280 G280:=ok280 okG121
abbrev G281:=F281 G121
theorem okG281:N281 G281:=ok281 okG121
abbrev G219:=F219 G121
theorem okG219:N219 G219:=ok219 okG121
abbrev G218:=F218 G121 G219
theorem okG218:N218 G218:=ok218 okG121 okG219
abbrev G57:=F57 G121
theorem okG57:N57 G57:=ok57 okG121
abbrev G124:=F124 G57
theorem okG124:N124 G124:=ok124 okG57
abbrev G192:=F192 G280 G281 G218 G121 G124
theorem okG192:N192 G192:=ok192 okG280 okG281 okG218 okG121 okG124
abbrev G283:=F283
theorem okG283:N283 G283:=ok283
abbrev G282:=F282 G283
theorem okG282:N282 G282:=ok282 okG283
abbrev G193:=F193 G282
theorem okG193:N193 G193:=ok193 okG282
abbrev G194:=F194 G193
theorem okG194:N194 G194:=ok194 okG193
abbrev G118:=F118 G192 G194
theorem okG118:N118 G118:=ok118 okG192 okG194
abbrev G196:=F196 G118
theorem okG196:N196 G196:=ok196 okG118
abbrev G199:=F199 G121 G280
theorem okG199:N199 G199:=ok199 okG121 okG280
abbrev G302:=F302
theorem okG302:N302 G302:=ok302
abbrev G216:=F216 G302
theorem okG216:N216 G216:=ok216 okG302
abbrev G341:=F341
theorem okG341:N341 G341:=ok341
abbrev G288:=F288 G341
theorem okG288:N288 G288:=ok288 okG341
abbrev G215:=F215
theorem okG215:N215 G215:=ok215
abbrev G201:=F201 G216 G288 G215
theorem okG201:N201 G201:=ok201 okG216 okG288 okG215
abbrev G119:=F119 G199 G201
theorem okG119:N119 G119:=ok119 okG199 okG201
end Ev
end
