/- Laid together by program (what the claim does not reach is left out): Fn2. -/
import Derived.Test.YtoafhcjocdjkjaaGreatDoorZB05
set_option linter.all false
set_option maxRecDepth 100000
open Go.Proofs.Tryz
noncomputable section
namespace Ev
open Go
def ZZm:ZBL prog tab:=ZIK (by kernel_rfl) (by kernel_rfl)
abbrev N121(f:T233):=OKP 121 (mkE p233 r268 false f)
def F121:T233:=λa=>
 cond (a.2.1<=a.1) (some ((decide (a.1<=a.2.2.1)),())) (some (false,()))
theorem ok121:N121 (F121):=fk0 .nil func121
abbrev N280(f:T268):=OKP 280 (mkE p268 r268 false f)
def q280_0:List SP:=pat 42 0 [(0,.one (.str)),(6,.one (.int .i64)),(7,.one (.int .i64))]
def s280_0(f121:T233):Lp (Str×Int×Int×Unit) (Bool×Unit):=λt1 rec K=>
 cond (t1.2.2.1<t1.2.1) (rdL t1.1 t1.2.2.1 λx1=>cond ((Int.ofNat (UInt8.toNat x1))>=97) (rdL t1.1 t1.2.2.1 λx2=>cond (!((Int.ofNat (UInt8.toNat x2))<=122)) (cond (!(t1.2.2.1=0)) (rdL t1.1 t1.2.2.1 λx3=>cond (!((Int.ofNat (UInt8.toNat x3))<48)) (rdL t1.1 t1.2.2.1 λx4=>cond ((Int.ofNat (UInt8.toNat x4))>57) (some (false,())) (rec (t1.1,t1.2.1,(w64 (t1.2.2.1+1)),()))) (some (false,()))) (some (false,()))) (rec (t1.1,t1.2.1,(w64 (t1.2.2.1+1)),()))) (cond (!(t1.2.2.1=0)) (rdL t1.1 t1.2.2.1 λx2=>cond (!((Int.ofNat (UInt8.toNat x2))<48)) (rdL t1.1 t1.2.2.1 λx3=>cond ((Int.ofNat (UInt8.toNat x3))>57) (some (false,())) (rec (t1.1,t1.2.1,(w64 (t1.2.2.1+1)),()))) (some (false,()))) (some (false,())))) (K t1)
def F280(f121:T233):T268:=λa=>
 ZAD (s280_0 f121) fuel (a.1,(Int.ofNat a.1.length),0,()) λx1=>(f121 ((Int.ofNat x1.1.length),1,8,())).bind λx2=>some (x2.1,())
theorem ok280{f121} :N121 f121->N280 (F280 f121):=λa=>fk (ps:=p268) (rs:=r268) (L:=lenv [(0,ZAI q280_0 (s280_0 f121))]) (ls:=[(0,ZAJ f280 0)]) (.cons a .nil) func280 (.cons q280_0 (s280_0 f121) rfl (λ_ _ _ _=>by kernel_rfl) .nil)
abbrev N281(f:T269):=OKP 281 (mkE p269 r268 false f)
def F281(f121:T233):T269:=λa=>
 (f121 (a.1,0,512,())).bind λx1=>some (x1.1,())
theorem ok281{f121} :N121 f121->N281 (F281 f121):=λa=>fk0 (.cons a .nil) func281
abbrev N219(f:T269):=OKP 219 (mkE p269 r268 false f)
def F219(f121:T233):T269:=λa=>
 (f121 (a.1,0,3,())).bind λx1=>some (x1.1,())
theorem ok219{f121} :N121 f121->N219 (F219 f121):=λa=>fk0 (.cons a .nil) func219
abbrev N218(f:T331):=OKP 218 (mkE p331 r268 false f)
def F218(f121:T233)(f219:T269):T331:=λa=>
 (f121 (a.1.At.X,(-1024),1024,())).bind λx1=>cond x1.1 ((f121 (a.1.At.Y,(-1024),1024,())).bind λx2=>cond x2.1 ((f219 (a.1.Heading,())).bind λx3=>cond x3.1 ((f121 (a.1.Tilt,0,16,())).bind λx4=>cond x4.1 ((f121 (a.1.Lift,1,32,())).bind λx5=>some (x5.1,())) (some (false,()))) (some (false,()))) (some (false,()))) (some (false,()))
theorem ok218{f121 f219} :N121 f121->N219 f219->N218 (F218 f121 f219):=λa b=>fk0 (.cons a (.cons b .nil)) func218
def p57:List SP:=[.one (.int .i64)]
def r57:List SP:=[.one (.bool)]
abbrev T57:=Int×Unit->Option (Bool×Unit)
abbrev N57(f:T57):=OKP 57 (mkE p57 r57 false f)
def F57(f121:T233):T57:=λa=>
 (f121 (a.1,(-4096),4096,())).bind λx1=>some (x1.1,())
theorem ok57{f121} :N121 f121->N57 (F57 f121):=λa=>fk0 (.cons a .nil) func57
abbrev N124(f:T181):=OKP 124 (mkE p181 r268 false f)
def F124(f57:T57):T181:=λa=>
 (f57 (a.1.X,())).bind λx1=>cond x1.1 ((f57 (a.1.Y,())).bind λx2=>some (x2.1,())) (some (false,()))
theorem ok124{f57} :N57 f57->N124 (F124 f57):=λa=>fk0 (.cons a .nil) func124
abbrev N192(f:T270):=OKP 192 (mkE p270 r268 false f)
def F192(f280:T268)(f281:T269)(f218:T331)(f121:T233)(f124:T181):T270:=λa=>
 (f280 (a.1.Name,())).bind λx1=>cond (!x1.1) (some (false,())) (cond (a.1.Kind=1) (cond (decide (a.1.Name=a.1.Name) && (decide (a.1.Kind=a.1.Kind) && (decide (a.1.Line=[]) && (decide (a.1.At.X=0) && (decide (a.1.At.Y=0) && (decide (a.1.Heading=0) && (decide (a.1.Tilt=0) && (decide (a.1.Most=a.1.Most) && true)))))))) ((f281 (a.1.Most,())).bind λx2=>some (x2.1,())) (some (false,()))) (cond (a.1.Kind=2) ((f280 (a.1.Line,())).bind λx2=>cond x2.1 (cond (!(a.1.Line=a.1.Name)) ((f218 ((⟨⟨a.1.At.X,a.1.At.Y⟩,a.1.Heading,a.1.Tilt,1⟩:Jet),())).bind λx3=>cond x3.1 ((f121 (a.1.Most,0,32,())).bind λx4=>some (x4.1,())) (some (false,()))) (some (false,()))) (some (false,()))) (cond (a.1.Kind=3) (cond (decide (a.1.Name=a.1.Name) && (decide (a.1.Kind=a.1.Kind) && (decide (a.1.Line=a.1.Line) && (decide (a.1.At.X=a.1.At.X) && (decide (a.1.At.Y=a.1.At.Y) && (decide (a.1.Heading=0) && (decide (a.1.Tilt=0) && (decide (a.1.Most=0) && true)))))))) ((f280 (a.1.Line,())).bind λx2=>cond x2.1 (cond (!(a.1.Line=a.1.Name)) ((f124 (a.1.At,())).bind λx3=>some (x3.1,())) (some (false,()))) (some (false,()))) (some (false,()))) (some (false,())))))
theorem ok192{f280 f281 f218 f121 f124} :N280 f280->N281 f281->N218 f218->N121 f121->N124 f124->N192 (F192 f280 f281 f218 f121 f124):=λa b c d e=>fk0 (.cons a (.cons b (.cons c (.cons d (.cons e .nil))))) func192
def p283:List SP:=[.t .device,.sp [.str]]
abbrev T283:=Device×(Str×Unit)×Unit->Option (Bool×Unit)
abbrev N283(f:T283):=OKP 283 (mkE p283 r268 false f)
def F283:T283:=λa=>
 some ((decide (a.1.Name=a.2.1.1)),())
theorem ok283:N283 (F283):=fk0 .nil func283
def p282:List SP:=[.one (.r .device),.fn 283 [.str]]
abbrev T282:=List Device×(Str×Unit)×Unit->Option (Int×Unit)
abbrev N282(f:T282):=OKP 282 (mkE p282 p269 false f)
def q282_0:List SP:=pat 19 0 [(0,.one (.r .device)),(1,.fn 283 [.str]),(7,.one (.int .i64)),(8,.one (.int .i64))]
def s282_0(f283:T283):Lp (List Device×(Str×Unit)×Int×Int×Unit) (Int×Unit):=λt1 rec K=>
 cond (t1.2.2.2.1<t1.2.2.1) (rdL t1.1 t1.2.2.2.1 λx1=>(f283 (x1,(t1.2.1.1,()),())).bind λx2=>cond x2.1 (some (t1.2.2.2.1,())) (rec (t1.1,(t1.2.1.1,()),t1.2.2.1,(w64 (t1.2.2.2.1+1)),()))) (K (t1.1,(t1.2.1.1,()),t1.2.2.1,t1.2.2.2.1,()))
def F282(f283:T283):T282:=λa=>
 ZAD (s282_0 f283) fuel (a.1,(a.2.1.1,()),(Int.ofNat a.1.length),0,()) λx1=>some ((-1),())
theorem ok282{f283} :N283 f283->N282 (F282 f283):=λa=>fk (ps:=p282) (rs:=p269) (L:=lenv [(0,ZAI q282_0 (s282_0 f283))]) (ls:=[(0,ZAJ f282 0)]) (.cons a .nil) func282 (.cons q282_0 (s282_0 f283) rfl (λ_ _ _ _=>by kernel_rfl) .nil)
abbrev N193(f:T265):=OKP 193 (mkE p265 p269 false f)
def F193(f282:T282):T265:=λa=>
 (f282 (a.1,(a.2.1,()),())).bind λx1=>some (x1.1,())
theorem ok193{f282} :N282 f282->N193 (F193 f282):=λa=>fk0 (.cons a .nil) func193
abbrev N194(f:T266):=OKP 194 (mkE p266 r268 false f)
def F194(f193:T265):T266:=λa=>
 cond (a.2.1.Kind=1) (some (true,())) ((f193 (a.1,a.2.1.Line,())).bind λx1=>cond (x1.1>=0) (rdL a.1 x1.1 λx2=>some ((decide (x2.Kind=(w64 (a.2.1.Kind-1)))),())) (some (false,())))
theorem ok194{f193} :N193 f193->N194 (F194 f193):=λa=>fk0 (.cons a .nil) func194
abbrev N118(f:T230):=OKP 118 (mkE p228 r268 false f)
def q118_0:List SP:=pat 40 0 [(0,.one (.r .device)),(8,.one (.r .device)),(9,.one (.int .i64)),(10,.one (.int .i64))]
def s118_0(f192:T270)(f194:T266):Lp (List Device×List Device×Int×Int×Unit) (Bool×Unit):=λt1 rec K=>
 cond (t1.2.2.2.1<t1.2.2.1) (rdL t1.2.1 t1.2.2.2.1 λx1=>(f192 (x1,())).bind λx2=>cond (!(!x2.1)) (cond (t1.2.2.2.1>0) (rdL t1.1 (w64 (t1.2.2.2.1-1)) λx3=>cond (!(Op.bytesLess x1.Name x3.Name || decide (x1.Name=x3.Name))) ((f194 (t1.1,x1,())).bind λx4=>cond (!x4.1) (some (false,())) (rec (t1.1,t1.2.1,t1.2.2.1,(w64 (t1.2.2.2.1+1)),()))) (some (false,()))) ((f194 (t1.1,x1,())).bind λx3=>cond (!x3.1) (some (false,())) (rec (t1.1,t1.2.1,t1.2.2.1,(w64 (t1.2.2.2.1+1)),())))) (some (false,()))) (K t1)
def F118(f192:T270)(f194:T266):T230:=λa=>
 cond ((Int.ofNat a.1.length)>8) (some (false,())) (ZAD (s118_0 f192 f194) fuel (a.1,a.1,(Int.ofNat a.1.length),0,()) λx1=>some (true,()))
theorem ok118{f192 f194} :N192 f192->N194 f194->N118 (F118 f192 f194):=λa b=>fk (ps:=p228) (rs:=r268) (L:=lenv [(0,ZAI q118_0 (s118_0 f192 f194))]) (ls:=[(0,ZAJ f118 0)]) (.cons a (.cons b .nil)) func118 (.cons q118_0 (s118_0 f192 f194) rfl (λ_ _ _ _=>by kernel_rfl) .nil)
abbrev N199(f:T171):=OKP 199 (mkE p171 r268 false f)
def F199(f121:T233)(f280:T268):T171:=λa=>
 (f121 (a.1.Tick,0,64,())).bind λx1=>cond x1.1 ((f280 (a.1.Name,())).bind λx2=>cond x2.1 ((f121 (a.1.Level,0,32,())).bind λx3=>cond x3.1 ((f121 (a.1.Ramp,0,16,())).bind λx4=>some (x4.1,())) (some (false,()))) (some (false,()))) (some (false,()))
theorem ok199{f121 f280} :N121 f121->N280 f280->N199 (F199 f121 f280):=λa b=>fk0 (.cons a (.cons b .nil)) func199
abbrev N302(f:T269):=OKP 302 (mkE p269 r268 false f)
def F302:T269:=λa=>
 some ((!(decide (a.1=a.1))),())
theorem ok302:N302 (F302):=fk0 .nil func302
abbrev N216(f:T358):=OKP 216 (mkE p358 p269 false f)
def F216(f302:T269):T358:=λa=>
 (f302 (a.1,())).bind λx1=>(f302 (a.2.1,())).bind λx2=>cond x1.1 (cond x2.1 (some (0,())) (some ((-1),()))) (cond x2.1 (some (1,())) (cond (a.1<a.2.1) (some ((-1),())) (cond (a.1>a.2.1) (some (1,())) (some (0,())))))
theorem ok216{f302} :N302 f302->N216 (F216 f302):=λa=>fk0 (.cons a .nil) func216
abbrev N341(f:T268):=OKP 341 (mkE p268 r268 false f)
def F341:T268:=λa=>
 some ((!decide (a.1=a.1)),())
theorem ok341:N341 (F341):=fk0 .nil func341
abbrev N288(f:T188):=OKP 288 (mkE p41 p269 false f)
def F288(f341:T268):T188:=λa=>
 (f341 (a.1,())).bind λx1=>(f341 (a.2.1,())).bind λx2=>cond x1.1 (cond x2.1 (some (0,())) (some ((-1),()))) (cond x2.1 (some (1,())) (cond (Op.bytesLess a.1 a.2.1) (some ((-1),())) (cond (!(Op.bytesLess a.1 a.2.1 || decide (a.1=a.2.1))) (some (1,())) (some (0,())))))
theorem ok288{f341} :N341 f341->N288 (F288 f341):=λa=>fk0 (.cons a .nil) func288
abbrev N215(f:T376):=OKP 215 (mkE p373 p269 false f)
def q215_0:List SP:=pat 18 0 [(3,.one (.int .i64)),(6,.one (.r .int)),(7,.one (.int .i64)),(8,.one (.int .i64))]
def s215_0:Lp (Int×List Int×Int×Int×Unit) (Int×Unit):=λt1 rec K=>
 cond (t1.2.2.2.1<t1.2.2.1) (rdL t1.2.1 t1.2.2.2.1 λx1=>cond (!(x1=t1.1)) (some (x1,())) (rec (t1.1,t1.2.1,t1.2.2.1,(w64 (t1.2.2.2.1+1)),()))) (K t1)
def F215:T376:=λa=>
 ZAD (s215_0) fuel (0,a.1,(Int.ofNat a.1.length),0,()) λx1=>some (x1.1,())
theorem ok215:N215 (F215):=fk (ps:=p373) (rs:=p269) (L:=lenv [(0,ZAI q215_0 (s215_0))]) (ls:=[(0,ZAJ f215 0)]) .nil func215 (.cons q215_0 (s215_0) rfl (λ_ _ _ _=>by kernel_rfl) .nil)
abbrev N201(f:T307):=OKP 201 (mkE p307 p269 false f)
def F201(f216:T358)(f288:T188)(f215:T376):T307:=λa=>
 (f216 (a.1.Tick,a.2.1.Tick,())).bind λx1=>(f288 (a.1.Name,a.2.1.Name,())).bind λx2=>(f215 (([x1.1,x2.1]:List Int),())).bind λx3=>some (x3.1,())
theorem ok201{f216 f288 f215} :N216 f216->N288 f288->N215 f215->N201 (F201 f216 f288 f215):=λa b c=>fk0 (.cons a (.cons b (.cons c .nil))) func201
abbrev N119(f:T231):=OKP 119 (mkE p229 r268 false f)
def q119_0:List SP:=pat 33 0 [(0,.one (.r .cue)),(5,.one (.r .cue)),(6,.one (.int .i64)),(7,.one (.int .i64))]
def s119_0(f199:T171)(f201:T307):Lp (List Cue×List Cue×Int×Int×Unit) (Bool×Unit):=λt1 rec K=>
 cond (t1.2.2.2.1<t1.2.2.1) (rdL t1.2.1 t1.2.2.2.1 λx1=>(f199 (x1,())).bind λx2=>cond (!(!x2.1)) (cond (t1.2.2.2.1>0) (rdL t1.1 (w64 (t1.2.2.2.1-1)) λx3=>(f201 (x3,x1,())).bind λx4=>cond (x4.1>=0) (some (false,())) (rec (t1.1,t1.2.1,t1.2.2.1,(w64 (t1.2.2.2.1+1)),()))) (rec (t1.1,t1.2.1,t1.2.2.1,(w64 (t1.2.2.2.1+1)),()))) (some (false,()))) (K t1)
def F119(f199:T171)(f201:T307):T231:=λa=>
 ZAD (s119_0 f199 f201) fuel (a.1,a.1,(Int.ofNat a.1.length),0,()) λx1=>some ((decide ((Int.ofNat x1.1.length)<=12)),())
theorem ok119{f199 f201} :N199 f199->N201 f201->N119 (F119 f199 f201):=λa b=>fk (ps:=p229) (rs:=r268) (L:=lenv [(0,ZAI q119_0 (s119_0 f199 f201))]) (ls:=[(0,ZAJ f119 0)]) (.cons a (.cons b .nil)) func119 (.cons q119_0 (s119_0 f199 f201) rfl (λ_ _ _ _=>by kernel_rfl) .nil)
abbrev N122(f:T181):=OKP 122 (mkE p181 r268 false f)
def F122(f121:T233):T181:=λa=>
 (f121 (a.1.X,(-8),8,())).bind λx1=>cond x1.1 ((f121 (a.1.Y,(-8),8,())).bind λx2=>some (x2.1,())) (some (false,()))
theorem ok122{f121} :N121 f121->N122 (F122 f121):=λa=>fk0 (.cons a .nil) func122
abbrev N120(f:T232):=OKP 120 (mkE p232 r268 false f)
def q120_0:List SP:=pat 41 0 [(0,.one (.r .gust)),(5,.one (.r .gust)),(6,.one (.int .i64)),(7,.one (.int .i64))]
def s120_0(f121:T233)(f122:T181):Lp (List Gust×List Gust×Int×Int×Unit) (Bool×Unit):=λt1 rec K=>
 cond (t1.2.2.2.1<t1.2.2.1) (rdL t1.2.1 t1.2.2.2.1 λx1=>(f121 (x1.From,0,64,())).bind λx2=>cond (!(!x2.1)) ((f122 (x1.Drift,())).bind λx3=>cond (!(!x3.1)) (cond (t1.2.2.2.1>0) (rdL t1.1 (w64 (t1.2.2.2.1-1)) λx4=>cond (x1.From<=x4.From) (some (false,())) (rec (t1.1,t1.2.1,t1.2.2.1,(w64 (t1.2.2.2.1+1)),()))) (rec (t1.1,t1.2.1,t1.2.2.1,(w64 (t1.2.2.2.1+1)),()))) (some (false,()))) (some (false,()))) (K t1)
def F120(f121:T233)(f122:T181):T232:=λa=>
 ZAD (s120_0 f121 f122) fuel (a.1,a.1,(Int.ofNat a.1.length),0,()) λx1=>some ((decide ((Int.ofNat x1.1.length)<=8)),())
theorem ok120{f121 f122} :N121 f121->N122 f122->N120 (F120 f121 f122):=λa b=>fk (ps:=p232) (rs:=r268) (L:=lenv [(0,ZAI q120_0 (s120_0 f121 f122))]) (ls:=[(0,ZAJ f120 0)]) (.cons a (.cons b .nil)) func120 (.cons q120_0 (s120_0 f121 f122) rfl (λ_ _ _ _=>by kernel_rfl) .nil)
def p50:List SP:=[.agg [.r .device,.r .cue,.r .gust,.int .i64]]
def r50:List SP:=[.one (.bool)]
abbrev T50:=ShD×Unit->Option (Bool×Unit)
abbrev N50(f:T50):=OKP 50 (mkE p50 r50 false f)
def F50(f118:T230)(f119:T231)(f120:T232)(f121:T233):T50:=λa=>
 (f118 (a.1.1,())).bind λx1=>cond x1.1 ((f119 (a.1.2.1,())).bind λx2=>cond x2.1 ((f120 (a.1.2.2.1,())).bind λx3=>cond x3.1 ((f121 (a.1.2.2.2.1,0,64,())).bind λx4=>some (x4.1,())) (some (false,()))) (some (false,()))) (some (false,()))
theorem ok50{f118 f119 f120 f121} :N118 f118->N119 f119->N120 f120->N121 f121->N50 (F50 f118 f119 f120 f121):=λa b c d=>fk0 (.cons a (.cons b (.cons c (.cons d .nil)))) func50
abbrev N123(f:T235):=OKP 123 (mkE p235 p269 false f)
def F123(f216:T358)(f215:T376):T235:=λa=>
 (f216 (a.1.X,a.2.1.X,())).bind λx1=>(f216 (a.1.Y,a.2.1.Y,())).bind λx2=>(f215 (([x1.1,x2.1]:List Int),())).bind λx3=>some (x3.1,())
theorem ok123{f216 f215} :N216 f216->N215 f215->N123 (F123 f216 f215):=λa b=>fk0 (.cons a (.cons b .nil)) func123
def p51:List SP:=[.one (.r .place)]
def r51:List SP:=[.one (.bool)]
abbrev T51:=List Place×Unit->Option (Bool×Unit)
abbrev N51(f:T51):=OKP 51 (mkE p51 r51 false f)
def q51_0:List SP:=pat 33 0 [(0,.one (.r .place)),(5,.one (.r .place)),(6,.one (.int .i64)),(7,.one (.int .i64))]
def s51_0(f122:T181)(f123:T235)(f121:T233):Lp (List Place×List Place×Int×Int×Unit) (Bool×Unit):=λt1 rec K=>
 cond (t1.2.2.2.1<t1.2.2.1) (rdL t1.2.1 t1.2.2.2.1 λx1=>(f122 (x1,())).bind λx2=>cond (!(!x2.1)) (cond (t1.2.2.2.1>0) (rdL t1.1 (w64 (t1.2.2.2.1-1)) λx3=>(f123 (x3,x1,())).bind λx4=>cond (x4.1>=0) (some (false,())) (rec (t1.1,t1.2.1,t1.2.2.1,(w64 (t1.2.2.2.1+1)),()))) (rec (t1.1,t1.2.1,t1.2.2.1,(w64 (t1.2.2.2.1+1)),()))) (some (false,()))) (K t1)
def F51(f122:T181)(f123:T235)(f121:T233):T51:=λa=>
 ZAD (s51_0 f122 f123 f121) fuel (a.1,a.1,(Int.ofNat a.1.length),0,()) λx1=>(f121 ((Int.ofNat x1.1.length),1,4,())).bind λx2=>some (x2.1,())
theorem ok51{f122 f123 f121} :N122 f122->N123 f123->N121 f121->N51 (F51 f122 f123 f121):=λa b c=>fk (ps:=p51) (rs:=r51) (L:=lenv [(0,ZAI q51_0 (s51_0 f122 f123 f121))]) (ls:=[(0,ZAJ f51 0)]) (.cons a (.cons b (.cons c .nil))) func51 (.cons q51_0 (s51_0 f122 f123 f121) rfl (λ_ _ _ _=>by kernel_rfl) .nil)
def p52:List SP:=[.t .box]
def r52:List SP:=[.one (.bool)]
abbrev T52:=Box×Unit->Option (Bool×Unit)
abbrev N52(f:T52):=OKP 52 (mkE p52 r52 false f)
def F52(f124:T181):T52:=λa=>
 (f124 (a.1.Low,())).bind λx1=>cond x1.1 ((f124 (a.1.High,())).bind λx2=>cond x2.1 (cond (a.1.Low.X<=a.1.High.X) (some ((decide (a.1.Low.Y<=a.1.High.Y)),())) (some (false,()))) (some (false,()))) (some (false,()))
theorem ok52{f124} :N124 f124->N52 (F52 f124):=λa=>fk0 (.cons a .nil) func52
def p25:List SP:=[.agg [.r .device,.r .cue,.r .gust,.int .i64,.r .place,.int .i64,.int .i64,.int .i64,.int .i64]]
def r25:List SP:=[.one (.bool)]
abbrev T25:=DkD×Unit->Option (Bool×Unit)
abbrev N25(f:T25):=OKP 25 (mkE p25 r25 false f)
def F25(f50:T50)(f51:T51)(f52:T52):T25:=λa=>
 (f50 ((a.1.1,a.1.2.1,a.1.2.2.1,a.1.2.2.2.1,()),())).bind λx1=>cond x1.1 ((f51 (a.1.2.2.2.2.1,())).bind λx2=>cond x2.1 ((f52 ((⟨⟨a.1.2.2.2.2.2.1,a.1.2.2.2.2.2.2.1⟩,⟨a.1.2.2.2.2.2.2.2.1,a.1.2.2.2.2.2.2.2.2.1⟩⟩:Box),())).bind λx3=>some (x3.1,())) (some (false,()))) (some (false,()))
theorem ok25{f50 f51 f52} :N50 f50->N51 f51->N52 f52->N25 (F25 f50 f51 f52):=λa b c=>fk0 (.cons a (.cons b (.cons c .nil))) func25
abbrev N184(f:T228):=OKP 184 (mkE p228 r228 false f)
def F184:T228:=λa=>
 ZBe (List.isEmpty a.1) (some ([],())) (capK (List.length ([]:List Device)+a.1.length) (some ((([]:List Device)++a.1),())))
theorem ok184:N184 (F184):=fk0 .nil func184
abbrev N185(f:T229):=OKP 185 (mkE p229 r229 false f)
def F185:T229:=λa=>
 ZBe (List.isEmpty a.1) (some ([],())) (capK (List.length ([]:List Cue)+a.1.length) (some ((([]:List Cue)++a.1),())))
theorem ok185:N185 (F185):=fk0 .nil func185
abbrev T186:=List Gust×Unit->Option (List Gust×Unit)
abbrev N186(f:T186):=OKP 186 (mkE p232 r326 false f)
def F186:T186:=λa=>
 ZBe (List.isEmpty a.1) (some ([],())) (capK (List.length ([]:List Gust)+a.1.length) (some ((([]:List Gust)++a.1),())))
theorem ok186:N186 (F186):=fk0 .nil func186
abbrev N94(f:T139):=OKP 94 (mkE p139 r139 false f)
def F94(f184:T228)(f185:T229)(f186:T186):T139:=λa=>
 (f184 (a.1.1,())).bind λx1=>(f185 (a.1.2.1,())).bind λx2=>(f186 (a.1.2.2.1,())).bind λx3=>some ((x1.1,x2.1,x3.1,a.1.2.2.2.1,()),())
theorem ok94{f184 f185 f186} :N184 f184->N185 f185->N186 f186->N94 (F94 f184 f185 f186):=λa b c=>fk0 (.cons a (.cons b (.cons c .nil))) func94
abbrev T95:=List Place×Unit->Option (List Place×Unit)
abbrev N95(f:T95):=OKP 95 (mkE p141 r324 false f)
def F95:T95:=λa=>
 ZBe (List.isEmpty a.1) (some ([],())) (capK (List.length ([]:List Place)+a.1.length) (some ((([]:List Place)++a.1),())))
theorem ok95:N95 (F95):=fk0 .nil func95
def p46:List SP:=[.agg [.r .device,.r .cue,.r .gust,.int .i64,.r .place,.int .i64,.int .i64,.int .i64,.int .i64]]
def r46:List SP:=[.agg [.o 0 .device,.o 1 .cue,.o 2 .gust,.int .i64,.o 3 .place,.int .i64,.int .i64,.int .i64,.int .i64]]
abbrev T46:=DkD×Unit->Option (DkD×Unit)
abbrev N46(f:T46):=OKP 46 (mkE p46 r46 false f)
def F46(f94:T139)(f95:T95):T46:=λa=>
 (f94 ((a.1.1,a.1.2.1,a.1.2.2.1,a.1.2.2.2.1,()),())).bind λx1=>(f95 (a.1.2.2.2.2.1,())).bind λx2=>some ((x1.1.1,x1.1.2.1,x1.1.2.2.1,x1.1.2.2.2.1,x2.1,a.1.2.2.2.2.2.1,a.1.2.2.2.2.2.2.1,a.1.2.2.2.2.2.2.2.1,a.1.2.2.2.2.2.2.2.2.1,()),())
theorem ok46{f94 f95} :N94 f94->N95 f95->N46 (F46 f94 f95):=λa b=>fk0 (.cons a (.cons b .nil)) func46
def r97:List SP:=[.one (.str),.one (.bool)]
abbrev T97:=Str×Unit->Option (Str×Bool×Unit)
abbrev N97(f:T97):=OKP 97 (mkE p268 r97 false f)
def F97:T97:=λa=>
 (λj1:Option (Str×Bool×Unit)=>(λj2:Option (Str×Bool×Unit)=>cond (a.1=[100,101,118,105,99,101]) (cond (a.1=[100,101,118,105,99,101]) (some ([84],true,())) j2) (cond (a.1=[99,117,101]) (some ([84],true,())) j2)) (cond (a.1=[114,101,109,111,118,101]) (some ([110],true,())) (cond (a.1=[103,117,115,116]) (some ([78,80],true,())) (cond (a.1=[116,105,99,107,115]) (cond (a.1=[116,105,99,107,115]) (some ([78],true,())) j1) (cond (a.1=[116,117,114,110]) (cond (a.1=[116,117,114,110]) (some ([78],true,())) j1) (cond (a.1=[108,105,102,116,115]) (cond (a.1=[108,105,102,116,115]) (some ([78],true,())) j1) (cond (a.1=[100,114,111,112,115]) (cond (a.1=[100,114,111,112,115]) (some ([78],true,())) j1) (cond (a.1=[99,111,117,110,116]) (some ([78],true,())) j1)))))))) (cond (a.1=[114,111,115,101]) (some ([42],true,())) (cond (a.1=[98,97,115,105,110]) (some ([80,80],true,())) (cond (a.1=[115,104,105,102,116]) (some ([80],true,())) (cond (a.1=[108,101,118,101,108]) (some ([110,78],true,())) (cond (a.1=[108,105,109,105,116]) (cond (a.1=[108,105,109,105,116]) (some ([],true,())) (some ([],false,()))) (cond (a.1=[108,97,110,100,105,110,103,115]) (cond (a.1=[108,97,110,100,105,110,103,115]) (some ([],true,())) (some ([],false,()))) (cond (a.1=[104,105,103,104]) (cond (a.1=[104,105,103,104]) (some ([],true,())) (some ([],false,()))) (cond (a.1=[115,97,102,101]) (cond (a.1=[115,97,102,101]) (some ([],true,())) (some ([],false,()))) (cond (a.1=[108,101,97,115,116]) (cond (a.1=[108,101,97,115,116]) (some ([],true,())) (some ([],false,()))) (cond (a.1=[100,114,121]) (some ([],true,())) (some ([],false,()))))))))))))
theorem ok97:N97 (F97):=fk0 .nil func97
def p10:List SP:=[.one (.str),.one (.str)]
def r10:List SP:=[.one (.o 0 .str)]
abbrev T10:=Str×Str×Unit->Option (List Str×Unit)
abbrev N10(f:T10):=OKP 10 (mkE p10 r10 false f)
def F10(f38:T38):T10:=λa=>
 cond (a.2.1=[]) (some (([a.1]:List Str),())) ((f38 a).bind λx1=>some (x1.1,()))
theorem ok10{f38} :N38 f38->N10 (F10 f38):=λa=>fk0 (.cons a .nil) func10
abbrev T339:=Str×Str×Unit->Option (Bool×Unit)
abbrev N339(f:T339):=OKP 339 (mkE p41 r268 false f)
def F339:T339:=λa=>
 cond ((Int.ofNat a.1.length)>=(Int.ofNat a.2.1.length)) (okIf ((0:Int)<=(Int.ofNat a.2.1.length)/\((Int.ofNat a.2.1.length):Int)<=a.1.length) (some ((decide ((List.take (Int.toNat (Int.ofNat a.2.1.length)) a.1)=a.2.1)),()))) (some (false,()))
theorem ok339:N339 (F339):=fk0 .nil func339
abbrev N279(f:T58):=OKP 279 (mkE p41 p268 false f)
def F279(f339:T339):T58:=λa=>
 (f339 a).bind λx1=>cond x1.1 (okIf ((0:Int)<=(Int.ofNat a.2.1.length)/\((Int.ofNat a.2.1.length):Int)<=a.1.length) (some ((List.drop (Int.toNat (Int.ofNat a.2.1.length)) a.1),()))) (some (a.1,()))
theorem ok279{f339} :N339 f339->N279 (F279 f339):=λa=>fk0 (.cons a .nil) func279
abbrev N190(f:T58):=OKP 190 (mkE p41 p268 false f)
def F190(f279:T58):T58:=λa=>
 (f279 a).bind λx1=>some (x1.1,())
theorem ok190{f279} :N279 f279->N190 (F190 f279):=λa=>fk0 (.cons a .nil) func190
abbrev N99(f:T144):=OKP 99 (mkE p268 r144 false f)
def q99_0:List SP:=pat 49 0 [(0,.one (.str)),(4,.one (.int .i64)),(25,.one (.int .i64)),(26,.one (.int .i64))]
def s99_0:Lp (Str×Int×Int×Int×Unit) (Int×Bool×Unit):=λt2 rec K=>
 cond (t2.2.2.2.1<t2.2.2.1) (rdL t2.1 t2.2.2.2.1 λx1=>cond (!((Int.ofNat (UInt8.toNat x1))<48)) (rdL t2.1 t2.2.2.2.1 λx2=>cond ((Int.ofNat (UInt8.toNat x2))>57) (some (0,false,())) (rdL t2.1 t2.2.2.2.1 λx3=>rec (t2.1,(w64 ((w64 (10*t2.2.1))+(w64 (IntKind.wrap .u8 ((Int.ofNat (UInt8.toNat x3)) -48))))),t2.2.2.1,(w64 (t2.2.2.2.1+1)),()))) (some (0,false,()))) (K t2)
def F99:T144:=λa=>
 cond (!((Int.ofNat a.1.length)=0)) (cond (!((Int.ofNat a.1.length)>3)) (cond ((Int.ofNat a.1.length)>1) (rdL a.1 0 λx1=>cond ((Int.ofNat (UInt8.toNat x1))=48) (some (0,false,())) (ZAD (s99_0) fuel (a.1,0,(Int.ofNat a.1.length),0,()) λx2=>some (x2.2.1,true,()))) (ZAD (s99_0) fuel (a.1,0,(Int.ofNat a.1.length),0,()) λx1=>some (x1.2.1,true,()))) (some (0,false,()))) (some (0,false,()))
theorem ok99:N99 (F99):=fk (ps:=p268) (rs:=r144) (L:=lenv [(0,ZAI q99_0 (s99_0))]) (ls:=[(0,ZAJ f99 0)]) .nil func99 (.cons q99_0 (s99_0) rfl (λ_ _ _ _=>by kernel_rfl) .nil)
def p54:List SP:=[.one (.int .i64)]
def r54:List SP:=[.one (.str)]
abbrev T54:=Int×Unit->Option (Str×Unit)
abbrev N54(f:T54):=OKP 54 (mkE p54 r54 false f)
def F54(f129:T78):T54:=λa=>
 (f129 (a.1,())).bind λx1=>some (x1.1,())
theorem ok54{f129} :N129 f129->N54 (F54 f129):=λa=>fk0 (.cons a .nil) func54
def p21:List SP:=[.one (.int .i64)]
def r21:List SP:=[.one (.str)]
abbrev T21:=Int×Unit->Option (Str×Unit)
abbrev N21(f:T21):=OKP 21 (mkE p21 r21 false f)
def F21(f57:T57)(f54:T54)(f58:T58):T21:=λa=>
 (f57 (a.1,())).bind λx1=>cond (!x1.1) (some ([],())) (cond (a.1<0) ((f54 ((w64 (Int.tdiv (w64 (0-a.1)) 8)),())).bind λx2=>capK (List.length [45]+x2.1.length) (cond ((Int.tmod (w64 (0-a.1)) 8)>0) ((f54 ((w64 (1000+(w64 ((Int.tmod (w64 (0-a.1)) 8)*125)))),())).bind λx3=>okIf ((0:Int)<=1/\(1:Int)<=x3.1.length) ((f58 ((List.drop (Int.toNat 1) x3.1),[48],())).bind λx4=>capK (List.length [46]+x4.1.length) (capK (List.length ([45]++x2.1)+List.length ([46]++x4.1)) (some ((([45]++x2.1)++([46]++x4.1)),()))))) (some (([45]++x2.1),())))) ((f54 ((w64 (Int.tdiv a.1 8)),())).bind λx2=>capK (List.length ([]:Str)+x2.1.length) (cond ((Int.tmod a.1 8)>0) ((f54 ((w64 (1000+(w64 ((Int.tmod a.1 8)*125)))),())).bind λx3=>okIf ((0:Int)<=1/\(1:Int)<=x3.1.length) ((f58 ((List.drop (Int.toNat 1) x3.1),[48],())).bind λx4=>capK (List.length [46]+x4.1.length) (capK (List.length (([]:Str)++x2.1)+List.length ([46]++x4.1)) (some (((([]:Str)++x2.1)++([46]++x4.1)),()))))) (some ((([]:Str)++x2.1),())))))
theorem ok21{f57 f54 f58} :N57 f57->N54 f54->N58 f58->N21 (F21 f57 f54 f58):=λa b c=>fk0 (.cons a (.cons b (.cons c .nil))) func21
abbrev N189(f:T144):=OKP 189 (mkE p268 r144 false f)
def q189_2:List SP:=pat 57 0 [(0,.one (.str)),(9,.one (.int .i64)),(34,.one (.int .i64)),(44,.one (.o 5002001 .int)),(45,.one (.int .i64)),(46,.one (.int .i64))]
def s189_2(f190:T58)(f96:T96)(f99:T144)(f21:T21):Lp (Str×Int×Int×List Int×Int×Int×Unit) (Int×Bool×Unit):=λt5 rec K=>
 cond (t5.2.2.2.2.2.1<t5.2.2.2.2.1) (rdL t5.2.2.2.1 t5.2.2.2.2.2.1 λ_=>(t5.2.2.2.1[(Int.toNat t5.2.2.2.2.2.1)]?).bind λx1=>(f21 (x1,())).bind λx2=>cond (x2.1=t5.1) (some (x1,true,())) (rec (t5.1,t5.2.1,t5.2.2.1,t5.2.2.2.1,t5.2.2.2.2.1,(w64 (t5.2.2.2.2.2.1+1)),()))) (K t5)
def q189_0:List SP:=pat 57 0 [(0,.one (.str)),(9,.one (.int .i64)),(34,.one (.int .i64))]
def s189_0(f190:T58)(f96:T96)(f99:T144)(f21:T21):Lp (Str×Int×Int×Unit) (Int×Bool×Unit):=λt4 rec K=>
 cond (t4.2.2.1<8) (ZAD (s189_2 f190 f96 f99 f21) fuel (t4.1,t4.2.1,t4.2.2.1,([(w64 (t4.2.1+t4.2.2.1)),(w64 ((w64 (0-t4.2.1)) -t4.2.2.1))]:List Int),(Int.ofNat (List.length ([(w64 (t4.2.1+t4.2.2.1)),(w64 ((w64 (0-t4.2.1)) -t4.2.2.1))]:List Int))),0,()) λx1=>rec (x1.1,x1.2.1,(w64 (x1.2.2.1+1)),())) (K t4)
def F189(f190:T58)(f96:T96)(f99:T144)(f21:T21):T144:=λa=>
 (f190 (a.1,[45],())).bind λx1=>(f96 (x1.1,[46],())).bind λx2=>(f99 (x2.1,())).bind λx3=>cond (!(!x3.2.1)) (cond ((Int.ofNat x2.2.1.length)>3) (some (0,false,())) (ZAD (s189_0 f190 f96 f99 f21) fuel (a.1,(w64 (8*x3.1)),0,()) λx4=>some (0,false,()))) (some (0,false,()))
theorem ok189{f190 f96 f99 f21} :N190 f190->N96 f96->N99 f99->N21 f21->N189 (F189 f190 f96 f99 f21):=λa b c d=>fk (ps:=p268) (rs:=r144) (L:=lenv [(0,ZAI q189_0 (s189_0 f190 f96 f99 f21)),(2,ZAI q189_2 (s189_2 f190 f96 f99 f21))]) (ls:=[(0,ZAJ f189 0),(2,ZAJ f189 1)]) (.cons a (.cons b (.cons c (.cons d .nil)))) func189 (.cons q189_0 (s189_0 f190 f96 f99 f21) rfl (λ_ _ _ _=>by kernel_rfl) (.cons q189_2 (s189_2 f190 f96 f99 f21) rfl (λ_ _ _ _=>by kernel_rfl) .nil))
def p55:List SP:=[.t .place]
def r55:List SP:=[.one (.str)]
abbrev T55:=Place×Unit->Option (Str×Unit)
abbrev N55(f:T55):=OKP 55 (mkE p55 r55 false f)
def F55(f124:T181)(f21:T21):T55:=λa=>
 (f124 (a.1,())).bind λx1=>cond (!x1.1) (some ([],())) (cond (a.1.Y<0) ((f21 (a.1.X,())).bind λx2=>capK (x2.1.length+List.length ([]:Str)) ((f21 (a.1.Y,())).bind λx3=>capK (List.length (x2.1++([]:Str))+x3.1.length) (capK (List.length ((x2.1++([]:Str))++x3.1)+List.length [105]) (some ((((x2.1++([]:Str))++x3.1)++[105]),()))))) ((f21 (a.1.X,())).bind λx2=>capK (x2.1.length+List.length [43]) ((f21 (a.1.Y,())).bind λx3=>capK (List.length (x2.1++[43])+x3.1.length) (capK (List.length ((x2.1++[43])++x3.1)+List.length [105]) (some ((((x2.1++[43])++x3.1)++[105]),()))))))
theorem ok55{f124 f21} :N124 f124->N21 f21->N55 (F55 f124 f21):=λa b=>fk0 (.cons a (.cons b .nil)) func55
abbrev N100(f:T149):=OKP 100 (mkE p268 r356 false f)
def F100(f188:T188)(f189:T144)(f190:T58)(f55:T55):T149:=λa=>
 (f188 (a.1,[43,45],())).bind λx1=>cond (!(x1.1<1)) (rdL a.1 (w64 ((Int.ofNat a.1.length) -1)) λx2=>cond (!((Int.ofNat (UInt8.toNat x2))=105)) (some ((⟨0,0⟩:Place),false,())) (okIf ((0:Int)<=x1.1/\(x1.1:Int)<=a.1.length) ((f189 ((List.take (Int.toNat x1.1) a.1),())).bind λx3=>okIf ((0:Int)<=x1.1/\(x1.1:Int)<=(w64 ((Int.ofNat a.1.length) -1))/\((w64 ((Int.ofNat a.1.length) -1)):Int)<=a.1.length) ((f190 ((List.drop (Int.toNat x1.1) (List.take (Int.toNat (w64 ((Int.ofNat a.1.length) -1))) a.1)),[43],())).bind λx4=>(f189 (x4.1,())).bind λx5=>cond (!(!x3.2.1)) (cond (!(!x5.2.1)) ((f55 ((⟨x3.1,x5.1⟩:Place),())).bind λx6=>cond (!(x6.1=a.1)) (some ((⟨0,0⟩:Place),false,())) (some ((⟨x3.1,x5.1⟩:Place),true,()))) (some ((⟨0,0⟩:Place),false,()))) (some ((⟨0,0⟩:Place),false,())))))) (some ((⟨0,0⟩:Place),false,()))
theorem ok100{f188 f189 f190 f55} :N188 f188->N189 f189->N190 f190->N55 f55->N100 (F100 f188 f189 f190 f55):=λa b c d=>fk0 (.cons a (.cons b (.cons c (.cons d .nil)))) func100
def r98:List SP:=[.one (.o 0 .place),.one (.bool)]
abbrev N98(f:T145):=OKP 98 (mkE p254 r98 false f)
def q98_0:List SP:=pat 29 0 [(4,.one (.o 5000001 .place)),(10,.one (.r .str)),(11,.one (.int .i64)),(12,.one (.int .i64))]
def s98_0(f100:T149):Lp (List Place×List Str×Int×Int×Unit) (List Place×Bool×Unit):=λt1 rec K=>
 cond (t1.2.2.2.1<t1.2.2.1) (rdL t1.2.1 t1.2.2.2.1 λx1=>(f100 (x1,())).bind λx2=>cond (!x2.2.1) (some ([],false,())) (capK (t1.1.length+List.length ([x2.1]:List Place)) (rec ((t1.1++([x2.1]:List Place)),t1.2.1,t1.2.2.1,(w64 (t1.2.2.2.1+1)),())))) (K t1)
def F98(f100:T149):T145:=λa=>
 ZAD (s98_0 f100) fuel (([]:List Place),a.1,(Int.ofNat a.1.length),0,()) λx1=>some (x1.1,true,())
theorem ok98{f100} :N100 f100->N98 (F98 f100):=λa=>fk (ps:=p254) (rs:=r98) (L:=lenv [(0,ZAI q98_0 (s98_0 f100))]) (ls:=[(0,ZAJ f98 0)]) (.cons a .nil) func98 (.cons q98_0 (s98_0 f100) rfl (λ_ _ _ _=>by kernel_rfl) .nil)
def p47:List SP:=[.one (.str)]
def r47:List SP:=[.agg [.str,.str,.int .i64,.o 0 .place],.one (.bool)]
abbrev T47:=Str×Unit->Option ((Str×Str×Int×List Place×Unit)×Bool×Unit)
abbrev N47(f:T47):=OKP 47 (mkE p47 r47 false f)
def q47_0:List SP:=pat 101 0 [(2,.box 5000001 [.str,.str,.int .i64,.o 5000002 .place]),(7,.one (.str)),(8,.one (.bool)),(9,.box 5000003 [.str,.str,.int .i64,.o 5000004 .place]),(62,.one (.o 5000005 .str)),(63,.one (.int .i64)),(64,.one (.int .i64))]
def s47_0(f96:T96)(f97:T97)(f10:T10)(f98:T145)(f99:T144)(f100:T149):Lp ((Str×Str×Int×List Place×Unit)×Str×Bool×(Str×Str×Int×List Place×Unit)×List Str×Int×Int×Unit) ((Str×Str×Int×List Place×Unit)×Bool×Unit):=λt5 rec K=>
 cond (t5.2.2.2.2.2.2.1<t5.2.2.2.2.2.1) (rdL t5.2.2.2.2.1 t5.2.2.2.2.2.2.1 λ_=>(t5.2.2.2.2.1[(Int.toNat t5.2.2.2.2.2.2.1)]?).bind λx1=>rdL t5.2.1 t5.2.2.2.2.2.2.1 λx2=>cond ((Int.ofNat (UInt8.toNat x2))=78) ((f99 (x1,())).bind λx3=>cond (!x3.2.1) (some ((t5.2.2.2.1.1,t5.2.2.2.1.2.1,x3.1,t5.2.2.2.1.2.2.2.1,()),false,())) (rec (t5.1,t5.2.1,x3.2.1,(t5.2.2.2.1.1,t5.2.2.2.1.2.1,x3.1,t5.2.2.2.1.2.2.2.1,()),t5.2.2.2.2.1,t5.2.2.2.2.2.1,(w64 (t5.2.2.2.2.2.2.1+1)),()))) (cond ((Int.ofNat (UInt8.toNat x2))=80) ((f100 (x1,())).bind λx3=>capK (t5.2.2.2.1.2.2.2.1.length+List.length ([x3.1]:List Place)) (cond (!x3.2.1) (some ((t5.2.2.2.1.1,t5.2.2.2.1.2.1,t5.2.2.2.1.2.2.1,(t5.2.2.2.1.2.2.2.1++([x3.1]:List Place)),()),false,())) (rec (t5.1,t5.2.1,x3.2.1,(t5.2.2.2.1.1,t5.2.2.2.1.2.1,t5.2.2.2.1.2.2.1,(t5.2.2.2.1.2.2.2.1++([x3.1]:List Place)),()),t5.2.2.2.2.1,t5.2.2.2.2.2.1,(w64 (t5.2.2.2.2.2.2.1+1)),())))) (cond (!t5.2.2.1) (some ((t5.2.2.2.1.1,x1,t5.2.2.2.1.2.2.1,t5.2.2.2.1.2.2.2.1,()),false,())) (rec (t5.1,t5.2.1,t5.2.2.1,(t5.2.2.2.1.1,x1,t5.2.2.2.1.2.2.1,t5.2.2.2.1.2.2.2.1,()),t5.2.2.2.2.1,t5.2.2.2.2.2.1,(w64 (t5.2.2.2.2.2.2.1+1)),()))))) (K t5)
def F47(f96:T96)(f97:T97)(f10:T10)(f98:T145)(f99:T144)(f100:T149):T47:=λa=>
 (f96 (a.1,[32],())).bind λx1=>(f97 (x1.1,())).bind λx2=>cond (!(!x2.2.1)) (cond (!(x1.2.2.1=(!decide (x2.1=[])))) (some ((x1.1,x1.2.1,0,[],()),false,())) (cond (!(x2.1=[])) (cond (x2.1=[84]) (some ((x1.1,x1.2.1,0,[],()),true,())) ((f10 (x1.2.1,[32],())).bind λx3=>cond (x2.1=[42]) ((f98 (x3.1,())).bind λx4=>some ((x1.1,x1.2.1,0,x4.1,()),x4.2.1,())) (cond (!((Int.ofNat x3.1.length)=(Int.ofNat x2.1.length))) (some ((x1.1,x1.2.1,0,[],()),false,())) (ZAD (s47_0 f96 f97 f10 f98 f99 f100) fuel (([],[],0,[],()),x2.1,x2.2.1,(x1.1,x1.2.1,0,[],()),x3.1,(Int.ofNat x3.1.length),0,()) λx4=>some (x4.2.2.2.1,true,()))))) (some ((x1.1,x1.2.1,0,[],()),true,())))) (some ((x1.1,x1.2.1,0,[],()),false,()))
theorem ok47{f96 f97 f10 f98 f99 f100} :N96 f96->N97 f97->N10 f10->N98 f98->N99 f99->N100 f100->N47 (F47 f96 f97 f10 f98 f99 f100):=λa b c d e g=>fk (ps:=p47) (rs:=r47) (L:=lenv [(0,ZAI q47_0 (s47_0 f96 f97 f10 f98 f99 f100))]) (ls:=[(0,ZAJ f47 0)]) (.cons a (.cons b (.cons c (.cons d (.cons e (.cons g .nil)))))) func47 (.cons q47_0 (s47_0 f96 f97 f10 f98 f99 f100) rfl (λ_ _ _ _=>by kernel_rfl) .nil)
abbrev N191(f:T77):=OKP 191 (mkE p270 p268 false f)
def F191(f192:T270)(f21:T21)(f55:T55)(f54:T54):T77:=λa=>
 (f192 (a.1,())).bind λx1=>cond (!x1.1) (some ([],())) (cond (a.1.Kind=1) (capK (List.length [112,117,109,112,32]+List.length a.1.Name) (capK (List.length ([112,117,109,112,32]++a.1.Name)+List.length [32,109,111,115,116,32]) ((f21 (a.1.Most,())).bind λx2=>capK (List.length (([112,117,109,112,32]++a.1.Name)++[32,109,111,115,116,32])+x2.1.length) (some (((([112,117,109,112,32]++a.1.Name)++[32,109,111,115,116,32])++x2.1),()))))) (cond (a.1.Kind=2) (capK (List.length [110,111,122,122,108,101,32]+List.length a.1.Name) (capK (List.length ([110,111,122,122,108,101,32]++a.1.Name)+List.length [32,111,110,32]) (capK (List.length (([110,111,122,122,108,101,32]++a.1.Name)++[32,111,110,32])+List.length a.1.Line) (capK (List.length ((([110,111,122,122,108,101,32]++a.1.Name)++[32,111,110,32])++a.1.Line)+List.length [32,97,116,32]) ((f55 (a.1.At,())).bind λx2=>capK (List.length (((([110,111,122,122,108,101,32]++a.1.Name)++[32,111,110,32])++a.1.Line)++[32,97,116,32])+x2.1.length) (capK (List.length ((((([110,111,122,122,108,101,32]++a.1.Name)++[32,111,110,32])++a.1.Line)++[32,97,116,32])++x2.1)+List.length [32,104,101,97,100,105,110,103,32]) ((f54 (a.1.Heading,())).bind λx3=>capK (List.length (((((([110,111,122,122,108,101,32]++a.1.Name)++[32,111,110,32])++a.1.Line)++[32,97,116,32])++x2.1)++[32,104,101,97,100,105,110,103,32])+x3.1.length) (capK (List.length ((((((([110,111,122,122,108,101,32]++a.1.Name)++[32,111,110,32])++a.1.Line)++[32,97,116,32])++x2.1)++[32,104,101,97,100,105,110,103,32])++x3.1)+List.length [32,116,105,108,116,32]) ((f21 (a.1.Tilt,())).bind λx4=>capK (List.length (((((((([110,111,122,122,108,101,32]++a.1.Name)++[32,111,110,32])++a.1.Line)++[32,97,116,32])++x2.1)++[32,104,101,97,100,105,110,103,32])++x3.1)++[32,116,105,108,116,32])+x4.1.length) (capK (List.length ((((((((([110,111,122,122,108,101,32]++a.1.Name)++[32,111,110,32])++a.1.Line)++[32,97,116,32])++x2.1)++[32,104,101,97,100,105,110,103,32])++x3.1)++[32,116,105,108,116,32])++x4.1)+List.length [32,109,111,115,116,32]) ((f21 (a.1.Most,())).bind λx5=>capK (List.length (((((((((([110,111,122,122,108,101,32]++a.1.Name)++[32,111,110,32])++a.1.Line)++[32,97,116,32])++x2.1)++[32,104,101,97,100,105,110,103,32])++x3.1)++[32,116,105,108,116,32])++x4.1)++[32,109,111,115,116,32])+x5.1.length) (some (((((((((((([110,111,122,122,108,101,32]++a.1.Name)++[32,111,110,32])++a.1.Line)++[32,97,116,32])++x2.1)++[32,104,101,97,100,105,110,103,32])++x3.1)++[32,116,105,108,116,32])++x4.1)++[32,109,111,115,116,32])++x5.1),()))))))))))))) (capK (List.length [108,97,109,112,32]+List.length a.1.Name) (capK (List.length ([108,97,109,112,32]++a.1.Name)+List.length [32,111,110,32]) (capK (List.length (([108,97,109,112,32]++a.1.Name)++[32,111,110,32])+List.length a.1.Line) (capK (List.length ((([108,97,109,112,32]++a.1.Name)++[32,111,110,32])++a.1.Line)+List.length [32,97,116,32]) ((f55 (a.1.At,())).bind λx2=>capK (List.length (((([108,97,109,112,32]++a.1.Name)++[32,111,110,32])++a.1.Line)++[32,97,116,32])+x2.1.length) (some (((((([108,97,109,112,32]++a.1.Name)++[32,111,110,32])++a.1.Line)++[32,97,116,32])++x2.1),())))))))))
theorem ok191{f192 f21 f55 f54} :N192 f192->N21 f21->N55 f55->N54 f54->N191 (F191 f192 f21 f55 f54):=λa b c d=>fk0 (.cons a (.cons b (.cons c (.cons d .nil)))) func191
abbrev N101(f:T243):=OKP 101 (mkE p268 r243 false f)
def F101(f10:T10)(f189:T144)(f191:T77)(f100:T149)(f99:T144):T243:=λa=>
 (f10 (a.1,[32],())).bind λx1=>(λj2:Option (Device×Bool×Unit)=>(λj3:Option (Device×Bool×Unit)=>(λj1:Option (Device×Bool×Unit)=>cond ((Int.ofNat x1.1.length)=4) (rdL x1.1 0 λ_=>(x1.1[(Int.toNat 0)]?).bind λx2=>cond (x2=[112,117,109,112]) (rdL x1.1 3 λ_=>(x1.1[(Int.toNat 3)]?).bind λx3=>(f189 (x3,())).bind λx4=>rdL x1.1 1 λ_=>(x1.1[(Int.toNat 1)]?).bind λx5=>cond (!(a.1=[])) ((f191 ((⟨x5,1,[],⟨0,0⟩,0,0,x4.1⟩:Device),())).bind λx6=>cond (!(x6.1=a.1)) (some ((⟨[],0,[],⟨0,0⟩,0,0,0⟩:Device),false,())) (some ((⟨x5,1,[],⟨0,0⟩,0,0,x4.1⟩:Device),true,()))) (some ((⟨[],0,[],⟨0,0⟩,0,0,0⟩:Device),false,()))) (cond ((Int.ofNat x1.1.length)=12) (rdL x1.1 0 λ_=>(x1.1[(Int.toNat 0)]?).bind λx3=>cond (x3=[110,111,122,122,108,101]) (rdL x1.1 5 λ_=>(x1.1[(Int.toNat 5)]?).bind λx4=>(f100 (x4,())).bind λx5=>rdL x1.1 7 λ_=>(x1.1[(Int.toNat 7)]?).bind λx6=>(f99 (x6,())).bind λx7=>rdL x1.1 9 λ_=>(x1.1[(Int.toNat 9)]?).bind λx8=>(f189 (x8,())).bind λx9=>rdL x1.1 11 λ_=>(x1.1[(Int.toNat 11)]?).bind λx10=>(f189 (x10,())).bind λx11=>rdL x1.1 1 λ_=>(x1.1[(Int.toNat 1)]?).bind λx12=>rdL x1.1 3 λ_=>(x1.1[(Int.toNat 3)]?).bind λx13=>cond (!(a.1=[])) ((f191 ((⟨x12,2,x13,⟨x5.1.X,x5.1.Y⟩,x7.1,x9.1,x11.1⟩:Device),())).bind λx14=>cond (!(x14.1=a.1)) (some ((⟨[],0,[],⟨0,0⟩,0,0,0⟩:Device),false,())) (some ((⟨x12,2,x13,⟨x5.1.X,x5.1.Y⟩,x7.1,x9.1,x11.1⟩:Device),true,()))) (some ((⟨[],0,[],⟨0,0⟩,0,0,0⟩:Device),false,()))) (cond ((Int.ofNat x1.1.length)=6) (rdL x1.1 0 λ_=>(x1.1[(Int.toNat 0)]?).bind λx4=>cond (x4=[108,97,109,112]) (rdL x1.1 5 λ_=>(x1.1[(Int.toNat 5)]?).bind λx5=>(f100 (x5,())).bind λx6=>rdL x1.1 1 λ_=>(x1.1[(Int.toNat 1)]?).bind λx7=>rdL x1.1 3 λ_=>(x1.1[(Int.toNat 3)]?).bind λx8=>cond (!(a.1=[])) ((f191 ((⟨x7,3,x8,⟨x6.1.X,x6.1.Y⟩,0,0,0⟩:Device),())).bind λx9=>cond (!(x9.1=a.1)) (some ((⟨[],0,[],⟨0,0⟩,0,0,0⟩:Device),false,())) (some ((⟨x7,3,x8,⟨x6.1.X,x6.1.Y⟩,0,0,0⟩:Device),true,()))) (some ((⟨[],0,[],⟨0,0⟩,0,0,0⟩:Device),false,()))) (cond (!(a.1=[])) ((f191 ((⟨[],0,[],⟨0,0⟩,0,0,0⟩:Device),())).bind λx5=>cond (!(x5.1=a.1)) (some ((⟨[],0,[],⟨0,0⟩,0,0,0⟩:Device),false,())) (some ((⟨[],0,[],⟨0,0⟩,0,0,0⟩:Device),true,()))) (some ((⟨[],0,[],⟨0,0⟩,0,0,0⟩:Device),false,())))) j2)) j1)) (cond ((Int.ofNat x1.1.length)=12) (rdL x1.1 0 λ_=>(x1.1[(Int.toNat 0)]?).bind λx2=>cond (x2=[110,111,122,122,108,101]) (rdL x1.1 5 λ_=>(x1.1[(Int.toNat 5)]?).bind λx3=>(f100 (x3,())).bind λx4=>rdL x1.1 7 λ_=>(x1.1[(Int.toNat 7)]?).bind λx5=>(f99 (x5,())).bind λx6=>rdL x1.1 9 λ_=>(x1.1[(Int.toNat 9)]?).bind λx7=>(f189 (x7,())).bind λx8=>rdL x1.1 11 λ_=>(x1.1[(Int.toNat 11)]?).bind λx9=>(f189 (x9,())).bind λx10=>rdL x1.1 1 λ_=>(x1.1[(Int.toNat 1)]?).bind λx11=>rdL x1.1 3 λ_=>(x1.1[(Int.toNat 3)]?).bind λx12=>cond (!(a.1=[])) ((f191 ((⟨x11,2,x12,⟨x4.1.X,x4.1.Y⟩,x6.1,x8.1,x10.1⟩:Device),())).bind λx13=>cond (!(x13.1=a.1)) (some ((⟨[],0,[],⟨0,0⟩,0,0,0⟩:Device),false,())) (some ((⟨x11,2,x12,⟨x4.1.X,x4.1.Y⟩,x6.1,x8.1,x10.1⟩:Device),true,()))) (some ((⟨[],0,[],⟨0,0⟩,0,0,0⟩:Device),false,()))) j1) (cond ((Int.ofNat x1.1.length)=6) (rdL x1.1 0 λ_=>(x1.1[(Int.toNat 0)]?).bind λx2=>cond (x2=[108,97,109,112]) (rdL x1.1 5 λ_=>(x1.1[(Int.toNat 5)]?).bind λx3=>(f100 (x3,())).bind λx4=>rdL x1.1 1 λ_=>(x1.1[(Int.toNat 1)]?).bind λx5=>rdL x1.1 3 λ_=>(x1.1[(Int.toNat 3)]?).bind λx6=>cond (!(a.1=[])) ((f191 ((⟨x5,3,x6,⟨x4.1.X,x4.1.Y⟩,0,0,0⟩:Device),())).bind λx7=>cond (!(x7.1=a.1)) (some ((⟨[],0,[],⟨0,0⟩,0,0,0⟩:Device),false,())) (some ((⟨x5,3,x6,⟨x4.1.X,x4.1.Y⟩,0,0,0⟩:Device),true,()))) (some ((⟨[],0,[],⟨0,0⟩,0,0,0⟩:Device),false,()))) j3) (cond (!(a.1=[])) ((f191 ((⟨[],0,[],⟨0,0⟩,0,0,0⟩:Device),())).bind λx2=>cond (!(x2.1=a.1)) (some ((⟨[],0,[],⟨0,0⟩,0,0,0⟩:Device),false,())) (some ((⟨[],0,[],⟨0,0⟩,0,0,0⟩:Device),true,()))) (some ((⟨[],0,[],⟨0,0⟩,0,0,0⟩:Device),false,())))))) (cond ((Int.ofNat x1.1.length)=6) (rdL x1.1 0 λ_=>(x1.1[(Int.toNat 0)]?).bind λx3=>cond (x3=[108,97,109,112]) (rdL x1.1 5 λ_=>(x1.1[(Int.toNat 5)]?).bind λx4=>(f100 (x4,())).bind λx5=>rdL x1.1 1 λ_=>(x1.1[(Int.toNat 1)]?).bind λx6=>rdL x1.1 3 λ_=>(x1.1[(Int.toNat 3)]?).bind λx7=>cond (!(a.1=[])) ((f191 ((⟨x6,3,x7,⟨x5.1.X,x5.1.Y⟩,0,0,0⟩:Device),())).bind λx8=>cond (!(x8.1=a.1)) (some ((⟨[],0,[],⟨0,0⟩,0,0,0⟩:Device),false,())) (some ((⟨x6,3,x7,⟨x5.1.X,x5.1.Y⟩,0,0,0⟩:Device),true,()))) (some ((⟨[],0,[],⟨0,0⟩,0,0,0⟩:Device),false,()))) j2) j3)) (cond (!(a.1=[])) ((f191 ((⟨[],0,[],⟨0,0⟩,0,0,0⟩:Device),())).bind λx3=>cond (!(x3.1=a.1)) (some ((⟨[],0,[],⟨0,0⟩,0,0,0⟩:Device),false,())) (some ((⟨[],0,[],⟨0,0⟩,0,0,0⟩:Device),true,()))) (some ((⟨[],0,[],⟨0,0⟩,0,0,0⟩:Device),false,())))) (cond (!(a.1=[])) ((f191 ((⟨[],0,[],⟨0,0⟩,0,0,0⟩:Device),())).bind λx4=>cond (!(x4.1=a.1)) (some ((⟨[],0,[],⟨0,0⟩,0,0,0⟩:Device),false,())) (some ((⟨[],0,[],⟨0,0⟩,0,0,0⟩:Device),true,()))) (some ((⟨[],0,[],⟨0,0⟩,0,0,0⟩:Device),false,())))
theorem ok101{f10 f189 f191 f100 f99} :N10 f10->N189 f189->N191 f191->N100 f100->N99 f99->N101 (F101 f10 f189 f191 f100 f99):=λa b c d e=>fk0 (.cons a (.cons b (.cons c (.cons d (.cons e .nil))))) func101
abbrev N198(f:T80):=OKP 198 (mkE p171 p268 false f)
def F198(f199:T171)(f54:T54)(f21:T21):T80:=λa=>
 (f199 (a.1,())).bind λx1=>cond (!x1.1) (some ([],())) ((f54 (a.1.Tick,())).bind λx2=>capK (x2.1.length+List.length [32]) (capK (List.length (x2.1++[32])+List.length a.1.Name) (capK (List.length ((x2.1++[32])++a.1.Name)+List.length [32]) ((f21 (a.1.Level,())).bind λx3=>capK (List.length (((x2.1++[32])++a.1.Name)++[32])+x3.1.length) (cond (!(a.1.Ramp=0)) ((f54 (a.1.Ramp,())).bind λx4=>capK (List.length [32,105,110,32]+x4.1.length) (capK (List.length ((((x2.1++[32])++a.1.Name)++[32])++x3.1)+List.length ([32,105,110,32]++x4.1)) (some ((((((x2.1++[32])++a.1.Name)++[32])++x3.1)++([32,105,110,32]++x4.1)),())))) (some (((((x2.1++[32])++a.1.Name)++[32])++x3.1),())))))))
theorem ok198{f199 f54 f21} :N199 f199->N54 f54->N21 f21->N198 (F198 f199 f54 f21):=λa b c=>fk0 (.cons a (.cons b (.cons c .nil))) func198
abbrev N104(f:T245):=OKP 104 (mkE p268 r245 false f)
def F104(f10:T10)(f99:T144)(f189:T144)(f198:T80):T245:=λa=>
 (f10 (a.1,[32],())).bind λx1=>(λj1:Option (Cue×Bool×Unit)=>cond (!((Int.ofNat x1.1.length)=3)) (cond (!((Int.ofNat x1.1.length)=5)) (some ((⟨0,[],0,0⟩:Cue),false,())) j1) j1) (rdL x1.1 0 λ_=>(x1.1[(Int.toNat 0)]?).bind λx2=>(f99 (x2,())).bind λx3=>rdL x1.1 2 λ_=>(x1.1[(Int.toNat 2)]?).bind λx4=>(f189 (x4,())).bind λx5=>cond ((Int.ofNat x1.1.length)=5) (rdL x1.1 4 λ_=>(x1.1[(Int.toNat 4)]?).bind λx6=>(f99 (x6,())).bind λx7=>rdL x1.1 1 λ_=>(x1.1[(Int.toNat 1)]?).bind λx8=>cond (!(!x3.2.1)) (cond (!(!x5.2.1)) (cond (!(!x7.2.1)) ((f198 ((⟨x3.1,x8,x5.1,x7.1⟩:Cue),())).bind λx9=>cond (!(x9.1=a.1)) (some ((⟨0,[],0,0⟩:Cue),false,())) (some ((⟨x3.1,x8,x5.1,x7.1⟩:Cue),true,()))) (some ((⟨0,[],0,0⟩:Cue),false,()))) (some ((⟨0,[],0,0⟩:Cue),false,()))) (some ((⟨0,[],0,0⟩:Cue),false,()))) (rdL x1.1 1 λ_=>(x1.1[(Int.toNat 1)]?).bind λx6=>cond (!(!x3.2.1)) (cond (!(!x5.2.1)) ((f198 ((⟨x3.1,x6,x5.1,0⟩:Cue),())).bind λx7=>cond (!(x7.1=a.1)) (some ((⟨0,[],0,0⟩:Cue),false,())) (some ((⟨x3.1,x6,x5.1,0⟩:Cue),true,()))) (some ((⟨0,[],0,0⟩:Cue),false,()))) (some ((⟨0,[],0,0⟩:Cue),false,()))))
theorem ok104{f10 f99 f189 f198} :N10 f10->N99 f99->N189 f189->N198 f198->N104 (F104 f10 f99 f189 f198):=λa b c d=>fk0 (.cons a (.cons b (.cons c (.cons d .nil)))) func104
abbrev N291(f:T325):=OKP 291 (mkE p325 p181 false f)
def q291_0:List SP:=pat 27 0 [(1,.one (.int .i64)),(4,.boxt 5000001 .place),(5,.boxt 5000002 .place),(13,.one (.r .gust)),(14,.one (.int .i64)),(15,.one (.int .i64))]
def s291_0(f120:T232):Lp (Int×Place×Place×List Gust×Int×Int×Unit) (Place×Unit):=λt2 rec K=>
 cond (t2.2.2.2.2.2.1<t2.2.2.2.2.1) (rdL t2.2.2.2.1 t2.2.2.2.2.2.1 λx1=>cond (x1.From<=t2.1) (rec (t2.1,t2.2.1,x1.Drift,t2.2.2.2.1,t2.2.2.2.2.1,(w64 (t2.2.2.2.2.2.1+1)),())) (rec (t2.1,t2.2.1,t2.2.2.1,t2.2.2.2.1,t2.2.2.2.2.1,(w64 (t2.2.2.2.2.2.1+1)),()))) (K t2)
def F291(f120:T232):T325:=λa=>
 (f120 (a.1,())).bind λx1=>cond (!x1.1) (some ((⟨0,0⟩:Place),())) (ZAD (s291_0 f120) fuel (a.2.1,(⟨0,0⟩:Place),(⟨0,0⟩:Place),a.1,(Int.ofNat a.1.length),0,()) λx2=>some (x2.2.2.1,()))
theorem ok291{f120} :N120 f120->N291 (F291 f120):=λa=>fk (ps:=p325) (rs:=p181) (L:=lenv [(0,ZAI q291_0 (s291_0 f120))]) (ls:=[(0,ZAJ f291 0)]) (.cons a .nil) func291 (.cons q291_0 (s291_0 f120) rfl (λ_ _ _ _=>by kernel_rfl) .nil)
abbrev N204(f:T328):=OKP 204 (mkE p325 r326 false f)
def q204_0:List SP:=pat 30 0 [(1,.one (.int .i64)),(5,.one (.o 5000001 .gust)),(14,.one (.r .gust)),(15,.one (.int .i64)),(16,.one (.int .i64))]
def s204_0(f291:T325):Lp (Int×List Gust×List Gust×Int×Int×Unit) (List Gust×Unit):=λt2 rec K=>
 cond (t2.2.2.2.2.1<t2.2.2.2.1) (rdL t2.2.2.1 t2.2.2.2.2.1 λx1=>cond (x1.From>t2.1) (capK (t2.2.1.length+List.length ([x1]:List Gust)) (rec (t2.1,(t2.2.1++([x1]:List Gust)),t2.2.2.1,t2.2.2.2.1,(w64 (t2.2.2.2.2.1+1)),()))) (rec (t2.1,t2.2.1,t2.2.2.1,t2.2.2.2.1,(w64 (t2.2.2.2.2.1+1)),()))) (K t2)
def F204(f291:T325):T328:=λa=>
 (f291 a).bind λx1=>ZAD (s204_0 f291) fuel (a.2.1,([(⟨a.2.1,⟨x1.1.X,x1.1.Y⟩⟩:Gust)]:List Gust),a.1,(Int.ofNat a.1.length),0,()) λx2=>some (x2.2.1,())
theorem ok204{f291} :N291 f291->N204 (F204 f291):=λa=>fk (ps:=p325) (rs:=r326) (L:=lenv [(0,ZAI q204_0 (s204_0 f291))]) (ls:=[(0,ZAJ f204 0)]) (.cons a .nil) func204 (.cons q204_0 (s204_0 f291) rfl (λ_ _ _ _=>by kernel_rfl) .nil)
abbrev N203(f:T186):=OKP 203 (mkE p232 r326 false f)
def q203_0:List SP:=pat 27 0 [(3,.one (.o 5000001 .gust)),(4,.boxt 5000002 .place),(9,.one (.r .gust)),(10,.one (.int .i64)),(11,.one (.int .i64))]
def s203_0:Lp (List Gust×Place×List Gust×Int×Int×Unit) (List Gust×Unit):=λt1 rec K=>
 cond (t1.2.2.2.2.1<t1.2.2.2.1) (rdL t1.2.2.1 t1.2.2.2.2.1 λx1=>cond (!(decide (x1.Drift.X=t1.2.1.X) && (decide (x1.Drift.Y=t1.2.1.Y) && true))) (capK (t1.1.length+List.length ([x1]:List Gust)) (rec ((t1.1++([x1]:List Gust)),x1.Drift,t1.2.2.1,t1.2.2.2.1,(w64 (t1.2.2.2.2.1+1)),()))) (rec (t1.1,t1.2.1,t1.2.2.1,t1.2.2.2.1,(w64 (t1.2.2.2.2.1+1)),()))) (K t1)
def F203:T186:=λa=>
 ZAD (s203_0) fuel (([]:List Gust),(⟨0,0⟩:Place),a.1,(Int.ofNat a.1.length),0,()) λx1=>some (x1.1,())
theorem ok203:N203 (F203):=fk (ps:=p232) (rs:=r326) (L:=lenv [(0,ZAI q203_0 (s203_0))]) (ls:=[(0,ZAJ f203 0)]) .nil func203 (.cons q203_0 (s203_0) rfl (λ_ _ _ _=>by kernel_rfl) .nil)
abbrev N106(f:T251):=OKP 106 (mkE p251 r251 false f)
def q106_0:List SP:=pat 52 0 [(1,.one (.r .gust)),(2,.one (.int .i64)),(8,.one (.o 5000001 .gust)),(26,.one (.r .gust)),(27,.one (.int .i64)),(28,.one (.int .i64))]
def s106_0(f120:T232)(f121:T233)(f204:T328)(f203:T186):Lp (List Gust×Int×List Gust×List Gust×Int×Int×Unit) (List Gust×Bool×Unit):=λt4 rec K=>
 cond (t4.2.2.2.2.2.1<t4.2.2.2.2.1) (rdL t4.2.2.2.1 t4.2.2.2.2.2.1 λx1=>cond (x1.From<t4.2.1) (capK (t4.2.2.1.length+List.length ([x1]:List Gust)) (rec (t4.1,t4.2.1,(t4.2.2.1++([x1]:List Gust)),t4.2.2.2.1,t4.2.2.2.2.1,(w64 (t4.2.2.2.2.2.1+1)),()))) (rec (t4.1,t4.2.1,t4.2.2.1,t4.2.2.2.1,t4.2.2.2.2.1,(w64 (t4.2.2.2.2.2.1+1)),()))) (K t4)
def F106(f120:T232)(f121:T233)(f204:T328)(f203:T186):T251:=λa=>
 (f120 (a.1,())).bind λx1=>cond (!(!x1.1)) ((f120 (a.2.1,())).bind λx2=>cond (!(!x2.1)) ((f121 (a.2.2.1,0,64,())).bind λx3=>cond (!x3.1) (some (([]:List Gust),false,())) (ZAD (s106_0 f120 f121 f204 f203) fuel (a.2.1,a.2.2.1,([]:List Gust),a.1,(Int.ofNat a.1.length),0,()) λx4=>(f204 (x4.1,x4.2.1,())).bind λx5=>capK (x4.2.2.1.length+x5.1.length) ((f203 ((x4.2.2.1++x5.1),())).bind λx6=>cond ((Int.ofNat x6.1.length)>8) (some (([]:List Gust),false,())) (some (x6.1,true,()))))) (some (([]:List Gust),false,()))) (some (([]:List Gust),false,()))
theorem ok106{f120 f121 f204 f203} :N120 f120->N121 f121->N204 f204->N203 f203->N106 (F106 f120 f121 f204 f203):=λa b c d=>fk (ps:=p251) (rs:=r251) (L:=lenv [(0,ZAI q106_0 (s106_0 f120 f121 f204 f203))]) (ls:=[(0,ZAJ f106 0)]) (.cons a (.cons b (.cons c (.cons d .nil)))) func106 (.cons q106_0 (s106_0 f120 f121 f204 f203) rfl (λ_ _ _ _=>by kernel_rfl) .nil)
abbrev N304(f:T371):=OKP 304 (mkE p269 p269 false f)
def F304:T371:=λa=>
 some ((Int.tmod (w64 ((Int.tmod a.1 4)+4)) 4),())
theorem ok304:N304 (F304):=fk0 .nil func304
abbrev N220(f:T355):=OKP 220 (mkE p355 p181 false f)
def q220_0:List SP:=pat 17 0 [(2,.boxt 5000001 .place),(4,.boxt 5000002 .place),(6,.one (.int .i64)),(7,.one (.int .i64))]
def s220_0(f304:T371):Lp (Place×Place×Int×Int×Unit) (Place×Unit):=λt2 rec K=>
 cond (t2.2.2.2.1<t2.2.2.1) (rec ((⟨(w64 (0-t2.1.Y)),t2.1.X⟩:Place),t2.2.1,t2.2.2.1,(w64 (t2.2.2.2.1+1)),())) (K t2)
def F220(f304:T371):T355:=λa=>
 (f304 (a.2.1,())).bind λx1=>ZAD (s220_0 f304) fuel (a.1,(⟨0,0⟩:Place),x1.1,0,()) λx2=>some (x2.1,())
theorem ok220{f304} :N304 f304->N220 (F220 f304):=λa=>fk (ps:=p355) (rs:=p181) (L:=lenv [(0,ZAI q220_0 (s220_0 f304))]) (ls:=[(0,ZAJ f220 0)]) (.cons a .nil) func220 (.cons q220_0 (s220_0 f304) rfl (λ_ _ _ _=>by kernel_rfl) .nil)
abbrev N292(f:T358):=OKP 292 (mkE p358 p269 false f)
def F292(f219:T269)(f304:T371):T358:=λa=>
 (f219 (a.1,())).bind λx1=>cond (!x1.1) (some (0,())) ((f304 (a.2.1,())).bind λx2=>some ((Int.tmod (w64 (a.1+x2.1)) 4),()))
theorem ok292{f219 f304} :N219 f219->N304 f304->N292 (F292 f219 f304):=λa b=>fk0 (.cons a (.cons b .nil)) func292
abbrev N205(f:T327):=OKP 205 (mkE p327 r228 false f)
def q205_0:List SP:=pat 38 0 [(1,.one (.int .i64)),(5,.one (.o 5000001 .device)),(13,.one (.r .device)),(14,.one (.int .i64)),(15,.one (.int .i64))]
def s205_0(f118:T230)(f220:T355)(f292:T358):Lp (Int×List Device×List Device×Int×Int×Unit) (List Device×Unit):=λt2 rec K=>
 cond (t2.2.2.2.2.1<t2.2.2.2.1) (rdL t2.2.2.1 t2.2.2.2.2.1 λx1=>(f220 (x1.At,t2.1,())).bind λx2=>cond (x1.Kind=2) ((f292 (x1.Heading,t2.1,())).bind λx3=>capK (t2.2.1.length+List.length ([(⟨x1.Name,x1.Kind,x1.Line,⟨x2.1.X,x2.1.Y⟩,x3.1,x1.Tilt,x1.Most⟩:Device)]:List Device)) (rec (t2.1,(t2.2.1++([(⟨x1.Name,x1.Kind,x1.Line,⟨x2.1.X,x2.1.Y⟩,x3.1,x1.Tilt,x1.Most⟩:Device)]:List Device)),t2.2.2.1,t2.2.2.2.1,(w64 (t2.2.2.2.2.1+1)),()))) (capK (t2.2.1.length+List.length ([(⟨x1.Name,x1.Kind,x1.Line,⟨x2.1.X,x2.1.Y⟩,x1.Heading,x1.Tilt,x1.Most⟩:Device)]:List Device)) (rec (t2.1,(t2.2.1++([(⟨x1.Name,x1.Kind,x1.Line,⟨x2.1.X,x2.1.Y⟩,x1.Heading,x1.Tilt,x1.Most⟩:Device)]:List Device)),t2.2.2.1,t2.2.2.2.1,(w64 (t2.2.2.2.2.1+1)),())))) (K t2)
def F205(f118:T230)(f220:T355)(f292:T358):T327:=λa=>
 (f118 (a.1,())).bind λx1=>cond (!x1.1) (some (([]:List Device),())) (ZAD (s205_0 f118 f220 f292) fuel (a.2.1,([]:List Device),a.1,(Int.ofNat a.1.length),0,()) λx2=>some (x2.2.1,()))
theorem ok205{f118 f220 f292} :N118 f118->N220 f220->N292 f292->N205 (F205 f118 f220 f292):=λa b c=>fk (ps:=p327) (rs:=r228) (L:=lenv [(0,ZAI q205_0 (s205_0 f118 f220 f292))]) (ls:=[(0,ZAJ f205 0)]) (.cons a (.cons b (.cons c .nil))) func205 (.cons q205_0 (s205_0 f118 f220 f292) rfl (λ_ _ _ _=>by kernel_rfl) .nil)
abbrev N206(f:T328):=OKP 206 (mkE p325 r326 false f)
def q206_0:List SP:=pat 31 0 [(1,.one (.int .i64)),(5,.one (.o 5000001 .gust)),(13,.one (.r .gust)),(14,.one (.int .i64)),(15,.one (.int .i64))]
def s206_0(f120:T232)(f220:T355):Lp (Int×List Gust×List Gust×Int×Int×Unit) (List Gust×Unit):=λt2 rec K=>
 cond (t2.2.2.2.2.1<t2.2.2.2.1) (rdL t2.2.2.1 t2.2.2.2.2.1 λx1=>(f220 (x1.Drift,t2.1,())).bind λx2=>capK (t2.2.1.length+List.length ([(⟨x1.From,⟨x2.1.X,x2.1.Y⟩⟩:Gust)]:List Gust)) (rec (t2.1,(t2.2.1++([(⟨x1.From,⟨x2.1.X,x2.1.Y⟩⟩:Gust)]:List Gust)),t2.2.2.1,t2.2.2.2.1,(w64 (t2.2.2.2.2.1+1)),()))) (K t2)
def F206(f120:T232)(f220:T355):T328:=λa=>
 (f120 (a.1,())).bind λx1=>cond (!x1.1) (some (([]:List Gust),())) (ZAD (s206_0 f120 f220) fuel (a.2.1,([]:List Gust),a.1,(Int.ofNat a.1.length),0,()) λx2=>some (x2.2.1,()))
theorem ok206{f120 f220} :N120 f120->N220 f220->N206 (F206 f120 f220):=λa b=>fk (ps:=p325) (rs:=r326) (L:=lenv [(0,ZAI q206_0 (s206_0 f120 f220))]) (ls:=[(0,ZAJ f206 0)]) (.cons a (.cons b .nil)) func206 (.cons q206_0 (s206_0 f120 f220) rfl (λ_ _ _ _=>by kernel_rfl) .nil)
abbrev N107(f:T252):=OKP 107 (mkE p329 r139 false f)
def F107(f50:T50)(f205:T327)(f185:T229)(f206:T328):T252:=λa=>
 (f50 (a.1,())).bind λx1=>cond (!x1.1) (some (([],[],[],0,()),())) ((f205 (a.1.1,a.2.1,())).bind λx2=>(f185 (a.1.2.1,())).bind λx3=>(f206 (a.1.2.2.1,a.2.1,())).bind λx4=>some ((x2.1,x3.1,x4.1,a.1.2.2.2.1,()),()))
theorem ok107{f50 f205 f185 f206} :N50 f50->N205 f205->N185 f185->N206 f206->N107 (F107 f50 f205 f185 f206):=λa b c d=>fk0 (.cons a (.cons b (.cons c (.cons d .nil)))) func107
abbrev T343:=Place×Unit->Option (Place×Bool×Unit)
abbrev N343(f:T343):=OKP 343 (mkE p181 r356 false f)
def F343(f124:T181):T343:=λa=>
 (f124 (a.1,())).bind λx1=>cond (!x1.1) (some ((⟨0,0⟩:Place),false,())) (some (a.1,true,()))
theorem ok343{f124} :N124 f124->N343 (F343 f124):=λa=>fk0 (.cons a .nil) func343
abbrev T293:=Place×Place×Unit->Option (Place×Bool×Unit)
abbrev N293(f:T293):=OKP 293 (mkE p235 r356 false f)
def F293(f124:T181)(f343:T343):T293:=λa=>
 (f124 (a.1,())).bind λx1=>cond (!(!x1.1)) ((f124 (a.2.1,())).bind λx2=>cond (!x2.1) (some ((⟨0,0⟩:Place),false,())) ((f343 ((⟨(w64 (a.1.X+a.2.1.X)),(w64 (a.1.Y+a.2.1.Y))⟩:Place),())).bind λx3=>some x3)) (some ((⟨0,0⟩:Place),false,()))
theorem ok293{f124 f343} :N124 f124->N343 f343->N293 (F293 f124 f343):=λa b=>fk0 (.cons a (.cons b .nil)) func293
abbrev N207(f:T330):=OKP 207 (mkE p330 r167 false f)
def q207_0:List SP:=pat 57 0 [(3,.boxt 5000001 .place),(6,.one (.o 5000002 .device)),(22,.one (.al 5000002 .device)),(23,.one (.int .i64)),(24,.one (.int .i64))]
def s207_0(f118:T230)(f124:T181)(f184:T228)(f293:T293)(f192:T270):Lp (Place×List Device×Unit×Int×Int×Unit) (List Device×Bool×Unit):=λt4 rec K=>
 cond (t4.2.2.2.2.1<t4.2.2.2.1) (rdL t4.2.1 t4.2.2.2.2.1 λ_=>(t4.2.1[(Int.toNat t4.2.2.2.2.1)]?).bind λx1=>cond (x1.Kind=1) (rec (t4.1,t4.2.1,(),t4.2.2.2.1,(w64 (t4.2.2.2.2.1+1)),())) ((f293 (x1.At,t4.1,())).bind λx2=>rdL t4.2.1 t4.2.2.2.2.1 λ_=>(t4.2.1[(Int.toNat t4.2.2.2.2.1)]?).bind λx3=>cond (!(!x2.2.1)) (rdL (List.set t4.2.1 (Int.toNat t4.2.2.2.2.1) (⟨x3.Name,x3.Kind,x3.Line,⟨x2.1.X,x2.1.Y⟩,x3.Heading,x3.Tilt,x3.Most⟩:Device)) t4.2.2.2.2.1 λ_=>((List.set t4.2.1 (Int.toNat t4.2.2.2.2.1) (⟨x3.Name,x3.Kind,x3.Line,⟨x2.1.X,x2.1.Y⟩,x3.Heading,x3.Tilt,x3.Most⟩:Device))[(Int.toNat t4.2.2.2.2.1)]?).bind λx4=>(f192 (x4,())).bind λx5=>cond (!x5.1) (some (([]:List Device),false,())) (rec (t4.1,(List.set t4.2.1 (Int.toNat t4.2.2.2.2.1) (⟨x3.Name,x3.Kind,x3.Line,⟨x2.1.X,x2.1.Y⟩,x3.Heading,x3.Tilt,x3.Most⟩:Device)),(),t4.2.2.2.1,(w64 (t4.2.2.2.2.1+1)),()))) (some (([]:List Device),false,())))) (K (t4.1,t4.2.1,(),t4.2.2.2.1,t4.2.2.2.2.1,()))
def F207(f118:T230)(f124:T181)(f184:T228)(f293:T293)(f192:T270):T330:=λa=>
 (f118 (a.1,())).bind λx1=>cond (!(!x1.1)) ((f124 (a.2.1,())).bind λx2=>cond (!x2.1) (some (([]:List Device),false,())) ((f184 (a.1,())).bind λx3=>ZAD (s207_0 f118 f124 f184 f293 f192) fuel (a.2.1,x3.1,(),(Int.ofNat x3.1.length),0,()) λx4=>some (x4.2.1,true,()))) (some (([]:List Device),false,()))
theorem ok207{f118 f124 f184 f293 f192} :N118 f118->N124 f124->N184 f184->N293 f293->N192 f192->N207 (F207 f118 f124 f184 f293 f192):=λa b c d e=>fk (ps:=p330) (rs:=r167) (L:=lenv [(0,ZAI q207_0 (s207_0 f118 f124 f184 f293 f192))]) (ls:=[(0,ZAJ f207 0)]) (.cons a (.cons b (.cons c (.cons d (.cons e .nil))))) func207 (.cons q207_0 (s207_0 f118 f124 f184 f293 f192) rfl (λ_ _ _ _=>by kernel_rfl) .nil)
abbrev N108(f:T258):=OKP 108 (mkE p258 r236 false f)
def F108(f207:T330)(f50:T50)(f94:T139):T258:=λa=>
 (f207 (a.1.1,a.2.1,())).bind λx1=>(f50 (a.1,())).bind λx2=>cond (!(!x2.1)) (cond (!x1.2.1) (some (([],[],[],0,()),false,())) ((f94 (a.1,())).bind λx3=>some ((x1.1,x3.1.2.1,x3.1.2.2.1,x3.1.2.2.2.1,()),true,()))) (some (([],[],[],0,()),false,()))
theorem ok108{f207 f50 f94} :N207 f207->N50 f50->N94 f94->N108 (F108 f207 f50 f94):=λa b c=>fk0 (.cons a (.cons b (.cons c .nil))) func108
abbrev N126(f:T311):=OKP 126 (mkE p331 p269 false f)
def F126(f218:T331):T311:=λa=>
 (f218 (a.1,())).bind λx1=>cond (!x1.1) (some (0,())) (some ((w64 (a.1.Lift+1)),()))
theorem ok126{f218} :N218 f218->N126 (F126 f218):=λa=>fk0 (.cons a .nil) func126
abbrev T225:=Jet×Int×Unit->Option (Bool×Unit)
abbrev N225(f:T225):=OKP 225 (mkE p351 r268 false f)
def F225(f218:T331)(f126:T311)(f121:T233):T225:=λa=>
 (f218 (a.1,())).bind λx1=>cond x1.1 ((f126 (a.1,())).bind λx2=>(f121 (a.2.1,0,x2.1,())).bind λx3=>some (x3.1,())) (some (false,()))
theorem ok225{f218 f126 f121} :N218 f218->N126 f126->N121 f121->N225 (F225 f218 f126 f121):=λa b c=>fk0 (.cons a (.cons b (.cons c .nil))) func225
def p303:List SP:=[.t .place,.one (.int .i64),.one (.int .i64)]
abbrev T303:=Place×Int×Int×Unit->Option (Place×Bool×Unit)
abbrev N303(f:T303):=OKP 303 (mkE p303 r356 false f)
def F303(f124:T181)(f219:T269)(f57:T57)(f220:T355)(f343:T343):T303:=λa=>
 (f124 (a.1,())).bind λx1=>cond (!(!x1.1)) ((f219 (a.2.1,())).bind λx2=>cond (!(!x2.1)) ((f57 (a.2.2.1,())).bind λx3=>cond (!x3.1) (some ((⟨0,0⟩:Place),false,())) ((f220 ((⟨a.2.2.1,0⟩:Place),a.2.1,())).bind λx4=>(f343 ((⟨(w64 (a.1.X+x4.1.X)),(w64 (a.1.Y+x4.1.Y))⟩:Place),())).bind λx5=>some x5)) (some ((⟨0,0⟩:Place),false,()))) (some ((⟨0,0⟩:Place),false,()))
theorem ok303{f124 f219 f57 f220 f343} :N124 f124->N219 f219->N57 f57->N220 f220->N343 f343->N303 (F303 f124 f219 f57 f220 f343):=λa b c d e=>fk0 (.cons a (.cons b (.cons c (.cons d (.cons e .nil))))) func303
abbrev N217(f:T356):=OKP 217 (mkE p351 r356 false f)
def F217(f225:T225)(f303:T303):T356:=λa=>
 (f225 a).bind λx1=>cond (!x1.1) (some ((⟨0,0⟩:Place),false,())) ((f303 (a.1.At,a.1.Heading,(w64 (a.2.1*a.1.Tilt)),())).bind λx2=>some x2)
theorem ok217{f225 f303} :N225 f225->N303 f303->N217 (F217 f225 f303):=λa b=>fk0 (.cons a (.cons b .nil)) func217
abbrev N125(f:T316):=OKP 125 (mkE p331 r356 false f)
def F125(f126:T311)(f217:T356):T316:=λa=>
 (f126 (a.1,())).bind λx1=>(f217 (a.1,x1.1,())).bind λx2=>some x2
theorem ok125{f126 f217} :N126 f126->N217 f217->N125 (F125 f126 f217):=λa b=>fk0 (.cons a (.cons b .nil)) func125
abbrev N214(f:T319):=OKP 214 (mkE p141 r319 false f)
def q214_0:List SP:=pat 58 0 [(2,.boxt 5000001 .box),(4,.boxt 5000002 .box),(18,.one (.r .place)),(19,.one (.int .i64)),(20,.one (.int .i64))]
def s214_0(f124:T181):Lp (Box×Box×List Place×Int×Int×Unit) (Box×Bool×Unit):=λt3 rec K=>
 cond (t3.2.2.2.2.1<t3.2.2.2.1) (rdL t3.2.2.1 t3.2.2.2.2.1 λx1=>(f124 (x1,())).bind λx2=>cond (!x2.1) (some ((⟨⟨0,0⟩,⟨0,0⟩⟩:Box),false,())) (rec (t3.1,(⟨⟨(mn t3.2.1.Low.X x1.X),(mn t3.2.1.Low.Y x1.Y)⟩,⟨(mx t3.2.1.High.X x1.X),(mx t3.2.1.High.Y x1.Y)⟩⟩:Box),t3.2.2.1,t3.2.2.2.1,(w64 (t3.2.2.2.2.1+1)),()))) (K t3)
def F214(f124:T181):T319:=λa=>
 cond ((Int.ofNat a.1.length)=0) (some ((⟨⟨0,0⟩,⟨0,0⟩⟩:Box),false,())) (rdL a.1 0 λx1=>rdL a.1 0 λx2=>ZAD (s214_0 f124) fuel ((⟨⟨0,0⟩,⟨0,0⟩⟩:Box),(⟨⟨x1.X,x1.Y⟩,⟨x2.X,x2.Y⟩⟩:Box),a.1,(Int.ofNat a.1.length),0,()) λx3=>some (x3.2.1,true,()))
theorem ok214{f124} :N124 f124->N214 (F214 f124):=λa=>fk (ps:=p141) (rs:=r319) (L:=lenv [(0,ZAI q214_0 (s214_0 f124))]) (ls:=[(0,ZAJ f214 0)]) (.cons a .nil) func214 (.cons q214_0 (s214_0 f124) rfl (λ_ _ _ _=>by kernel_rfl) .nil)
abbrev N301(f:T357):=OKP 301 (mkE p357 r319 false f)
def F301(f51:T51)(f121:T233)(f214:T319):T357:=λa=>
 (f51 (a.1,())).bind λx1=>cond (!(!x1.1)) ((f121 (a.2.1,0,128,())).bind λx2=>cond (!x2.1) (some ((⟨⟨0,0⟩,⟨0,0⟩⟩:Box),false,())) ((f214 (a.1,())).bind λx3=>some ((⟨⟨(w64 (a.2.1*x3.1.Low.X)),(w64 (a.2.1*x3.1.Low.Y))⟩,⟨(w64 (a.2.1*x3.1.High.X)),(w64 (a.2.1*x3.1.High.Y))⟩⟩:Box),true,()))) (some ((⟨⟨0,0⟩,⟨0,0⟩⟩:Box),false,()))
theorem ok301{f51 f121 f214} :N51 f51->N121 f121->N214 f214->N301 (F301 f51 f121 f214):=λa b c=>fk0 (.cons a (.cons b (.cons c .nil))) func301
abbrev N213(f:T318):=OKP 213 (mkE p318 r319 false f)
def F213(f125:T316)(f126:T311)(f301:T357):T318:=λa=>
 (f125 (a.1,())).bind λx1=>(f126 (a.1,())).bind λx2=>(f301 (a.2.1,x2.1,())).bind λx3=>cond (!(!x1.2.1)) (cond (!x3.2.1) (some ((⟨⟨0,0⟩,⟨0,0⟩⟩:Box),false,())) (some ((⟨⟨(w64 (x1.1.X+x3.1.Low.X)),(w64 (x1.1.Y+x3.1.Low.Y))⟩,⟨(w64 (x1.1.X+x3.1.High.X)),(w64 (x1.1.Y+x3.1.High.Y))⟩⟩:Box),true,()))) (some ((⟨⟨0,0⟩,⟨0,0⟩⟩:Box),false,()))
theorem ok213{f125 f126 f301} :N125 f125->N126 f126->N301 f301->N213 (F213 f125 f126 f301):=λa b c=>fk0 (.cons a (.cons b (.cons c .nil))) func213
abbrev N130(f:T320):=OKP 130 (mkE p320 r268 false f)
def F130(f52:T52)(f121:T233):T320:=λa=>
 (f52 (a.1,())).bind λx1=>cond x1.1 ((f121 (a.2.1.X,a.1.Low.X,a.1.High.X,())).bind λx2=>cond x2.1 ((f121 (a.2.1.Y,a.1.Low.Y,a.1.High.Y,())).bind λx3=>some (x3.1,())) (some (false,()))) (some (false,()))
theorem ok130{f52 f121} :N52 f52->N121 f121->N130 (F130 f52 f121):=λa b=>fk0 (.cons a (.cons b .nil)) func130
abbrev N294(f:T349):=OKP 294 (mkE p349 r268 false f)
def F294(f130:T320):T349:=λa=>
 (f130 (a.2.1,a.1.Low,())).bind λx1=>cond x1.1 ((f130 (a.2.1,a.1.High,())).bind λx2=>some (x2.1,())) (some (false,()))
theorem ok294{f130} :N130 f130->N294 (F294 f130):=λa=>fk0 (.cons a .nil) func294
abbrev N208(f:T308):=OKP 208 (mkE p308 p269 false f)
def q208_0:List SP:=pat 49 0 [(1,.one (.r .place)),(3,.boxt 5000001 .device),(5,.boxt 5000002 .box),(7,.one (.int .i64))]
def s208_0(f192:T270)(f213:T318)(f294:T349):Lp (List Place×Device×Box×Int×Unit) (Int×Unit):=λt2 rec K=>
 cond (t2.2.2.2.1<=t2.2.1.Most) ((f213 ((⟨⟨t2.2.1.At.X,t2.2.1.At.Y⟩,t2.2.1.Heading,t2.2.1.Tilt,t2.2.2.2.1⟩:Jet),t2.1,())).bind λx1=>cond (!(!x1.2.1)) ((f294 (x1.1,t2.2.2.1,())).bind λx2=>cond (!x2.1) (some ((w64 (t2.2.2.2.1-1)),())) (rec (t2.1,t2.2.1,t2.2.2.1,(w64 (t2.2.2.2.1+1)),()))) (some ((w64 (t2.2.2.2.1-1)),()))) (K t2)
def F208(f192:T270)(f213:T318)(f294:T349):T308:=λa=>
 (f192 (a.1,())).bind λx1=>cond (!(!x1.1)) (cond (!(a.1.Kind=2)) (some (0,())) (ZAD (s208_0 f192 f213 f294) fuel (a.2.1,a.1,a.2.2.1,1,()) λx2=>some (x2.2.1.Most,()))) (some (0,()))
theorem ok208{f192 f213 f294} :N192 f192->N213 f213->N294 f294->N208 (F208 f192 f213 f294):=λa b c=>fk (ps:=p308) (rs:=p269) (L:=lenv [(0,ZAI q208_0 (s208_0 f192 f213 f294))]) (ls:=[(0,ZAJ f208 0)]) (.cons a (.cons b (.cons c .nil))) func208 (.cons q208_0 (s208_0 f192 f213 f294) rfl (λ_ _ _ _=>by kernel_rfl) .nil)
abbrev N109(f:T236):=OKP 109 (mkE p236 r236 false f)
def q109_0:List SP:=pat 49 0 [(1,.one (.r .place)),(5,.boxt 5000001 .box),(6,.box 5000002 [.o 5000003 .device,.o 5000004 .cue,.o 5000005 .gust,.int .i64]),(8,.box 5000006 [.o 5000007 .device,.o 5000008 .cue,.o 5000009 .gust,.int .i64]),(28,.one (.al 5000007 .device)),(29,.one (.int .i64)),(30,.one (.int .i64))]
def s109_0(f50:T50)(f51:T51)(f52:T52)(f94:T139)(f208:T308):Lp (List Place×Box×ShD×ShD×Unit×Int×Int×Unit) (ShD×Bool×Unit):=λt5 rec K=>
 cond (t5.2.2.2.2.2.2.1<t5.2.2.2.2.2.1) (rdL t5.2.2.2.1.1 t5.2.2.2.2.2.2.1 λ_=>(t5.2.2.2.1.1[(Int.toNat t5.2.2.2.2.2.2.1)]?).bind λx1=>cond (x1.Kind=2) ((f208 (x1,t5.1,t5.2.1,())).bind λx2=>rdL t5.2.2.2.1.1 t5.2.2.2.2.2.2.1 λ_=>(t5.2.2.2.1.1[(Int.toNat t5.2.2.2.2.2.2.1)]?).bind λx3=>rec (t5.1,t5.2.1,t5.2.2.1,((List.set t5.2.2.2.1.1 (Int.toNat t5.2.2.2.2.2.2.1) (⟨x3.Name,x3.Kind,x3.Line,⟨x3.At.X,x3.At.Y⟩,x3.Heading,x3.Tilt,x2.1⟩:Device)),t5.2.2.2.1.2.1,t5.2.2.2.1.2.2.1,t5.2.2.2.1.2.2.2.1,()),(),t5.2.2.2.2.2.1,(w64 (t5.2.2.2.2.2.2.1+1)),())) (rec (t5.1,t5.2.1,t5.2.2.1,t5.2.2.2.1,(),t5.2.2.2.2.2.1,(w64 (t5.2.2.2.2.2.2.1+1)),()))) (K (t5.1,t5.2.1,t5.2.2.1,t5.2.2.2.1,(),t5.2.2.2.2.2.1,t5.2.2.2.2.2.2.1,()))
def F109(f50:T50)(f51:T51)(f52:T52)(f94:T139)(f208:T308):T236:=λa=>
 (f50 (a.1,())).bind λx1=>cond (!(!x1.1)) ((f51 (a.2.1,())).bind λx2=>cond (!(!x2.1)) ((f52 (a.2.2.1,())).bind λx3=>cond (!x3.1) (some (([],[],[],0,()),false,())) ((f94 (a.1,())).bind λx4=>ZAD (s109_0 f50 f51 f52 f94 f208) fuel (a.2.1,a.2.2.1,([],[],[],0,()),x4.1,(),(Int.ofNat x4.1.1.length),0,()) λx5=>some (x5.2.2.2.1,true,()))) (some (([],[],[],0,()),false,()))) (some (([],[],[],0,()),false,()))
theorem ok109{f50 f51 f52 f94 f208} :N50 f50->N51 f51->N52 f52->N94 f94->N208 f208->N109 (F109 f50 f51 f52 f94 f208):=λa b c d e=>fk (ps:=p236) (rs:=r236) (L:=lenv [(0,ZAI q109_0 (s109_0 f50 f51 f52 f94 f208))]) (ls:=[(0,ZAJ f109 0)]) (.cons a (.cons b (.cons c (.cons d (.cons e .nil))))) func109 (.cons q109_0 (s109_0 f50 f51 f52 f94 f208) rfl (λ_ _ _ _=>by kernel_rfl) .nil)
def p48:List SP:=[.agg [.r .device,.r .cue,.r .gust,.int .i64,.r .place,.int .i64,.int .i64,.int .i64,.int .i64],.agg [.str,.str,.int .i64,.o 0 .place]]
def r48:List SP:=[.agg [.o 1 .device,.o 2 .cue,.o 3 .gust,.int .i64,.o 4 .place,.int .i64,.int .i64,.int .i64,.int .i64],.one (.bool),.one (.bool)]
def r48b:List SP:=[.agg [.o 1 .device,.o 2 .cue,.o 3 .gust,.int .i64,.al 0 .place,.int .i64,.int .i64,.int .i64,.int .i64],.one (.bool),.one (.bool)]
abbrev T48:=(DkD×(Str×Str×Int×List Place×Unit)×Unit->Option (List Place×DkD×Bool×Bool×Unit))×(DkD×(Str×Str×Int×List Place×Unit)×Unit->Option (List Place×(List Device×List Cue×List Gust×Int×Unit×Int×Int×Int×Int×Unit)×Bool×Bool×Unit))
def N48(f:T48):Entry:= {pars:=p48.map SP.sh,res:=r48.map SP.sh,shares:=false,muts:=true,sem:=λR av bs K=>match av with
 | [_,.agg (.str w::_)]=>cond (w=[114,111,115,101]) ((mkE p48 r48b false f.2).sem R av bs K) ((mkE p48 r48 false f.1).sem R av bs K)
 | _=>none}
def F48(f46:T46)(f101:T243)(f102:T167)(f103:T244)(f104:T245)(f105:T322)(f106:T251)(f51:T51)(f52:T52)(f107:T252)(f108:T258)(f109:T236):T48:=
 (
 λa=>(f46 (a.1,())).bind λx1=>cond (a.2.1.1=[100,101,118,105,99,101]) ((f101 (a.2.1.2.1,())).bind λx2=>cond x2.2.1 ((f102 (a.1.1,x2.1,())).bind λx3=>some (a.2.1.2.2.2.1,(x3.1,x1.1.2.1,x1.1.2.2.1,x1.1.2.2.2.1,x1.1.2.2.2.2.1,x1.1.2.2.2.2.2.1,x1.1.2.2.2.2.2.2.1,x1.1.2.2.2.2.2.2.2.1,x1.1.2.2.2.2.2.2.2.2.1,()),x3.2.1,true,())) (some (a.2.1.2.2.2.1,x1.1,false,true,()))) (cond (a.2.1.1=[114,101,109,111,118,101]) ((f103 (a.1.1,a.2.1.2.1,())).bind λx2=>some (a.2.1.2.2.2.1,(x2.1,x1.1.2.1,x1.1.2.2.1,x1.1.2.2.2.1,x1.1.2.2.2.2.1,x1.1.2.2.2.2.2.1,x1.1.2.2.2.2.2.2.1,x1.1.2.2.2.2.2.2.2.1,x1.1.2.2.2.2.2.2.2.2.1,()),x2.2.1,true,())) (cond (a.2.1.1=[99,117,101]) ((f104 (a.2.1.2.1,())).bind λx2=>cond x2.2.1 ((f105 (a.1.2.1,x2.1,())).bind λx3=>some (a.2.1.2.2.2.1,(x1.1.1,x3.1,x1.1.2.2.1,x1.1.2.2.2.1,x1.1.2.2.2.2.1,x1.1.2.2.2.2.2.1,x1.1.2.2.2.2.2.2.1,x1.1.2.2.2.2.2.2.2.1,x1.1.2.2.2.2.2.2.2.2.1,()),x3.2.1,true,())) (some (a.2.1.2.2.2.1,x1.1,false,true,()))) (cond (a.2.1.1=[103,117,115,116]) (rdL a.2.1.2.2.2.1 0 λ_=>(a.2.1.2.2.2.1[(Int.toNat 0)]?).bind λx2=>(f106 (a.1.2.2.1,([(⟨0,⟨x2.X,x2.Y⟩⟩:Gust)]:List Gust),a.2.1.2.2.1,())).bind λx3=>some (a.2.1.2.2.2.1,(x1.1.1,x1.1.2.1,x3.1,x1.1.2.2.2.1,x1.1.2.2.2.2.1,x1.1.2.2.2.2.2.1,x1.1.2.2.2.2.2.2.1,x1.1.2.2.2.2.2.2.2.1,x1.1.2.2.2.2.2.2.2.2.1,()),x3.2.1,true,())) (cond (a.2.1.1=[116,105,99,107,115]) (some (a.2.1.2.2.2.1,(x1.1.1,x1.1.2.1,x1.1.2.2.1,a.2.1.2.2.1,x1.1.2.2.2.2.1,x1.1.2.2.2.2.2.1,x1.1.2.2.2.2.2.2.1,x1.1.2.2.2.2.2.2.2.1,x1.1.2.2.2.2.2.2.2.2.1,()),(decide (a.2.1.2.2.1<=64)),true,())) (cond (a.2.1.1=[114,111,115,101]) ((f51 (a.2.1.2.2.2.1,())).bind λx2=>none) (cond (a.2.1.1=[98,97,115,105,110]) (rdL a.2.1.2.2.2.1 0 λ_=>(a.2.1.2.2.2.1[(Int.toNat 0)]?).bind λx2=>rdL a.2.1.2.2.2.1 1 λ_=>(a.2.1.2.2.2.1[(Int.toNat 1)]?).bind λx3=>(f52 ((⟨⟨x2.X,x2.Y⟩,⟨x3.X,x3.Y⟩⟩:Box),())).bind λx4=>some (a.2.1.2.2.2.1,(x1.1.1,x1.1.2.1,x1.1.2.2.1,x1.1.2.2.2.1,x1.1.2.2.2.2.1,x2.X,x2.Y,x3.X,x3.Y,()),x4.1,true,())) (cond (a.2.1.1=[116,117,114,110]) ((f107 ((a.1.1,a.1.2.1,a.1.2.2.1,a.1.2.2.2.1,()),a.2.1.2.2.1,())).bind λx2=>some (a.2.1.2.2.2.1,(x2.1.1,x2.1.2.1,x2.1.2.2.1,x2.1.2.2.2.1,x1.1.2.2.2.2.1,x1.1.2.2.2.2.2.1,x1.1.2.2.2.2.2.2.1,x1.1.2.2.2.2.2.2.2.1,x1.1.2.2.2.2.2.2.2.2.1,()),true,true,())) (cond (a.2.1.1=[115,104,105,102,116]) (rdL a.2.1.2.2.2.1 0 λ_=>(a.2.1.2.2.2.1[(Int.toNat 0)]?).bind λx2=>(f108 ((a.1.1,a.1.2.1,a.1.2.2.1,a.1.2.2.2.1,()),x2,())).bind λx3=>some (a.2.1.2.2.2.1,(x3.1.1,x3.1.2.1,x3.1.2.2.1,x3.1.2.2.2.1,x1.1.2.2.2.2.1,x1.1.2.2.2.2.2.1,x1.1.2.2.2.2.2.2.1,x1.1.2.2.2.2.2.2.2.1,x1.1.2.2.2.2.2.2.2.2.1,()),x3.2.1,true,())) (cond (a.2.1.1=[108,105,109,105,116]) ((f109 ((a.1.1,a.1.2.1,a.1.2.2.1,a.1.2.2.2.1,()),a.1.2.2.2.2.1,(⟨⟨a.1.2.2.2.2.2.1,a.1.2.2.2.2.2.2.1⟩,⟨a.1.2.2.2.2.2.2.2.1,a.1.2.2.2.2.2.2.2.2.1⟩⟩:Box),())).bind λx2=>some (a.2.1.2.2.2.1,(x2.1.1,x2.1.2.1,x2.1.2.2.1,x2.1.2.2.2.1,x1.1.2.2.2.2.1,x1.1.2.2.2.2.2.1,x1.1.2.2.2.2.2.2.1,x1.1.2.2.2.2.2.2.2.1,x1.1.2.2.2.2.2.2.2.2.1,()),x2.2.1,true,())) (some (a.2.1.2.2.2.1,x1.1,false,false,()))))))))))),
 λa=>(f46 (a.1,())).bind λx1=>cond (a.2.1.1=[100,101,118,105,99,101]) ((f101 (a.2.1.2.1,())).bind λx2=>cond x2.2.1 ((f102 (a.1.1,x2.1,())).bind λx3=>none) (none)) (cond (a.2.1.1=[114,101,109,111,118,101]) ((f103 (a.1.1,a.2.1.2.1,())).bind λx2=>none) (cond (a.2.1.1=[99,117,101]) ((f104 (a.2.1.2.1,())).bind λx2=>cond x2.2.1 ((f105 (a.1.2.1,x2.1,())).bind λx3=>none) (none)) (cond (a.2.1.1=[103,117,115,116]) (rdL a.2.1.2.2.2.1 0 λ_=>(a.2.1.2.2.2.1[(Int.toNat 0)]?).bind λx2=>(f106 (a.1.2.2.1,([(⟨0,⟨x2.X,x2.Y⟩⟩:Gust)]:List Gust),a.2.1.2.2.1,())).bind λx3=>none) (cond (a.2.1.1=[116,105,99,107,115]) (none) (cond (a.2.1.1=[114,111,115,101]) ((f51 (a.2.1.2.2.2.1,())).bind λx2=>some (a.2.1.2.2.2.1,(x1.1.1,x1.1.2.1,x1.1.2.2.1,x1.1.2.2.2.1,(),x1.1.2.2.2.2.2.1,x1.1.2.2.2.2.2.2.1,x1.1.2.2.2.2.2.2.2.1,x1.1.2.2.2.2.2.2.2.2.1,()),x2.1,true,())) (cond (a.2.1.1=[98,97,115,105,110]) (rdL a.2.1.2.2.2.1 0 λ_=>(a.2.1.2.2.2.1[(Int.toNat 0)]?).bind λx2=>rdL a.2.1.2.2.2.1 1 λ_=>(a.2.1.2.2.2.1[(Int.toNat 1)]?).bind λx3=>(f52 ((⟨⟨x2.X,x2.Y⟩,⟨x3.X,x3.Y⟩⟩:Box),())).bind λx4=>none) (cond (a.2.1.1=[116,117,114,110]) ((f107 ((a.1.1,a.1.2.1,a.1.2.2.1,a.1.2.2.2.1,()),a.2.1.2.2.1,())).bind λx2=>none) (cond (a.2.1.1=[115,104,105,102,116]) (rdL a.2.1.2.2.2.1 0 λ_=>(a.2.1.2.2.2.1[(Int.toNat 0)]?).bind λx2=>(f108 ((a.1.1,a.1.2.1,a.1.2.2.1,a.1.2.2.2.1,()),x2,())).bind λx3=>none) (cond (a.2.1.1=[108,105,109,105,116]) ((f109 ((a.1.1,a.1.2.1,a.1.2.2.1,a.1.2.2.2.1,()),a.1.2.2.2.2.1,(⟨⟨a.1.2.2.2.2.2.1,a.1.2.2.2.2.2.2.1⟩,⟨a.1.2.2.2.2.2.2.2.1,a.1.2.2.2.2.2.2.2.2.1⟩⟩:Box),())).bind λx2=>none) (none)))))))))))
theorem ok48{f46 f101 f102 f103 f104 f105 f106 f51 f52 f107 f108 f109}(h46:N46 f46)(h101:N101 f101)(h102:N102 f102)(h103:N103 f103)(h104:N104 f104)(h105:N105 f105)(h106:N106 f106)(h51:N51 f51)(h52:N52 f52)(h107:N107 f107)(h108:N108 f108)(h109:N109 f109):OKP 48 (N48 (F48 f46 f101 f102 f103 f104 f105 f106 f51 f52 f107 f108 f109)):=by
 have h1:OKP 48 (mkE p48 r48 false (F48 f46 f101 f102 f103 f104 f105 f106 f51 f52 f107 f108 f109).1):=fka0 (ann:=λn=>Nat.beq n 2500107 || Nat.beq n 2599999 || Nat.beq n 2700107 || Nat.beq n 2799999 || Nat.beq n 3600107 || Nat.beq n 3699999) (.cons h46 (.cons h101 (.cons h102 (.cons h103 (.cons h104 (.cons h105 (.cons h106 (.cons h51 (.cons h52 (.cons h107 (.cons h108 (.cons h109 .nil)))))))))))) func48 (by kernel_rfl) λ_=>by kernel_rfl
 have h2:OKP 48 (mkE p48 r48b false (F48 f46 f101 f102 f103 f104 f105 f106 f51 f52 f107 f108 f109).2):=fka0 (ann:=λn=>Nat.beq n 2500107 || Nat.beq n 2599999 || Nat.beq n 2700107 || Nat.beq n 2799999 || Nat.beq n 3600107 || Nat.beq n 3699999) (.cons h46 (.cons h101 (.cons h102 (.cons h103 (.cons h104 (.cons h105 (.cons h106 (.cons h51 (.cons h52 (.cons h107 (.cons h108 (.cons h109 .nil)))))))))))) func48 (by kernel_rfl) λ_=>by kernel_rfl
 refine⟨λR av bs K r hs=> ?_,h1.fn⟩
 simp only[N48]at hs
 split at hs
 ·rename_i w _
  cases hb:decide (w=[114,111,115,101])<;>rw[hb]at hs
  ·exact h1.ent R _ bs K r hs
  ·exact h2.ent R _ bs K r hs
 ·cases hs
abbrev N295(f:T358):=OKP 295 (mkE p358 p269 false f)
def F295:T358:=λa=>
 cond (a.2.1=0) none (cond (a.2.1=0) none (cond ((Int.tmod a.1 a.2.1)<0) (some ((w64 ((w64 (Int.tdiv a.1 a.2.1)) -1)),())) (some ((w64 (Int.tdiv a.1 a.2.1)),()))))
theorem ok295:N295 (F295):=fk0 .nil func295
abbrev N209(f:T323):=OKP 209 (mkE p323 p269 false f)
def F209(f57:T57)(f295:T358):T323:=λa=>
 (f57 (a.1,())).bind λx1=>cond (!(!x1.1)) ((f57 (a.2.1,())).bind λx2=>cond (!x2.1) (some (0,())) (cond (a.2.2.1>=a.2.2.2.1) (some (a.2.1,())) (cond (!(a.2.2.1<=0)) (cond (a.2.2.2.1>999) (some (a.1,())) ((f295 ((w64 (a.2.2.1*(w64 (a.2.1-a.1)))),a.2.2.2.1,())).bind λx3=>some ((w64 (a.1+x3.1)),()))) (some (a.1,()))))) (some (0,()))
theorem ok209{f57 f295} :N57 f57->N295 f295->N209 (F209 f57 f295):=λa b=>fk0 (.cons a (.cons b .nil)) func209
abbrev N110(f:T249):=OKP 110 (mkE p249 p269 false f)
def q110_0:List SP:=pat 58 0 [(1,.one (.str)),(2,.one (.int .i64)),(7,.one (.int .i64)),(8,.boxt 5000001 .cue),(19,.one (.r .cue)),(20,.one (.int .i64)),(21,.one (.int .i64))]
def s110_0(f119:T231)(f209:T323):Lp (Str×Int×Int×Cue×List Cue×Int×Int×Unit) (Int×Unit):=λt2 rec K=>
 cond (t2.2.2.2.2.2.2.1<t2.2.2.2.2.2.1) (rdL t2.2.2.2.2.1 t2.2.2.2.2.2.2.1 λx1=>cond (x1.Name=t2.1) (cond (x1.Tick<=t2.2.1) ((f209 (t2.2.2.1,t2.2.2.2.1.Level,(w64 (x1.Tick-t2.2.2.2.1.Tick)),t2.2.2.2.1.Ramp,())).bind λx2=>rec (t2.1,t2.2.1,x2.1,x1,t2.2.2.2.2.1,t2.2.2.2.2.2.1,(w64 (t2.2.2.2.2.2.2.1+1)),())) (rec (t2.1,t2.2.1,t2.2.2.1,t2.2.2.2.1,t2.2.2.2.2.1,t2.2.2.2.2.2.1,(w64 (t2.2.2.2.2.2.2.1+1)),()))) (rec (t2.1,t2.2.1,t2.2.2.1,t2.2.2.2.1,t2.2.2.2.2.1,t2.2.2.2.2.2.1,(w64 (t2.2.2.2.2.2.2.1+1)),()))) (K t2)
def F110(f119:T231)(f209:T323):T249:=λa=>
 (f119 (a.1,())).bind λx1=>cond (!(!x1.1)) (cond (a.2.2.1<0) (some (0,())) (ZAD (s110_0 f119 f209) fuel (a.2.1,a.2.2.1,0,(⟨0,[],0,0⟩:Cue),a.1,(Int.ofNat a.1.length),0,()) λx2=>(f209 (x2.2.2.1,x2.2.2.2.1.Level,(w64 (x2.2.1-x2.2.2.2.1.Tick)),x2.2.2.2.1.Ramp,())).bind λx3=>some (x3.1,()))) (some (0,()))
theorem ok110{f119 f209} :N119 f119->N209 f209->N110 (F110 f119 f209):=λa b=>fk (ps:=p249) (rs:=p269) (L:=lenv [(0,ZAI q110_0 (s110_0 f119 f209))]) (ls:=[(0,ZAJ f110 0)]) (.cons a (.cons b .nil)) func110 (.cons q110_0 (s110_0 f119 f209) rfl (λ_ _ _ _=>by kernel_rfl) .nil)
abbrev N296(f:T373):=OKP 296 (mkE p373 r268 false f)
def q296_0:List SP:=pat 18 0 [(0,.one (.r .int)),(5,.one (.r .int)),(6,.one (.int .i64)),(7,.one (.int .i64))]
def s296_0(f121:T233):Lp (List Int×List Int×Int×Int×Unit) (Bool×Unit):=λt1 rec K=>
 cond (t1.2.2.2.1<t1.2.2.1) (rdL t1.2.1 t1.2.2.2.1 λx1=>(f121 (x1,0,64,())).bind λx2=>cond (!x2.1) (some (false,())) (rec (t1.1,t1.2.1,t1.2.2.1,(w64 (t1.2.2.2.1+1)),()))) (K t1)
def F296(f121:T233):T373:=λa=>
 ZAD (s296_0 f121) fuel (a.1,a.1,(Int.ofNat a.1.length),0,()) λx1=>some ((decide ((Int.ofNat x1.1.length)<=8)),())
theorem ok296{f121} :N121 f121->N296 (F296 f121):=λa=>fk (ps:=p373) (rs:=r268) (L:=lenv [(0,ZAI q296_0 (s296_0 f121))]) (ls:=[(0,ZAJ f296 0)]) (.cons a .nil) func296 (.cons q296_0 (s296_0 f121) rfl (λ_ _ _ _=>by kernel_rfl) .nil)
abbrev N298(f:T375):=OKP 298 (mkE p375 r375 false f)
def q298_0:List SP:=pat 31 0 [(1,.one (.int .i64)),(5,.one (.o 5000001 .int)),(17,.one (.r .int)),(18,.one (.int .i64)),(19,.one (.int .i64))]
def s298_0(f296:T373):Lp (Int×List Int×List Int×Int×Int×Unit) (List Int×Unit):=λt2 rec K=>
 cond (t2.2.2.2.2.1<t2.2.2.2.1) (rdL t2.2.2.1 t2.2.2.2.2.1 λx1=>capK (t2.2.1.length+List.length ([(mn x1 t2.1)]:List Int)) (rec (t2.1,(t2.2.1++([(mn x1 t2.1)]:List Int)),t2.2.2.1,t2.2.2.2.1,(w64 (t2.2.2.2.2.1+1)),()))) (K t2)
def F298(f296:T373):T375:=λa=>
 (f296 (a.1,())).bind λx1=>cond (!(!x1.1)) (cond (a.2.1<0) (some (([]:List Int),())) (ZAD (s298_0 f296) fuel (a.2.1,([]:List Int),a.1,(Int.ofNat a.1.length),0,()) λx2=>some (x2.2.1,()))) (some (([]:List Int),()))
theorem ok298{f296} :N296 f296->N298 (F298 f296):=λa=>fk (ps:=p375) (rs:=r375) (L:=lenv [(0,ZAI q298_0 (s298_0 f296))]) (ls:=[(0,ZAJ f298 0)]) (.cons a .nil) func298 (.cons q298_0 (s298_0 f296) rfl (λ_ _ _ _=>by kernel_rfl) .nil)
abbrev N299(f:T376):=OKP 299 (mkE p373 p269 false f)
def q299_0:List SP:=pat 17 0 [(3,.one (.int .i64)),(6,.one (.r .int)),(7,.one (.int .i64)),(8,.one (.int .i64))]
def s299_0:Lp (Int×List Int×Int×Int×Unit) (Int×Unit):=λt1 rec K=>
 cond (t1.2.2.2.1<t1.2.2.1) (rdL t1.2.1 t1.2.2.2.1 λx1=>rec ((w64 (t1.1+x1)),t1.2.1,t1.2.2.1,(w64 (t1.2.2.2.1+1)),())) (K t1)
def F299:T376:=λa=>
 ZAD (s299_0) fuel (0,a.1,(Int.ofNat a.1.length),0,()) λx1=>some (x1.1,())
theorem ok299:N299 (F299):=fk (ps:=p373) (rs:=p269) (L:=lenv [(0,ZAI q299_0 (s299_0))]) (ls:=[(0,ZAJ f299 0)]) .nil func299 (.cons q299_0 (s299_0) rfl (λ_ _ _ _=>by kernel_rfl) .nil)
abbrev N297(f:T374):=OKP 297 (mkE p374 p269 false f)
def q297_0:List SP:=pat 23 0 [(0,.one (.int .i64)),(1,.one (.r .int)),(5,.one (.int .i64))]
def s297_0(f296:T373)(f281:T269)(f298:T375)(f299:T376):Lp (Int×List Int×Int×Unit) (Int×Unit):=λt3 rec K=>
 (f298 t3.2).bind λx1=>(f299 (x1.1,())).bind λx2=>cond (x2.1>t3.1) (rec (t3.1,t3.2.1,(w64 (t3.2.2.1-1)),())) (K t3)
def F297(f296:T373)(f281:T269)(f298:T375)(f299:T376):T374:=λa=>
 (f296 (a.2.1,())).bind λx1=>cond (!(!x1.1)) ((f281 (a.1,())).bind λx2=>cond (!x2.1) (some (0,())) (ZAD (s297_0 f296 f281 f298 f299) fuel (a.1,a.2.1,64,()) λx3=>some (x3.2.2.1,()))) (some (0,()))
theorem ok297{f296 f281 f298 f299} :N296 f296->N281 f281->N298 f298->N299 f299->N297 (F297 f296 f281 f298 f299):=λa b c d=>fk (ps:=p374) (rs:=p269) (L:=lenv [(0,ZAI q297_0 (s297_0 f296 f281 f298 f299))]) (ls:=[(0,ZAJ f297 0)]) (.cons a (.cons b (.cons c (.cons d .nil)))) func297 (.cons q297_0 (s297_0 f296 f281 f298 f299) rfl (λ_ _ _ _=>by kernel_rfl) .nil)
abbrev N210(f:T361):=OKP 210 (mkE p374 r375 false f)
def q210_0:List SP:=pat 53 0 [(5,.one (.int .i64)),(6,.one (.o 5000001 .int)),(7,.one (.int .i64)),(29,.one (.r .int)),(30,.one (.int .i64)),(31,.one (.int .i64))]
def s210_0(f296:T373)(f281:T269)(f297:T374)(f298:T375)(f299:T376):Lp (Int×List Int×Int×List Int×Int×Int×Unit) (List Int×Unit):=λt6 rec K=>
 cond (t6.2.2.2.2.2.1<t6.2.2.2.2.1) (rdL t6.2.2.2.1 t6.2.2.2.2.2.1 λx1=>cond (x1>t6.1) (cond (t6.2.2.1>0) (rdL t6.2.1 t6.2.2.2.2.2.1 λ_=>(t6.2.1[(Int.toNat t6.2.2.2.2.2.1)]?).bind λx2=>rdL t6.2.1 t6.2.2.2.2.2.1 λ_=>(t6.2.1[(Int.toNat t6.2.2.2.2.2.1)]?).bind λx3=>rec (t6.1,(List.set t6.2.1 (Int.toNat t6.2.2.2.2.2.1) (w64 (x2+1))),(w64 (t6.2.2.1-1)),t6.2.2.2.1,t6.2.2.2.2.1,(w64 (t6.2.2.2.2.2.1+1)),())) (rec (t6.1,t6.2.1,t6.2.2.1,t6.2.2.2.1,t6.2.2.2.2.1,(w64 (t6.2.2.2.2.2.1+1)),()))) (rec (t6.1,t6.2.1,t6.2.2.1,t6.2.2.2.1,t6.2.2.2.2.1,(w64 (t6.2.2.2.2.2.1+1)),()))) (K t6)
def F210(f296:T373)(f281:T269)(f297:T374)(f298:T375)(f299:T376):T361:=λa=>
 (f296 (a.2.1,())).bind λx1=>cond (!(!x1.1)) ((f281 (a.1,())).bind λx2=>cond (!x2.1) (some (([]:List Int),())) ((f297 a).bind λx3=>(f298 (a.2.1,x3.1,())).bind λx4=>(f299 (x4.1,())).bind λx5=>ZAD (s210_0 f296 f281 f297 f298 f299) fuel (x3.1,x4.1,(w64 (a.1-x5.1)),a.2.1,(Int.ofNat a.2.1.length),0,()) λx6=>some (x6.2.1,()))) (some (([]:List Int),()))
theorem ok210{f296 f281 f297 f298 f299} :N296 f296->N281 f281->N297 f297->N298 f298->N299 f299->N210 (F210 f296 f281 f297 f298 f299):=λa b c d e=>fk (ps:=p374) (rs:=r375) (L:=lenv [(0,ZAI q210_0 (s210_0 f296 f281 f297 f298 f299))]) (ls:=[(0,ZAJ f210 0)]) (.cons a (.cons b (.cons c (.cons d (.cons e .nil))))) func210 (.cons q210_0 (s210_0 f296 f281 f297 f298 f299) rfl (λ_ _ _ _=>by kernel_rfl) .nil)
abbrev N111(f:T329):=OKP 111 (mkE p329 r375 false f)
def q111_2:List SP:=pat 91 0 [(1,.one (.int .i64)),(2,.box 5002001 [.r .device,.r .cue,.r .gust,.int .i64]),(5,.one (.o 5002002 .int)),(7,.boxt 5002003 .device),(8,.one (.o 5002004 .int)),(9,.one (.o 5002005 .int)),(30,.one (.r .device)),(31,.one (.int .i64)),(32,.one (.int .i64)),(42,.one (.r .device)),(43,.one (.int .i64)),(44,.one (.int .i64))]
def s111_2(f50:T50)(f121:T233)(f110:T249)(f210:T361):Lp (Int×ShD×List Int×Device×List Int×List Int×List Device×Int×Int×List Device×Int×Int×Unit) (List Int×Unit):=λt5 rec K=>
 cond (t5.2.2.2.2.2.2.2.2.2.2.2.1<t5.2.2.2.2.2.2.2.2.2.2.1) (rdL t5.2.2.2.2.2.2.2.2.2.1 t5.2.2.2.2.2.2.2.2.2.2.2.1 λx1=>cond (x1.Line=t5.2.2.2.1.Name) (capK (t5.2.2.2.2.1.length+List.length ([t5.2.2.2.2.2.2.2.2.2.2.2.1]:List Int)) ((f110 (t5.2.1.2.1,x1.Name,t5.1,())).bind λx2=>capK (t5.2.2.2.2.2.1.length+List.length ([(mn x2.1 x1.Most)]:List Int)) (rec (t5.1,t5.2.1,t5.2.2.1,t5.2.2.2.1,(t5.2.2.2.2.1++([t5.2.2.2.2.2.2.2.2.2.2.2.1]:List Int)),(t5.2.2.2.2.2.1++([(mn x2.1 x1.Most)]:List Int)),t5.2.2.2.2.2.2.1,t5.2.2.2.2.2.2.2.1,t5.2.2.2.2.2.2.2.2.1,t5.2.2.2.2.2.2.2.2.2.1,t5.2.2.2.2.2.2.2.2.2.2.1,(w64 (t5.2.2.2.2.2.2.2.2.2.2.2.1+1)),())))) (rec (t5.1,t5.2.1,t5.2.2.1,t5.2.2.2.1,t5.2.2.2.2.1,t5.2.2.2.2.2.1,t5.2.2.2.2.2.2.1,t5.2.2.2.2.2.2.2.1,t5.2.2.2.2.2.2.2.2.1,t5.2.2.2.2.2.2.2.2.2.1,t5.2.2.2.2.2.2.2.2.2.2.1,(w64 (t5.2.2.2.2.2.2.2.2.2.2.2.1+1)),()))) (K t5)
def q111_4:List SP:=pat 91 0 [(1,.one (.int .i64)),(2,.box 5004001 [.r .device,.r .cue,.r .gust,.int .i64]),(5,.one (.o 5004002 .int)),(8,.one (.o 5004003 .int)),(30,.one (.r .device)),(31,.one (.int .i64)),(32,.one (.int .i64)),(74,.one (.o 5004004 .int)),(75,.one (.int .i64)),(76,.one (.int .i64))]
def s111_4(f50:T50)(f121:T233)(f110:T249)(f210:T361):Lp (Int×ShD×List Int×List Int×List Device×Int×Int×List Int×Int×Int×Unit) (List Int×Unit):=λt10 rec K=>
 cond (t10.2.2.2.2.2.2.2.2.2.1<t10.2.2.2.2.2.2.2.2.1) (rdL t10.2.2.2.2.2.2.2.1 t10.2.2.2.2.2.2.2.2.2.1 λ_=>(t10.2.2.2.2.2.2.2.1[(Int.toNat t10.2.2.2.2.2.2.2.2.2.1)]?).bind λx1=>rdL t10.2.2.2.1 t10.2.2.2.2.2.2.2.2.2.1 λ_=>(t10.2.2.2.1[(Int.toNat t10.2.2.2.2.2.2.2.2.2.1)]?).bind λx2=>rdL t10.2.2.1 x2 λ_=>(t10.2.2.1[(Int.toNat x2)]?).bind λx3=>rec (t10.1,t10.2.1,(List.set t10.2.2.1 (Int.toNat x2) x1),t10.2.2.2.1,t10.2.2.2.2.1,t10.2.2.2.2.2.1,t10.2.2.2.2.2.2.1,t10.2.2.2.2.2.2.2.1,t10.2.2.2.2.2.2.2.2.1,(w64 (t10.2.2.2.2.2.2.2.2.2.1+1)),())) (K t10)
def q111_0:List SP:=pat 91 0 [(1,.one (.int .i64)),(2,.box 5000001 [.r .device,.r .cue,.r .gust,.int .i64]),(5,.one (.o 5000002 .int)),(30,.one (.r .device)),(31,.one (.int .i64)),(32,.one (.int .i64))]
def s111_0(f50:T50)(f121:T233)(f110:T249)(f210:T361):Lp (Int×ShD×List Int×List Device×Int×Int×Unit) (List Int×Unit):=λt3 rec K=>
 cond (t3.2.2.2.2.2.1<t3.2.2.2.2.1) (rdL t3.2.2.2.1 t3.2.2.2.2.2.1 λx1=>cond (!(x1.Kind=1)) (rec (t3.1,t3.2.1,t3.2.2.1,t3.2.2.2.1,t3.2.2.2.2.1,(w64 (t3.2.2.2.2.2.1+1)),())) (ZAD (s111_2 f50 f121 f110 f210) fuel (t3.1,t3.2.1,t3.2.2.1,x1,([]:List Int),([]:List Int),t3.2.2.2.1,t3.2.2.2.2.1,t3.2.2.2.2.2.1,t3.2.1.1,(Int.ofNat t3.2.1.1.length),0,()) λx2=>(f210 (x2.2.2.2.1.Most,x2.2.2.2.2.2.1,())).bind λx3=>ZAD (s111_4 f50 f121 f110 f210) fuel (x2.1,x2.2.1,x2.2.2.1,x2.2.2.2.2.1,x2.2.2.2.2.2.2.1,x2.2.2.2.2.2.2.2.1,x2.2.2.2.2.2.2.2.2.1,x3.1,(Int.ofNat x3.1.length),0,()) λx4=>rec (x4.1,x4.2.1,x4.2.2.1,x4.2.2.2.2.1,x4.2.2.2.2.2.1,(w64 (x4.2.2.2.2.2.2.1+1)),()))) (K t3)
def F111(f50:T50)(f121:T233)(f110:T249)(f210:T361):T329:=λa=>
 (f50 (a.1,())).bind λx1=>cond (!x1.1) (some (([]:List Int),())) (okIf ((0:Int)<=(Int.ofNat a.1.1.length)) (capK (Int.toNat (Int.ofNat a.1.1.length)) ((f121 (a.2.1,0,(w64 (a.1.2.2.2.1-1)),())).bind λx2=>cond (!x2.1) (some ((List.replicate (Int.toNat (Int.ofNat a.1.1.length)) (Ty.zero .int)),())) (ZAD (s111_0 f50 f121 f110 f210) fuel (a.2.1,a.1,(List.replicate (Int.toNat (Int.ofNat a.1.1.length)) (Ty.zero .int)),a.1.1,(Int.ofNat a.1.1.length),0,()) λx3=>some (x3.2.2.1,())))))
theorem ok111{f50 f121 f110 f210} :N50 f50->N121 f121->N110 f110->N210 f210->N111 (F111 f50 f121 f110 f210):=λa b c d=>fk (ps:=p329) (rs:=r375) (L:=lenv [(0,ZAI q111_0 (s111_0 f50 f121 f110 f210)),(2,ZAI q111_2 (s111_2 f50 f121 f110 f210)),(4,ZAI q111_4 (s111_4 f50 f121 f110 f210))]) (ls:=[(0,ZAJ f111 0),(2,ZAJ f111 1),(4,ZAJ f111 2)]) (.cons a (.cons b (.cons c (.cons d .nil)))) func111 (.cons q111_0 (s111_0 f50 f121 f110 f210) rfl (λ_ _ _ _=>by kernel_rfl) (.cons q111_2 (s111_2 f50 f121 f110 f210) rfl (λ_ _ _ _=>by kernel_rfl) (.cons q111_4 (s111_4 f50 f121 f110 f210) rfl (λ_ _ _ _=>by kernel_rfl) .nil)))
def p12:List SP:=[.one (.r .str),.one (.str)]
def r12:List SP:=[.one (.str)]
abbrev T12:=List Str×Str×Unit->Option (Str×Unit)
abbrev N12(f:T12):=OKP 12 (mkE p12 r12 false f)
def F12(f40:T40):T12:=λa=>
 (f40 a).bind λx1=>some (x1.1,())
theorem ok12{f40} :N40 f40->N12 (F12 f40):=λa=>fk0 (.cons a .nil) func12
abbrev N112(f:T254):=OKP 112 (mkE p254 p268 false f)
def F112(f12:T12):T254:=λa=>
 cond ((Int.ofNat a.1.length)=0) (some ([110,111,110,101],())) ((f12 (a.1,[59,32],())).bind λx1=>some (x1.1,()))
theorem ok112{f12} :N12 f12->N112 (F112 f12):=λa=>fk0 (.cons a .nil) func112
def p59:List SP:=[.agg [.r .device,.r .cue,.r .gust,.int .i64]]
def r59:List SP:=[.one (.o 0 .throw)]
abbrev T59:=ShD×Unit->Option (List Throw×Unit)
abbrev N59(f:T59):=OKP 59 (mkE p59 r59 false f)
def q59_2:List SP:=pat 52 0 [(1,.box 5002001 [.r .device,.r .cue,.r .gust,.int .i64]),(3,.one (.o 5002002 .throw)),(4,.one (.int .i64)),(14,.one (.int .i64)),(15,.one (.int .i64)),(20,.one (.o 5002003 .int)),(21,.one (.int .i64)),(22,.one (.int .i64))]
def s59_2(f50:T50)(f111:T329):Lp (ShD×List Throw×Int×Int×Int×List Int×Int×Int×Unit) (List Throw×Unit):=λt4 rec K=>
 cond (t4.2.2.2.2.2.2.2.1<t4.2.2.2.2.2.2.1) (rdL t4.2.2.2.2.2.1 t4.2.2.2.2.2.2.2.1 λ_=>(t4.2.2.2.2.2.1[(Int.toNat t4.2.2.2.2.2.2.2.1)]?).bind λx1=>cond (x1>0) (rdL t4.1.1 t4.2.2.2.2.2.2.2.1 λx2=>capK (t4.2.1.length+List.length ([(⟨x2.Name,t4.2.2.1,⟨⟨x2.At.X,x2.At.Y⟩,x2.Heading,x2.Tilt,x1⟩⟩:Throw)]:List Throw)) (rec (t4.1,(t4.2.1++([(⟨x2.Name,t4.2.2.1,⟨⟨x2.At.X,x2.At.Y⟩,x2.Heading,x2.Tilt,x1⟩⟩:Throw)]:List Throw)),t4.2.2.1,t4.2.2.2.1,t4.2.2.2.2.1,t4.2.2.2.2.2.1,t4.2.2.2.2.2.2.1,(w64 (t4.2.2.2.2.2.2.2.1+1)),()))) (rec (t4.1,t4.2.1,t4.2.2.1,t4.2.2.2.1,t4.2.2.2.2.1,t4.2.2.2.2.2.1,t4.2.2.2.2.2.2.1,(w64 (t4.2.2.2.2.2.2.2.1+1)),()))) (K t4)
def q59_0:List SP:=pat 52 0 [(1,.box 5000001 [.r .device,.r .cue,.r .gust,.int .i64]),(3,.one (.o 5000002 .throw)),(14,.one (.int .i64)),(15,.one (.int .i64))]
def s59_0(f50:T50)(f111:T329):Lp (ShD×List Throw×Int×Int×Unit) (List Throw×Unit):=λt2 rec K=>
 cond (t2.2.2.2.1<t2.2.2.1) ((f111 (t2.1,t2.2.2.2.1,())).bind λx1=>ZAD (s59_2 f50 f111) fuel (t2.1,t2.2.1,t2.2.2.2.1,t2.2.2.1,t2.2.2.2.1,x1.1,(Int.ofNat x1.1.length),0,()) λx2=>rec (x2.1,x2.2.1,x2.2.2.2.1,(w64 (x2.2.2.2.2.1+1)),())) (K t2)
def F59(f50:T50)(f111:T329):T59:=λa=>
 (f50 (a.1,())).bind λx1=>cond (!x1.1) (some (([]:List Throw),())) (ZAD (s59_0 f50 f111) fuel (a.1,([]:List Throw),a.1.2.2.2.1,0,()) λx2=>some (x2.2.1,()))
theorem ok59{f50 f111} :N50 f50->N111 f111->N59 (F59 f50 f111):=λa b=>fk (ps:=p59) (rs:=r59) (L:=lenv [(0,ZAI q59_0 (s59_0 f50 f111)),(2,ZAI q59_2 (s59_2 f50 f111))]) (ls:=[(0,ZAJ f59 0),(2,ZAJ f59 1)]) (.cons a (.cons b .nil)) func59 (.cons q59_0 (s59_0 f50 f111) rfl (λ_ _ _ _=>by kernel_rfl) (.cons q59_2 (s59_2 f50 f111) rfl (λ_ _ _ _=>by kernel_rfl) .nil))
def p211:List SP:=[.t .throw]
abbrev T211:=Throw×Unit->Option (Int×Unit)
abbrev N211(f:T211):=OKP 211 (mkE p211 p269 false f)
def F211(f126:T311):T211:=λa=>
 (f126 (a.1.jet,())).bind λx1=>some ((w64 (a.1.born+x1.1)),())
theorem ok211{f126} :N126 f126->N211 (F211 f126):=λa=>fk0 (.cons a .nil) func211
abbrev N300(f:T350):=OKP 300 (mkE p350 r356 false f)
def q300_0:List SP:=pat 50 0 [(0,.one (.r .gust)),(2,.one (.int .i64)),(6,.boxt 5000001 .place),(8,.boxt 5000002 .place),(9,.one (.int .i64))]
def s300_0(f120:T232)(f291:T325):Lp (List Gust×Int×Place×Place×Int×Unit) (Place×Bool×Unit):=λt2 rec K=>
 cond (t2.2.2.2.2.1<t2.2.1) ((f291 (t2.1,t2.2.2.2.2.1,())).bind λx1=>rec (t2.1,t2.2.1,t2.2.2.1,(⟨(w64 (t2.2.2.2.1.X+x1.1.X)),(w64 (t2.2.2.2.1.Y+x1.1.Y))⟩:Place),(w64 (t2.2.2.2.2.1+1)),())) (K t2)
def F300(f120:T232)(f291:T325):T350:=λa=>
 (f120 (a.1,())).bind λx1=>cond (!(!x1.1)) (cond (!(a.2.1<0)) (cond (!(a.2.2.1<a.2.1)) (cond (a.2.2.1>128) (some ((⟨0,0⟩:Place),false,())) (ZAD (s300_0 f120 f291) fuel (a.1,a.2.2.1,(⟨0,0⟩:Place),(⟨0,0⟩:Place),a.2.1,()) λx2=>some (x2.2.2.2.1,true,()))) (some ((⟨0,0⟩:Place),false,()))) (some ((⟨0,0⟩:Place),false,()))) (some ((⟨0,0⟩:Place),false,()))
theorem ok300{f120 f291} :N120 f120->N291 f291->N300 (F300 f120 f291):=λa b=>fk (ps:=p350) (rs:=r356) (L:=lenv [(0,ZAI q300_0 (s300_0 f120 f291))]) (ls:=[(0,ZAJ f300 0)]) (.cons a (.cons b .nil)) func300 (.cons q300_0 (s300_0 f120 f291) rfl (λ_ _ _ _=>by kernel_rfl) .nil)
abbrev N135(f:T352):=OKP 135 (mkE p351 p269 false f)
def F135(f225:T225):T352:=λa=>
 (f225 a).bind λx1=>cond (!x1.1) (some (0,())) (some ((w64 (a.2.1*(w64 ((w64 (a.1.Lift+1)) -a.2.1)))),()))
theorem ok135{f225} :N225 f225->N135 (F135 f225):=λa=>fk0 (.cons a .nil) func135
def p212:List SP:=[.t .throw,.one (.r .gust),.one (.int .i64)]
abbrev T212:=Throw×List Gust×Int×Unit->Option (Drop×Unit)
abbrev N212(f:T212):=OKP 212 (mkE p212 r310 false f)
def F212(f217:T356)(f300:T350)(f135:T352):T212:=λa=>
 (f217 (a.1.jet,(w64 (a.2.2.1-a.1.born)),())).bind λx1=>(f300 (a.2.1,a.1.born,a.2.2.1,())).bind λx2=>(f135 (a.1.jet,(w64 (a.2.2.1-a.1.born)),())).bind λx3=>some ((⟨a.1.name,a.1.born,⟨(w64 (x1.1.X+x2.1.X)),(w64 (x1.1.Y+x2.1.Y))⟩,x3.1⟩:Drop),())
theorem ok212{f217 f300 f135} :N217 f217->N300 f300->N135 f135->N212 (F212 f217 f300 f135):=λa b c=>fk0 (.cons a (.cons b (.cons c .nil))) func212
abbrev N113(f:T255):=OKP 113 (mkE p329 r238 false f)
def q113_0:List SP:=pat 36 0 [(1,.one (.int .i64)),(2,.box 5000001 [.r .device,.r .cue,.r .gust,.int .i64]),(5,.one (.o 5000002 .drop)),(10,.one (.o 5000003 .throw)),(11,.one (.int .i64)),(12,.one (.int .i64))]
def s113_0(f59:T59)(f211:T211)(f212:T212):Lp (Int×ShD×List Drop×List Throw×Int×Int×Unit) (List Drop×Unit):=λt2 rec K=>
 cond (t2.2.2.2.2.2.1<t2.2.2.2.2.1) (rdL t2.2.2.2.1 t2.2.2.2.2.2.1 λ_=>(t2.2.2.2.1[(Int.toNat t2.2.2.2.2.2.1)]?).bind λx1=>cond (x1.born<=t2.1) ((f211 (x1,())).bind λx2=>cond (t2.1<x2.1) ((f212 (x1,t2.2.1.2.2.1,t2.1,())).bind λx3=>capK (t2.2.2.1.length+List.length ([x3.1]:List Drop)) (rec (t2.1,t2.2.1,(t2.2.2.1++([x3.1]:List Drop)),t2.2.2.2.1,t2.2.2.2.2.1,(w64 (t2.2.2.2.2.2.1+1)),()))) (rec (t2.1,t2.2.1,t2.2.2.1,t2.2.2.2.1,t2.2.2.2.2.1,(w64 (t2.2.2.2.2.2.1+1)),()))) (rec (t2.1,t2.2.1,t2.2.2.1,t2.2.2.2.1,t2.2.2.2.2.1,(w64 (t2.2.2.2.2.2.1+1)),()))) (K t2)
def F113(f59:T59)(f211:T211)(f212:T212):T255:=λa=>
 (f59 (a.1,())).bind λx1=>ZAD (s113_0 f59 f211 f212) fuel (a.2.1,a.1,([]:List Drop),x1.1,(Int.ofNat x1.1.length),0,()) λx2=>some (x2.2.2.1,())
theorem ok113{f59 f211 f212} :N59 f59->N211 f211->N212 f212->N113 (F113 f59 f211 f212):=λa b c=>fk (ps:=p329) (rs:=r238) (L:=lenv [(0,ZAI q113_0 (s113_0 f59 f211 f212))]) (ls:=[(0,ZAJ f113 0)]) (.cons a (.cons b (.cons c .nil))) func113 (.cons q113_0 (s113_0 f59 f211 f212) rfl (λ_ _ _ _=>by kernel_rfl) .nil)
abbrev N114(f:T238):=OKP 114 (mkE p139 r238 false f)
def q114_0:List SP:=pat 25 0 [(1,.box 5000001 [.r .device,.r .cue,.r .gust,.int .i64]),(3,.one (.o 5000002 .drop)),(8,.one (.o 5000003 .throw)),(9,.one (.int .i64)),(10,.one (.int .i64))]
def s114_0(f59:T59)(f211:T211)(f212:T212):Lp (ShD×List Drop×List Throw×Int×Int×Unit) (List Drop×Unit):=λt2 rec K=>
 cond (t2.2.2.2.2.1<t2.2.2.2.1) (rdL t2.2.2.1 t2.2.2.2.2.1 λ_=>(t2.2.2.1[(Int.toNat t2.2.2.2.2.1)]?).bind λx1=>(f211 (x1,())).bind λx2=>(f212 (x1,t2.1.2.2.1,x2.1,())).bind λx3=>capK (t2.2.1.length+List.length ([x3.1]:List Drop)) (rec (t2.1,(t2.2.1++([x3.1]:List Drop)),t2.2.2.1,t2.2.2.2.1,(w64 (t2.2.2.2.2.1+1)),()))) (K t2)
def F114(f59:T59)(f211:T211)(f212:T212):T238:=λa=>
 (f59 (a.1,())).bind λx1=>ZAD (s114_0 f59 f211 f212) fuel (a.1,([]:List Drop),x1.1,(Int.ofNat x1.1.length),0,()) λx2=>some (x2.2.1,())
theorem ok114{f59 f211 f212} :N59 f59->N211 f211->N212 f212->N114 (F114 f59 f211 f212):=λa b c=>fk (ps:=p139) (rs:=r238) (L:=lenv [(0,ZAI q114_0 (s114_0 f59 f211 f212))]) (ls:=[(0,ZAJ f114 0)]) (.cons a (.cons b (.cons c .nil))) func114 (.cons q114_0 (s114_0 f59 f211 f212) rfl (λ_ _ _ _=>by kernel_rfl) .nil)
abbrev N115(f:T256):=OKP 115 (mkE p329 p269 false f)
def q115_0:List SP:=pat 23 0 [(1,.one (.int .i64)),(5,.one (.int .i64)),(9,.one (.o 5000001 .throw)),(10,.one (.int .i64)),(11,.one (.int .i64))]
def s115_0(f59:T59):Lp (Int×Int×List Throw×Int×Int×Unit) (Int×Unit):=λt2 rec K=>
 cond (t2.2.2.2.2.1<t2.2.2.2.1) (rdL t2.2.2.1 t2.2.2.2.2.1 λ_=>(t2.2.2.1[(Int.toNat t2.2.2.2.2.1)]?).bind λx1=>cond (x1.born<=t2.1) (rec (t2.1,(w64 (t2.2.1+1)),t2.2.2.1,t2.2.2.2.1,(w64 (t2.2.2.2.2.1+1)),())) (rec (t2.1,t2.2.1,t2.2.2.1,t2.2.2.2.1,(w64 (t2.2.2.2.2.1+1)),()))) (K t2)
def F115(f59:T59):T256:=λa=>
 (f59 (a.1,())).bind λx1=>ZAD (s115_0 f59) fuel (a.2.1,0,x1.1,(Int.ofNat x1.1.length),0,()) λx2=>some (x2.2.1,())
theorem ok115{f59} :N59 f59->N115 (F115 f59):=λa=>fk (ps:=p329) (rs:=p269) (L:=lenv [(0,ZAI q115_0 (s115_0 f59))]) (ls:=[(0,ZAJ f115 0)]) (.cons a .nil) func115 (.cons q115_0 (s115_0 f59) rfl (λ_ _ _ _=>by kernel_rfl) .nil)
abbrev N116(f:T256):=OKP 116 (mkE p329 p269 false f)
def q116_0:List SP:=pat 23 0 [(1,.one (.int .i64)),(5,.one (.int .i64)),(9,.one (.o 5000001 .throw)),(10,.one (.int .i64)),(11,.one (.int .i64))]
def s116_0(f59:T59)(f211:T211):Lp (Int×Int×List Throw×Int×Int×Unit) (Int×Unit):=λt2 rec K=>
 cond (t2.2.2.2.2.1<t2.2.2.2.1) (rdL t2.2.2.1 t2.2.2.2.2.1 λ_=>(t2.2.2.1[(Int.toNat t2.2.2.2.2.1)]?).bind λx1=>(f211 (x1,())).bind λx2=>cond (x2.1<=t2.1) (rec (t2.1,(w64 (t2.2.1+1)),t2.2.2.1,t2.2.2.2.1,(w64 (t2.2.2.2.2.1+1)),())) (rec (t2.1,t2.2.1,t2.2.2.1,t2.2.2.2.1,(w64 (t2.2.2.2.2.1+1)),()))) (K t2)
def F116(f59:T59)(f211:T211):T256:=λa=>
 (f59 (a.1,())).bind λx1=>ZAD (s116_0 f59 f211) fuel (a.2.1,0,x1.1,(Int.ofNat x1.1.length),0,()) λx2=>some (x2.2.1,())
theorem ok116{f59 f211} :N59 f59->N211 f211->N116 (F116 f59 f211):=λa b=>fk (ps:=p329) (rs:=p269) (L:=lenv [(0,ZAI q116_0 (s116_0 f59 f211))]) (ls:=[(0,ZAJ f116 0)]) (.cons a (.cons b .nil)) func116 (.cons q116_0 (s116_0 f59 f211) rfl (λ_ _ _ _=>by kernel_rfl) .nil)
abbrev N60(f:T312):=OKP 60 (mkE p331 p358 false f)
def F60(f126:T311)(f135:T352):T312:=λa=>
 (f126 (a.1,())).bind λx1=>(f135 (a.1,(w64 (Int.tdiv x1.1 2)),())).bind λx2=>some ((w64 (Int.tdiv x1.1 2)),x2.1,())
theorem ok60{f126 f135} :N126 f126->N135 f135->N60 (F60 f126 f135):=λa b=>fk0 (.cons a (.cons b .nil)) func60
def p22:List SP:=[.agg [.r .device,.r .cue,.r .gust,.int .i64]]
def r22:List SP:=[.one (.int .i64)]
abbrev T22:=ShD×Unit->Option (Int×Unit)
abbrev N22(f:T22):=OKP 22 (mkE p22 r22 false f)
def q22_0:List SP:=pat 26 0 [(3,.one (.int .i64)),(9,.one (.o 5000001 .throw)),(10,.one (.int .i64)),(11,.one (.int .i64))]
def s22_0(f59:T59)(f60:T312):Lp (Int×List Throw×Int×Int×Unit) (Int×Unit):=λt2 rec K=>
 cond (t2.2.2.2.1<t2.2.2.1) (rdL t2.2.1 t2.2.2.2.1 λ_=>(t2.2.1[(Int.toNat t2.2.2.2.1)]?).bind λx1=>(f60 (x1.jet,())).bind λx2=>rec ((mx t2.1 x2.2.1),t2.2.1,t2.2.2.1,(w64 (t2.2.2.2.1+1)),())) (K t2)
def F22(f59:T59)(f60:T312):T22:=λa=>
 (f59 (a.1,())).bind λx1=>ZAD (s22_0 f59 f60) fuel (0,x1.1,(Int.ofNat x1.1.length),0,()) λx2=>some (x2.1,())
theorem ok22{f59 f60} :N59 f59->N60 f60->N22 (F22 f59 f60):=λa b=>fk (ps:=p22) (rs:=r22) (L:=lenv [(0,ZAI q22_0 (s22_0 f59 f60))]) (ls:=[(0,ZAJ f22 0)]) (.cons a (.cons b .nil)) func22 (.cons q22_0 (s22_0 f59 f60) rfl (λ_ _ _ _=>by kernel_rfl) .nil)
abbrev N127(f:T315):=OKP 127 (mkE p357 p181 false f)
def q127_0:List SP:=pat 40 0 [(1,.one (.int .i64)),(4,.boxt 5000001 .place),(5,.boxt 5000002 .place),(20,.one (.r .place)),(21,.one (.int .i64)),(22,.one (.int .i64))]
def s127_0(f51:T51)(f219:T269)(f220:T355):Lp (Int×Place×Place×List Place×Int×Int×Unit) (Place×Unit):=λt4 rec K=>
 cond (t4.2.2.2.2.2.1<t4.2.2.2.2.1) (rdL t4.2.2.2.1 t4.2.2.2.2.2.1 λx1=>(f220 (x1,(w64 (0-t4.1)),())).bind λx2=>(f220 (t4.2.2.1,(w64 (0-t4.1)),())).bind λx3=>cond (x2.1.X>x3.1.X) (rec (t4.1,t4.2.1,x1,t4.2.2.2.1,t4.2.2.2.2.1,(w64 (t4.2.2.2.2.2.1+1)),())) (rec (t4.1,t4.2.1,t4.2.2.1,t4.2.2.2.1,t4.2.2.2.2.1,(w64 (t4.2.2.2.2.2.1+1)),()))) (K t4)
def F127(f51:T51)(f219:T269)(f220:T355):T315:=λa=>
 (f51 (a.1,())).bind λx1=>cond (!(!x1.1)) ((f219 (a.2.1,())).bind λx2=>cond (!x2.1) (some ((⟨0,0⟩:Place),())) (rdL a.1 0 λx3=>ZAD (s127_0 f51 f219 f220) fuel (a.2.1,(⟨0,0⟩:Place),x3,a.1,(Int.ofNat a.1.length),0,()) λx4=>some (x4.2.2.1,()))) (some ((⟨0,0⟩:Place),()))
theorem ok127{f51 f219 f220} :N51 f51->N219 f219->N220 f220->N127 (F127 f51 f219 f220):=λa b c=>fk (ps:=p357) (rs:=p181) (L:=lenv [(0,ZAI q127_0 (s127_0 f51 f219 f220))]) (ls:=[(0,ZAJ f127 0)]) (.cons a (.cons b (.cons c .nil))) func127 (.cons q127_0 (s127_0 f51 f219 f220) rfl (λ_ _ _ _=>by kernel_rfl) .nil)
abbrev N128(f:T353):=OKP 128 (mkE p353 r268 false f)
def F128:T353:=λa=>
 cond (a.2.2.1=0) (some ((decide (a.1.X>a.2.1.High.X)),())) (cond (a.2.2.1=1) (some ((decide (a.1.Y>a.2.1.High.Y)),())) (cond (a.2.2.1=2) (some ((decide (a.1.X<a.2.1.Low.X)),())) (some ((decide (a.1.Y<a.2.1.Low.Y)),()))))
theorem ok128:N128 (F128):=fk0 .nil func128
def p53:List SP:=[.agg [.r .device,.r .cue,.r .gust,.int .i64],.one (.r .place),.t .box]
def r53:List SP:=[.t .throw,.t .place,.t .place,.one (.bool)]
abbrev T53:=ShD×List Place×Box×Unit->Option (Throw×Place×Place×Bool×Unit)
abbrev N53(f:T53):=OKP 53 (mkE p53 r53 false f)
def q53_2:List SP:=pat 78 0 [(1,.one (.r .place)),(5,.boxt 5002001 .box),(6,.boxt 5002002 .throw),(7,.boxt 5002003 .place),(8,.boxt 5002004 .place),(11,.boxt 5002005 .throw),(12,.boxt 5002006 .place),(14,.one (.int .i64)),(30,.one (.o 5002007 .throw)),(31,.one (.int .i64)),(32,.one (.int .i64)),(45,.one (.int .i64))]
def s53_2(f51:T51)(f52:T52)(f59:T59)(f125:T316)(f126:T311)(f127:T315)(f128:T353):Lp (List Place×Box×Throw×Place×Place×Throw×Place×Int×List Throw×Int×Int×Int×Unit) (Throw×Place×Place×Bool×Unit):=λt8 rec K=>
 cond (t8.2.2.2.2.2.2.2.2.2.2.2.1<4) ((f127 (t8.1,t8.2.2.2.2.2.2.2.2.2.2.2.1,())).bind λx1=>(f128 ((⟨(w64 (t8.2.2.2.2.2.2.1.X+(w64 (t8.2.2.2.2.2.2.2.1*x1.1.X)))),(w64 (t8.2.2.2.2.2.2.1.Y+(w64 (t8.2.2.2.2.2.2.2.1*x1.1.Y))))⟩:Place),t8.2.1,t8.2.2.2.2.2.2.2.2.2.2.2.1,())).bind λx2=>cond x2.1 (some (t8.2.2.2.2.2.1,(⟨(w64 (t8.2.2.2.2.2.2.1.X+(w64 (t8.2.2.2.2.2.2.2.1*x1.1.X)))),(w64 (t8.2.2.2.2.2.2.1.Y+(w64 (t8.2.2.2.2.2.2.2.1*x1.1.Y))))⟩:Place),x1.1,true,())) (rec (t8.1,t8.2.1,t8.2.2.1,t8.2.2.2.1,t8.2.2.2.2.1,t8.2.2.2.2.2.1,t8.2.2.2.2.2.2.1,t8.2.2.2.2.2.2.2.1,t8.2.2.2.2.2.2.2.2.1,t8.2.2.2.2.2.2.2.2.2.1,t8.2.2.2.2.2.2.2.2.2.2.1,(w64 (t8.2.2.2.2.2.2.2.2.2.2.2.1+1)),()))) (K t8)
def q53_0:List SP:=pat 78 0 [(1,.one (.r .place)),(5,.boxt 5000001 .box),(6,.boxt 5000002 .throw),(7,.boxt 5000003 .place),(8,.boxt 5000004 .place),(30,.one (.o 5000005 .throw)),(31,.one (.int .i64)),(32,.one (.int .i64))]
def s53_0(f51:T51)(f52:T52)(f59:T59)(f125:T316)(f126:T311)(f127:T315)(f128:T353):Lp (List Place×Box×Throw×Place×Place×List Throw×Int×Int×Unit) (Throw×Place×Place×Bool×Unit):=λt4 rec K=>
 cond (t4.2.2.2.2.2.2.2.1<t4.2.2.2.2.2.2.1) (rdL t4.2.2.2.2.2.1 t4.2.2.2.2.2.2.2.1 λ_=>(t4.2.2.2.2.2.1[(Int.toNat t4.2.2.2.2.2.2.2.1)]?).bind λx1=>(f125 (x1.jet,())).bind λx2=>(f126 (x1.jet,())).bind λx3=>ZAD (s53_2 f51 f52 f59 f125 f126 f127 f128) fuel (t4.1,t4.2.1,t4.2.2.1,t4.2.2.2.1,t4.2.2.2.2.1,x1,x2.1,x3.1,t4.2.2.2.2.2.1,t4.2.2.2.2.2.2.1,t4.2.2.2.2.2.2.2.1,0,()) λx4=>rec (x4.1,x4.2.1,x4.2.2.1,x4.2.2.2.1,x4.2.2.2.2.1,x4.2.2.2.2.2.2.2.2.1,x4.2.2.2.2.2.2.2.2.2.1,(w64 (x4.2.2.2.2.2.2.2.2.2.2.1+1)),())) (K t4)
def F53(f51:T51)(f52:T52)(f59:T59)(f125:T316)(f126:T311)(f127:T315)(f128:T353):T53:=λa=>
 (f51 (a.2.1,())).bind λx1=>cond (!(!x1.1)) ((f52 (a.2.2.1,())).bind λx2=>cond (!x2.1) (some ((⟨[],0,⟨⟨0,0⟩,0,0,0⟩⟩:Throw),(⟨0,0⟩:Place),(⟨0,0⟩:Place),false,())) ((f59 (a.1,())).bind λx3=>ZAD (s53_0 f51 f52 f59 f125 f126 f127 f128) fuel (a.2.1,a.2.2.1,(⟨[],0,⟨⟨0,0⟩,0,0,0⟩⟩:Throw),(⟨0,0⟩:Place),(⟨0,0⟩:Place),x3.1,(Int.ofNat x3.1.length),0,()) λx4=>some ((⟨[],0,⟨⟨0,0⟩,0,0,0⟩⟩:Throw),(⟨0,0⟩:Place),(⟨0,0⟩:Place),false,()))) (some ((⟨[],0,⟨⟨0,0⟩,0,0,0⟩⟩:Throw),(⟨0,0⟩:Place),(⟨0,0⟩:Place),false,()))
theorem ok53{f51 f52 f59 f125 f126 f127 f128} :N51 f51->N52 f52->N59 f59->N125 f125->N126 f126->N127 f127->N128 f128->N53 (F53 f51 f52 f59 f125 f126 f127 f128):=λa b c d e g i=>fka (ann:=λn=>Nat.beq n 2499999 || Nat.beq n 7402002 || Nat.beq n 7402003) (ps:=p53) (rs:=r53) (L:=lenv [(0,ZAI q53_0 (s53_0 f51 f52 f59 f125 f126 f127 f128)),(2,ZAI q53_2 (s53_2 f51 f52 f59 f125 f126 f127 f128))]) (ls:=[(0,ZAJ f53 0),(2,ZAJ f53 1)]) (.cons a (.cons b (.cons c (.cons d (.cons e (.cons g (.cons i .nil))))))) func53 (.cons q53_0 (s53_0 f51 f52 f59 f125 f126 f127 f128) rfl (λ_ _ _ _=>by kernel_rfl) (.cons q53_2 (s53_2 f51 f52 f59 f125 f126 f127 f128) rfl (λ_ _ _ _=>by kernel_rfl) .nil))
def p19:List SP:=[.agg [.r .device,.r .cue,.r .gust,.int .i64],.one (.r .place),.t .box]
def r19:List SP:=[.one (.str)]
abbrev T19:=ShD×List Place×Box×Unit->Option (Str×Unit)
abbrev N19(f:T19):=OKP 19 (mkE p19 r19 false f)
def F19(f50:T50)(f51:T51)(f52:T52)(f53:T53)(f54:T54)(f55:T55):T19:=λa=>
 (f50 (a.1,())).bind λx1=>cond (!(!x1.1)) ((f51 (a.2.1,())).bind λx2=>cond (!(!x2.1)) ((f52 (a.2.2.1,())).bind λx3=>cond (!x3.1) (some ([110,111,116,104,105,110,103,32,116,111,32,115,97,121],())) ((f53 a).bind λx4=>cond (!x4.2.2.2.1) (some ([115,97,102,101],())) (capK (List.length [119,101,116,58,32]+List.length x4.1.name) (capK (List.length ([119,101,116,58,32]++x4.1.name)+List.length [32,97,116,32]) ((f54 (x4.1.born,())).bind λx5=>capK (List.length (([119,101,116,58,32]++x4.1.name)++[32,97,116,32])+x5.1.length) (capK (List.length ((([119,101,116,58,32]++x4.1.name)++[32,97,116,32])++x5.1)+List.length [32,108,97,110,100,115,32,97,116,32]) ((f55 (x4.2.1,())).bind λx6=>capK (List.length (((([119,101,116,58,32]++x4.1.name)++[32,97,116,32])++x5.1)++[32,108,97,110,100,115,32,97,116,32])+x6.1.length) (capK (List.length ((((([119,101,116,58,32]++x4.1.name)++[32,97,116,32])++x5.1)++[32,108,97,110,100,115,32,97,116,32])++x6.1)+List.length [32,105,110,32]) ((f55 (x4.2.2.1,())).bind λx7=>capK (List.length (((((([119,101,116,58,32]++x4.1.name)++[32,97,116,32])++x5.1)++[32,108,97,110,100,115,32,97,116,32])++x6.1)++[32,105,110,32])+x7.1.length) (some (((((((([119,101,116,58,32]++x4.1.name)++[32,97,116,32])++x5.1)++[32,108,97,110,100,115,32,97,116,32])++x6.1)++[32,105,110,32])++x7.1),()))))))))))) (some ([110,111,116,104,105,110,103,32,116,111,32,115,97,121],()))) (some ([110,111,116,104,105,110,103,32,116,111,32,115,97,121],()))
theorem ok19{f50 f51 f52 f53 f54 f55} :N50 f50->N51 f51->N52 f52->N53 f53->N54 f54->N55 f55->N19 (F19 f50 f51 f52 f53 f54 f55):=λa b c d e g=>fk0 (.cons a (.cons b (.cons c (.cons d (.cons e (.cons g .nil)))))) func19
abbrev N117(f:T241):=OKP 117 (mkE p241 r319 false f)
def q117_0:List SP:=pat 42 0 [(1,.one (.r .place)),(4,.boxt 5000001 .box),(6,.one (.o 5000002 .place)),(17,.one (.o 5000003 .throw)),(18,.one (.int .i64)),(19,.one (.int .i64))]
def s117_0(f51:T51)(f59:T59)(f213:T318)(f214:T319):Lp (List Place×Box×List Place×List Throw×Int×Int×Unit) (Box×Bool×Unit):=λt3 rec K=>
 cond (t3.2.2.2.2.2.1<t3.2.2.2.2.1) (rdL t3.2.2.2.1 t3.2.2.2.2.2.1 λ_=>(t3.2.2.2.1[(Int.toNat t3.2.2.2.2.2.1)]?).bind λx1=>(f213 (x1.jet,t3.1,())).bind λx2=>capK (t3.2.2.1.length+List.length ([x2.1.Low,x2.1.High]:List Place)) (rec (t3.1,t3.2.1,(t3.2.2.1++([x2.1.Low,x2.1.High]:List Place)),t3.2.2.2.1,t3.2.2.2.2.1,(w64 (t3.2.2.2.2.2.1+1)),()))) (K t3)
def F117(f51:T51)(f59:T59)(f213:T318)(f214:T319):T241:=λa=>
 (f51 (a.2.1,())).bind λx1=>cond (!x1.1) (some ((⟨⟨0,0⟩,⟨0,0⟩⟩:Box),false,())) ((f59 (a.1,())).bind λx2=>ZAD (s117_0 f51 f59 f213 f214) fuel (a.2.1,(⟨⟨0,0⟩,⟨0,0⟩⟩:Box),([]:List Place),x2.1,(Int.ofNat x2.1.length),0,()) λx3=>(f214 (x3.2.2.1,())).bind λx4=>some x4)
theorem ok117{f51 f59 f213 f214} :N51 f51->N59 f59->N213 f213->N214 f214->N117 (F117 f51 f59 f213 f214):=λa b c d=>fk (ps:=p241) (rs:=r319) (L:=lenv [(0,ZAI q117_0 (s117_0 f51 f59 f213 f214))]) (ls:=[(0,ZAJ f117 0)]) (.cons a (.cons b (.cons c (.cons d .nil)))) func117 (.cons q117_0 (s117_0 f51 f59 f213 f214) rfl (λ_ _ _ _=>by kernel_rfl) .nil)
def p56:List SP:=[.agg [.r .device,.r .cue,.r .gust,.int .i64],.t .box]
def r56:List SP:=[.one (.o 0 .drop)]
abbrev T56:=ShD×Box×Unit->Option (List Drop×Unit)
abbrev N56(f:T56):=OKP 56 (mkE p56 r56 false f)
def q56_0:List SP:=pat 31 0 [(3,.boxt 5000001 .box),(5,.one (.o 5000002 .drop)),(14,.one (.o 5000003 .drop)),(15,.one (.int .i64)),(16,.one (.int .i64))]
def s56_0(f52:T52)(f114:T238)(f130:T320):Lp (Box×List Drop×List Drop×Int×Int×Unit) (List Drop×Unit):=λt3 rec K=>
 cond (t3.2.2.2.2.1<t3.2.2.2.1) (rdL t3.2.2.1 t3.2.2.2.2.1 λ_=>(t3.2.2.1[(Int.toNat t3.2.2.2.2.1)]?).bind λx1=>(f130 (t3.1,x1.At,())).bind λx2=>cond (!x2.1) (capK (t3.2.1.length+List.length ([x1]:List Drop)) (rec (t3.1,(t3.2.1++([x1]:List Drop)),t3.2.2.1,t3.2.2.2.1,(w64 (t3.2.2.2.2.1+1)),()))) (rec (t3.1,t3.2.1,t3.2.2.1,t3.2.2.2.1,(w64 (t3.2.2.2.2.1+1)),()))) (K t3)
def F56(f52:T52)(f114:T238)(f130:T320):T56:=λa=>
 (f52 (a.2.1,())).bind λx1=>cond (!x1.1) (some (([]:List Drop),())) ((f114 (a.1,())).bind λx2=>ZAD (s56_0 f52 f114 f130) fuel (a.2.1,([]:List Drop),x2.1,(Int.ofNat x2.1.length),0,()) λx3=>some (x3.2.1,()))
theorem ok56{f52 f114 f130} :N52 f52->N114 f114->N130 f130->N56 (F56 f52 f114 f130):=λa b c=>fk (ps:=p56) (rs:=r56) (L:=lenv [(0,ZAI q56_0 (s56_0 f52 f114 f130))]) (ls:=[(0,ZAJ f56 0)]) (.cons a (.cons b (.cons c .nil))) func56 (.cons q56_0 (s56_0 f52 f114 f130) rfl (λ_ _ _ _=>by kernel_rfl) .nil)
def p20:List SP:=[.agg [.r .device,.r .cue,.r .gust,.int .i64],.t .box]
def r20:List SP:=[.one (.bool)]
abbrev T20:=ShD×Box×Unit->Option (Bool×Unit)
abbrev N20(f:T20):=OKP 20 (mkE p20 r20 false f)
def F20(f50:T50)(f52:T52)(f56:T56):T20:=λa=>
 (f50 (a.1,())).bind λx1=>cond x1.1 ((f52 (a.2.1,())).bind λx2=>cond x2.1 ((f56 a).bind λx3=>some ((decide ((Int.ofNat x3.1.length)=0)),())) (some (false,()))) (some (false,()))
theorem ok20{f50 f52 f56} :N50 f50->N52 f52->N56 f56->N20 (F20 f50 f52 f56):=λa b c=>fk0 (.cons a (.cons b (.cons c .nil))) func20
def p49:List SP:=[.agg [.r .device,.r .cue,.r .gust,.int .i64,.r .place,.int .i64,.int .i64,.int .i64,.int .i64],.agg [.str,.str,.int .i64,.r .place]]
def r49:List SP:=[.one (.str)]
abbrev T49:=DkD×(Str×Str×Int×List Place×Unit)×Unit->Option (Str×Unit)
abbrev N49(f:T49):=OKP 49 (mkE p49 r49 false f)
def q49_1:List SP:=pat 171 0 [(5,.box 5001001 [.r .device,.r .cue,.r .gust,.int .i64]),(6,.one (.o 5001002 .str)),(35,.one (.o 5001003 .int)),(36,.one (.int .i64)),(37,.one (.int .i64))]
def s49_1(f110:T249)(f21:T21)(f111:T329)(f112:T254)(f113:T255)(f54:T54)(f55:T55)(f114:T238)(f115:T256)(f116:T256)(f22:T22)(f19:T19)(f117:T241)(f20:T20):Lp (ShD×List Str×List Int×Int×Int×Unit) (Str×Unit):=λt4 rec K=>
 cond (t4.2.2.2.2.1<t4.2.2.2.1) (rdL t4.2.2.1 t4.2.2.2.2.1 λ_=>(t4.2.2.1[(Int.toNat t4.2.2.2.2.1)]?).bind λx1=>cond (!(x1=0)) (rdL t4.1.1 t4.2.2.2.2.1 λx2=>capK (List.length x2.Name+List.length [32]) ((f21 (x1,())).bind λx3=>capK (List.length (x2.Name++[32])+x3.1.length) (capK (t4.2.1.length+List.length ([((x2.Name++[32])++x3.1)]:List Str)) (rec (t4.1,(t4.2.1++([((x2.Name++[32])++x3.1)]:List Str)),t4.2.2.1,t4.2.2.2.1,(w64 (t4.2.2.2.2.1+1)),()))))) (rec (t4.1,t4.2.1,t4.2.2.1,t4.2.2.2.1,(w64 (t4.2.2.2.2.1+1)),()))) (K t4)
def q49_3:List SP:=pat 171 0 [(6,.one (.o 5003001 .str)),(65,.one (.o 5003002 .drop)),(66,.one (.int .i64)),(67,.one (.int .i64))]
def s49_3(f110:T249)(f21:T21)(f111:T329)(f112:T254)(f113:T255)(f54:T54)(f55:T55)(f114:T238)(f115:T256)(f116:T256)(f22:T22)(f19:T19)(f117:T241)(f20:T20):Lp (List Str×List Drop×Int×Int×Unit) (Str×Unit):=λt11 rec K=>
 cond (t11.2.2.2.1<t11.2.2.1) (rdL t11.2.1 t11.2.2.2.1 λ_=>(t11.2.1[(Int.toNat t11.2.2.2.1)]?).bind λx1=>capK (List.length x1.From+List.length [32]) ((f54 (x1.Born,())).bind λx2=>capK (List.length (x1.From++[32])+x2.1.length) (capK (List.length ((x1.From++[32])++x2.1)+List.length [32]) ((f55 (x1.At,())).bind λx3=>capK (List.length (((x1.From++[32])++x2.1)++[32])+x3.1.length) (capK (List.length ((((x1.From++[32])++x2.1)++[32])++x3.1)+List.length [32]) ((f21 (x1.Height,())).bind λx4=>capK (List.length (((((x1.From++[32])++x2.1)++[32])++x3.1)++[32])+x4.1.length) (capK (t11.1.length+List.length ([((((((x1.From++[32])++x2.1)++[32])++x3.1)++[32])++x4.1)]:List Str)) (rec ((t11.1++([((((((x1.From++[32])++x2.1)++[32])++x3.1)++[32])++x4.1)]:List Str)),t11.2.1,t11.2.2.1,(w64 (t11.2.2.2.1+1)),()))))))))) (K t11)
def q49_5:List SP:=pat 171 0 [(6,.one (.o 5005001 .str)),(97,.one (.o 5005002 .drop)),(98,.one (.int .i64)),(99,.one (.int .i64))]
def s49_5(f110:T249)(f21:T21)(f111:T329)(f112:T254)(f113:T255)(f54:T54)(f55:T55)(f114:T238)(f115:T256)(f116:T256)(f22:T22)(f19:T19)(f117:T241)(f20:T20):Lp (List Str×List Drop×Int×Int×Unit) (Str×Unit):=λt19 rec K=>
 cond (t19.2.2.2.1<t19.2.2.1) (rdL t19.2.1 t19.2.2.2.1 λ_=>(t19.2.1[(Int.toNat t19.2.2.2.1)]?).bind λx1=>capK (List.length x1.From+List.length [32]) ((f54 (x1.Born,())).bind λx2=>capK (List.length (x1.From++[32])+x2.1.length) (capK (List.length ((x1.From++[32])++x2.1)+List.length [32]) ((f55 (x1.At,())).bind λx3=>capK (List.length (((x1.From++[32])++x2.1)++[32])+x3.1.length) (capK (t19.1.length+List.length ([((((x1.From++[32])++x2.1)++[32])++x3.1)]:List Str)) (rec ((t19.1++([((((x1.From++[32])++x2.1)++[32])++x3.1)]:List Str)),t19.2.1,t19.2.2.1,(w64 (t19.2.2.2.1+1)),()))))))) (K t19)
def F49(f110:T249)(f21:T21)(f111:T329)(f112:T254)(f113:T255)(f54:T54)(f55:T55)(f114:T238)(f115:T256)(f116:T256)(f22:T22)(f19:T19)(f117:T241)(f20:T20):T49:=λa=>
 cond (a.2.1.1=[108,101,118,101,108]) ((f110 (a.1.2.1,a.2.1.2.1,a.2.1.2.2.1,())).bind λx1=>(f21 (x1.1,())).bind λx2=>some (x2.1,())) (cond (a.2.1.1=[108,105,102,116,115]) ((f111 ((a.1.1,a.1.2.1,a.1.2.2.1,a.1.2.2.2.1,()),a.2.1.2.2.1,())).bind λx1=>ZAD (s49_1 f110 f21 f111 f112 f113 f54 f55 f114 f115 f116 f22 f19 f117 f20) fuel ((a.1.1,a.1.2.1,a.1.2.2.1,a.1.2.2.2.1,()),([]:List Str),x1.1,(Int.ofNat x1.1.length),0,()) λx2=>(f112 (x2.2.1,())).bind λx3=>some (x3.1,())) (cond (a.2.1.1=[100,114,111,112,115]) ((f113 ((a.1.1,a.1.2.1,a.1.2.2.1,a.1.2.2.2.1,()),a.2.1.2.2.1,())).bind λx1=>ZAD (s49_3 f110 f21 f111 f112 f113 f54 f55 f114 f115 f116 f22 f19 f117 f20) fuel (([]:List Str),x1.1,(Int.ofNat x1.1.length),0,()) λx2=>(f112 (x2.1,())).bind λx3=>some (x3.1,())) (cond (a.2.1.1=[108,97,110,100,105,110,103,115]) ((f114 ((a.1.1,a.1.2.1,a.1.2.2.1,a.1.2.2.2.1,()),())).bind λx1=>ZAD (s49_5 f110 f21 f111 f112 f113 f54 f55 f114 f115 f116 f22 f19 f117 f20) fuel (([]:List Str),x1.1,(Int.ofNat x1.1.length),0,()) λx2=>(f112 (x2.1,())).bind λx3=>some (x3.1,())) (cond (a.2.1.1=[99,111,117,110,116]) ((f115 ((a.1.1,a.1.2.1,a.1.2.2.1,a.1.2.2.2.1,()),a.2.1.2.2.1,())).bind λx1=>(f54 (x1.1,())).bind λx2=>capK (x2.1.length+List.length [32]) ((f116 ((a.1.1,a.1.2.1,a.1.2.2.1,a.1.2.2.2.1,()),a.2.1.2.2.1,())).bind λx3=>(f54 (x3.1,())).bind λx4=>capK (List.length (x2.1++[32])+x4.1.length) (some (((x2.1++[32])++x4.1),())))) (cond (a.2.1.1=[104,105,103,104]) ((f22 ((a.1.1,a.1.2.1,a.1.2.2.1,a.1.2.2.2.1,()),())).bind λx1=>(f21 (x1.1,())).bind λx2=>some (x2.1,())) (cond (a.2.1.1=[115,97,102,101]) ((f19 ((a.1.1,a.1.2.1,a.1.2.2.1,a.1.2.2.2.1,()),a.1.2.2.2.2.1,(⟨⟨a.1.2.2.2.2.2.1,a.1.2.2.2.2.2.2.1⟩,⟨a.1.2.2.2.2.2.2.2.1,a.1.2.2.2.2.2.2.2.2.1⟩⟩:Box),())).bind λx1=>some (x1.1,())) (cond (a.2.1.1=[108,101,97,115,116]) ((f117 ((a.1.1,a.1.2.1,a.1.2.2.1,a.1.2.2.2.1,()),a.1.2.2.2.2.1,())).bind λx1=>cond (!x1.2.1) (some ([110,111,110,101],())) ((f55 (x1.1.Low,())).bind λx2=>capK (x2.1.length+List.length [32]) ((f55 (x1.1.High,())).bind λx3=>capK (List.length (x2.1++[32])+x3.1.length) (some (((x2.1++[32])++x3.1),()))))) ((f20 ((a.1.1,a.1.2.1,a.1.2.2.1,a.1.2.2.2.1,()),(⟨⟨a.1.2.2.2.2.2.1,a.1.2.2.2.2.2.2.1⟩,⟨a.1.2.2.2.2.2.2.2.1,a.1.2.2.2.2.2.2.2.2.1⟩⟩:Box),())).bind λx1=>cond x1.1 (some ([121,101,115],())) (some ([110,111],()))))))))))
theorem ok49{f110 f21 f111 f112 f113 f54 f55 f114 f115 f116 f22 f19 f117 f20} :N110 f110->N21 f21->N111 f111->N112 f112->N113 f113->N54 f54->N55 f55->N114 f114->N115 f115->N116 f116->N22 f22->N19 f19->N117 f117->N20 f20->N49 (F49 f110 f21 f111 f112 f113 f54 f55 f114 f115 f116 f22 f19 f117 f20):=λa b c d e g i j k l m o u v=>fk (ps:=p49) (rs:=r49) (L:=lenv [(1,ZAI q49_1 (s49_1 f110 f21 f111 f112 f113 f54 f55 f114 f115 f116 f22 f19 f117 f20)),(3,ZAI q49_3 (s49_3 f110 f21 f111 f112 f113 f54 f55 f114 f115 f116 f22 f19 f117 f20)),(5,ZAI q49_5 (s49_5 f110 f21 f111 f112 f113 f54 f55 f114 f115 f116 f22 f19 f117 f20))]) (ls:=[(1,ZAJ f49 0),(3,ZAJ f49 1),(5,ZAJ f49 2)]) (.cons a (.cons b (.cons c (.cons d (.cons e (.cons g (.cons i (.cons j (.cons k (.cons l (.cons m (.cons o (.cons u (.cons v .nil)))))))))))))) func49 (.cons q49_1 (s49_1 f110 f21 f111 f112 f113 f54 f55 f114 f115 f116 f22 f19 f117 f20) rfl (λ_ _ _ _=>by kernel_rfl) (.cons q49_3 (s49_3 f110 f21 f111 f112 f113 f54 f55 f114 f115 f116 f22 f19 f117 f20) rfl (λ_ _ _ _=>by kernel_rfl) (.cons q49_5 (s49_5 f110 f21 f111 f112 f113 f54 f55 f114 f115 f116 f22 f19 f117 f20) rfl (λ_ _ _ _=>by kernel_rfl) .nil)))
def p18:List SP:=[.agg [.r .device,.r .cue,.r .gust,.int .i64,.r .place,.int .i64,.int .i64,.int .i64,.int .i64],.one (.str)]
def r18:List SP:=[.agg [.o 0 .device,.o 1 .cue,.o 2 .gust,.int .i64,.o 3 .place,.int .i64,.int .i64,.int .i64,.int .i64],.one (.str)]
abbrev T18:=DkD×Str×Unit->Option (DkD×Str×Unit)
abbrev N18(f:T18):=OKP 18 (mkE p18 r18 false f)
def F18(f25:T25)(f46:T46)(f47:T47)(f48:T48)(f49:T49):T18:=λa=>
 (f25 (a.1,())).bind λx1=>cond (!(!x1.1)) (cond (!(a.2.1=[])) (rdL a.2.1 0 λx2=>cond ((Int.ofNat (UInt8.toNat x2))=35) ((f46 (a.1,())).bind λx3=>some (x3.1,[],())) ((f47 (a.2.1,())).bind λx3=>cond (!x3.2.1) ((f46 (a.1,())).bind λx4=>some (x4.1,[119,104,97,116],())) (cond (x3.1.1=[114,111,115,101]) ((f48.2 (a.1,x3.1,())).bind λx4=>cond (!x4.2.2.2.1) ((f46 (a.1,())).bind λx5=>(f49 (a.1,(x3.1.1,x3.1.2.1,x3.1.2.2.1,x4.1,()),())).bind λx6=>some (x5.1,x6.1,())) (cond (!x4.2.2.1) ((f46 (a.1,())).bind λx5=>some (x5.1,[110,111],())) (some ((x4.2.1.1,x4.2.1.2.1,x4.2.1.2.2.1,x4.2.1.2.2.2.1,x4.1,x4.2.1.2.2.2.2.2.1,x4.2.1.2.2.2.2.2.2.1,x4.2.1.2.2.2.2.2.2.2.1,x4.2.1.2.2.2.2.2.2.2.2.1,()),[111,107],())))) ((f48.1 (a.1,x3.1,())).bind λx4=>cond (!x4.2.2.2.1) ((f46 (a.1,())).bind λx5=>(f49 (a.1,(x3.1.1,x3.1.2.1,x3.1.2.2.1,x4.1,()),())).bind λx6=>some (x5.1,x6.1,())) (cond (!x4.2.2.1) ((f46 (a.1,())).bind λx5=>some (x5.1,[110,111],())) (some (x4.2.1,[111,107],()))))))) ((f46 (a.1,())).bind λx2=>some (x2.1,[],()))) ((f46 (a.1,())).bind λx2=>some (x2.1,[],()))
theorem ok18{f25 f46 f47 f48 f49} :N25 f25->N46 f46->N47 f47->OKP 48 (N48 f48)->N49 f49->N18 (F18 f25 f46 f47 f48 f49):=λa b c d e=>fk0 (.cons a (.cons b (.cons c (.cons d (.cons e .nil))))) func18
end Ev
end
