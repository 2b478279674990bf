/- Laid together by program (what the claim does not reach is left out): Fn. -/
import Derived.Test.YtoafhcjocdjkjaaGreatDoorZC03
set_option linter.all false
set_option maxRecDepth 100000
open Go.Proofs.Tryz
noncomputable section
namespace Ev
abbrev DkD:=List Device×List Cue×List Gust×Int×List Place×Int×Int×Int×Int×Unit
abbrev Lp(X R:Type):=X->(X->Option R)->(X->Option R)->Option R
open Go
def tab:Tab:=[(3,⟨1,false,8,[.int .i64 0],[],.int .i64,false⟩),
 (4,⟨1,false,1,[.bool false],[],.bool,false⟩),
 (5,⟨1,false,1,[.int .u8 0],[],.int .u8,false⟩),
 (9,⟨1,false,16,[.str []],[],.str,false⟩),
 (22,⟨1,false,24,[.nils],[],.sl .u8,false⟩),
 (25,⟨1,false,24,[.nils],[],.sl .str,false⟩),
 (32,⟨1,false,24,[.nils],[],.sl .device,false⟩),
 (33,⟨1,false,24,[.nils],[],.sl .cue,false⟩),
 (34,⟨1,false,24,[.nils],[],.sl .gust,false⟩),
 (36,⟨4,true,80,[.nils,.nils,.nils,.int .i64 0],[(0,1,false),(1,1,false),(2,1,false),(3,1,false)],.struct,false⟩),
 (37,⟨1,false,24,[.nils],[],.sl .place,false⟩),
 (39,⟨2,true,16,[.int .i64 0,.int .i64 0],[(0,1,false),(1,1,false)],.struct,true⟩),
 (41,⟨4,true,32,[.int .i64 0,.int .i64 0,.int .i64 0,.int .i64 0],[(0,2,true),(2,2,true)],.struct,true⟩),
 (43,⟨9,true,136,[.nils,.nils,.nils,.int .i64 0,.nils,.int .i64 0,.int .i64 0,.int .i64 0,.int .i64 0],[(0,4,true),(4,1,false),(5,4,true)],.struct,false⟩),
 (55,⟨1,false,24,[.nils],[],.sl .device,false⟩),
 (56,⟨1,false,24,[.nils],[],.sl .cue,false⟩),
 (57,⟨1,false,24,[.nils],[],.sl .gust,false⟩),
 (59,⟨4,true,80,[.nils,.nils,.nils,.int .i64 0],[(0,1,false),(1,1,false),(2,1,false),(3,1,false)],.struct,false⟩),
 (60,⟨1,false,24,[.nils],[],.sl .place,false⟩),
 (61,⟨2,true,16,[.int .i64 0,.int .i64 0],[(0,1,false),(1,1,false)],.struct,false⟩),
 (63,⟨4,true,32,[.int .i64 0,.int .i64 0,.int .i64 0,.int .i64 0],[(0,2,true),(2,2,true)],.struct,false⟩),
 (65,⟨9,true,136,[.nils,.nils,.nils,.int .i64 0,.nils,.int .i64 0,.int .i64 0,.int .i64 0,.int .i64 0],[(0,4,true),(4,1,false),(5,4,true)],.struct,false⟩),
 (76,⟨1,false,24,[.nils],[],.sl .int,false⟩),
 (82,⟨4,true,64,[.str [],.str [],.int .i64 0,.nils],[(0,1,false),(1,1,false),(2,1,false),(3,1,false)],.struct,false⟩),
 (92,⟨5,true,40,[.int .i64 0,.int .i64 0,.int .i64 0,.int .i64 0,.int .i64 0],[(0,2,true),(2,1,false),(3,1,false),(4,1,false)],.struct,false⟩),
 (94,⟨7,true,64,[.str [],.int .i64 0,.int .i64 0,.int .i64 0,.int .i64 0,.int .i64 0,.int .i64 0],[(0,1,false),(1,1,false),(2,5,true)],.struct,false⟩),
 (98,⟨1,false,24,[.nils],[],.sl .drop,false⟩),
 (102,⟨1,false,24,[.nils],[],.sl .throw,false⟩),
 (107,⟨8,true,80,[.str [],.int .i64 0,.str [],.int .i64 0,.int .i64 0,.int .i64 0,.int .i64 0,.int .i64 0],[(0,1,false),(1,1,false),(2,1,false),(3,2,true),(5,1,false),(6,1,false),(7,1,false)],.struct,true⟩),
 (109,⟨3,true,24,[.int .i64 0,.int .i64 0,.int .i64 0],[(0,1,false),(1,2,true)],.struct,true⟩),
 (111,⟨4,true,40,[.int .i64 0,.str [],.int .i64 0,.int .i64 0],[(0,1,false),(1,1,false),(2,1,false),(3,1,false)],.struct,true⟩),
 (123,⟨3,true,40,[.nils,.int .i64 0,.int .i64 0],[(0,1,false),(1,1,false),(2,1,false)],.struct,false⟩),
 (175,⟨5,true,48,[.str [],.int .i64 0,.int .i64 0,.int .i64 0,.int .i64 0],[(0,1,false),(1,1,false),(2,2,true),(4,1,false)],.struct,false⟩),
 (255,⟨8,true,80,[.str [],.int .i64 0,.str [],.int .i64 0,.int .i64 0,.int .i64 0,.int .i64 0,.int .i64 0],[(0,1,false),(1,1,false),(2,1,false),(3,2,true),(5,1,false),(6,1,false),(7,1,false)],.struct,false⟩),
 (257,⟨4,true,40,[.int .i64 0,.str [],.int .i64 0,.int .i64 0],[(0,1,false),(1,1,false),(2,1,false),(3,1,false)],.struct,false⟩),
 (264,⟨3,true,24,[.int .i64 0,.int .i64 0,.int .i64 0],[(0,1,false),(1,2,true)],.struct,false⟩),
 (290,⟨1,false,24,[.nils],[],.sl .throw,false⟩),
 (293,⟨7,true,64,[.str [],.int .i64 0,.int .i64 0,.int .i64 0,.int .i64 0,.int .i64 0,.int .i64 0],[(0,1,false),(1,1,false),(2,5,true)],.struct,false⟩),
 (325,⟨1,false,24,[.nils],[],.sl .bool,false⟩)]
def ZLF:ZBW prog tab:=ZIl (by kernel_rfl) (by kernel_rfl)
def mixed:prog.follows .mixedOrders=true:=by kernel_rfl
abbrev OKP:=OK prog
def fka{E:List (Nat×Entry)}{ann:Nat->Bool}{f:Nat}{fn:Func}{ps rs:List SP}{sh:Bool}{L:LEnv (ZAL (muts ps++rs))}{G:ZAL ps->Option (ZAL (muts ps++rs))}{ls:List (Nat×Code)}(hE:OKs prog E)(hf:prog.funcs[f]?=some fn)(hL:ZCk (envL E) tab ann L (retK tab ps rs fn.results.toList) ls)(hk:(fn.body,(seqN 0 (cids (muts ps++rs)) && Nat.ble (cids ps).length (cids (muts ps++rs)).length && Nat.ble (cids ps).length 100),decide (fn.name= "runtime.NumGoroutine"),ZCG (ZDf fn))=(some (ZDf fn),true,false,ls):=by kernel_rfl)(h: ∀a,runF (envL E) tab ann ps rs fn L a=G a:=by intro _;kernel_rfl):OKP f (mkE ps rs sh G):=by
 simp only[Prod.mk.injEq]at hk
 exact ZUg ZLF (ZUe hE) mixed hf hk.1 hk.2.1 hk.2.2.1 hk.2.2.2 hL h
def fk{E:List (Nat×Entry)}{f:Nat}{fn:Func}{ps rs:List SP}{sh:Bool}{L:LEnv (ZAL (muts ps++rs))}{G:ZAL ps->Option (ZAL (muts ps++rs))}{ls:List (Nat×Code)}(hE:OKs prog E)(hf:prog.funcs[f]?=some fn)(hL:ZCk (envL E) tab (λ_=>false) L (retK tab ps rs fn.results.toList) ls)(hk:(fn.body,(seqN 0 (cids (muts ps++rs)) && Nat.ble (cids ps).length (cids (muts ps++rs)).length && Nat.ble (cids ps).length 100),decide (fn.name= "runtime.NumGoroutine"),ZCG (ZDf fn))=(some (ZDf fn),true,false,ls):=by kernel_rfl)(h: ∀a,runF (envL E) tab (λ_=>false) ps rs fn L a=G a:=by intro _;kernel_rfl):OKP f (mkE ps rs sh G):=fka hE hf hL hk h
def fk1{E:List (Nat×Entry)}{f:Nat}{fn:Func}{sh:Bool}(ps rs q:List SP)(w:ZAL q->(ZAL q->Option (ZAL (muts ps++rs)))->(ZAL q->Option (ZAL (muts ps++rs)))->Option (ZAL (muts ps++rs))){G:ZAL ps->Option (ZAL (muts ps++rs))}(hE:OKs prog E)(hf:prog.funcs[f]?=some fn)(k: ∀(X:Nat->St->Option (ZAL (muts ps++rs))) (rec K:ZAL q->Option (ZAL (muts ps++rs))) (t:ZAL q),ev (envL E) tab (λ_=>false) (lenv [(0,ZA2 q w)]) (retK tab ps rs fn.results.toList) (ZBB fn 0) (λi s=>cond (Nat.beq i 0) (decK 100 q s K) (X i s)) (λs=>decK 100 q s rec) (enc q t)=w t rec K:=by intro _ _ _ _;kernel_rfl)(hk:(fn.body,(seqN 0 (cids (muts ps++rs)) && Nat.ble (cids ps).length (cids (muts ps++rs)).length && Nat.ble (cids ps).length 100),decide (fn.name= "runtime.NumGoroutine"),ZCG (ZDf fn))=(some (ZDf fn),true,false,[(0,ZBB fn 0)]):=by kernel_rfl)(h: ∀a,runF (envL E) tab (λ_=>false) ps rs fn (lenv [(0,ZA2 q w)]) a=G a:=by intro _;kernel_rfl):OKP f (mkE ps rs sh G):=fk (L:=lenv [(0,ZA2 q w)]) (ls:=[(0,ZBB fn 0)]) hE hf (.cons q w rfl k .nil) hk h
def oks2{P:Program}{i0:Nat}{e0:Entry}{i1:Nat}{e1:Entry}(h0:OK P i0 e0)(h1:OK P i1 e1):OKs P [(i0,e0),(i1,e1)]:= .cons h0 (.cons h1 (.nil))
def oks3{P:Program}{i0:Nat}{e0:Entry}{i1:Nat}{e1:Entry}{i2:Nat}{e2:Entry}(h0:OK P i0 e0)(h1:OK P i1 e1)(h2:OK P i2 e2):OKs P [(i0,e0),(i1,e1),(i2,e2)]:= .cons h0 (.cons h1 (.cons h2 (.nil)))
def oks4{P:Program}{i0:Nat}{e0:Entry}{i1:Nat}{e1:Entry}{i2:Nat}{e2:Entry}{i3:Nat}{e3:Entry}(h0:OK P i0 e0)(h1:OK P i1 e1)(h2:OK P i2 e2)(h3:OK P i3 e3):OKs P [(i0,e0),(i1,e1),(i2,e2),(i3,e3)]:= .cons h0 (.cons h1 (.cons h2 (.cons h3 (.nil))))
def oks5{P:Program}{i0:Nat}{e0:Entry}{i1:Nat}{e1:Entry}{i2:Nat}{e2:Entry}{i3:Nat}{e3:Entry}{i4:Nat}{e4:Entry}(h0:OK P i0 e0)(h1:OK P i1 e1)(h2:OK P i2 e2)(h3:OK P i3 e3)(h4:OK P i4 e4):OKs P [(i0,e0),(i1,e1),(i2,e2),(i3,e3),(i4,e4)]:= .cons h0 (.cons h1 (.cons h2 (.cons h3 (.cons h4 (.nil)))))
def oks6{P:Program}{i0:Nat}{e0:Entry}{i1:Nat}{e1:Entry}{i2:Nat}{e2:Entry}{i3:Nat}{e3:Entry}{i4:Nat}{e4:Entry}{i5:Nat}{e5:Entry}(h0:OK P i0 e0)(h1:OK P i1 e1)(h2:OK P i2 e2)(h3:OK P i3 e3)(h4:OK P i4 e4)(h5:OK P i5 e5):OKs P [(i0,e0),(i1,e1),(i2,e2),(i3,e3),(i4,e4),(i5,e5)]:= .cons h0 (.cons h1 (.cons h2 (.cons h3 (.cons h4 (.cons h5 (.nil))))))
def oks7{P:Program}{i0:Nat}{e0:Entry}{i1:Nat}{e1:Entry}{i2:Nat}{e2:Entry}{i3:Nat}{e3:Entry}{i4:Nat}{e4:Entry}{i5:Nat}{e5:Entry}{i6:Nat}{e6:Entry}(h0:OK P i0 e0)(h1:OK P i1 e1)(h2:OK P i2 e2)(h3:OK P i3 e3)(h4:OK P i4 e4)(h5:OK P i5 e5)(h6:OK P i6 e6):OKs P [(i0,e0),(i1,e1),(i2,e2),(i3,e3),(i4,e4),(i5,e5),(i6,e6)]:= .cons h0 (.cons h1 (.cons h2 (.cons h3 (.cons h4 (.cons h5 (.cons h6 (.nil)))))))
def oks9{P:Program}{i0:Nat}{e0:Entry}{i1:Nat}{e1:Entry}{i2:Nat}{e2:Entry}{i3:Nat}{e3:Entry}{i4:Nat}{e4:Entry}{i5:Nat}{e5:Entry}{i6:Nat}{e6:Entry}{i7:Nat}{e7:Entry}{i8:Nat}{e8:Entry}(h0:OK P i0 e0)(h1:OK P i1 e1)(h2:OK P i2 e2)(h3:OK P i3 e3)(h4:OK P i4 e4)(h5:OK P i5 e5)(h6:OK P i6 e6)(h7:OK P i7 e7)(h8:OK P i8 e8):OKs P [(i0,e0),(i1,e1),(i2,e2),(i3,e3),(i4,e4),(i5,e5),(i6,e6),(i7,e7),(i8,e8)]:= .cons h0 (.cons h1 (.cons h2 (.cons h3 (.cons h4 (.cons h5 (.cons h6 (.cons h7 (.cons h8 (.nil)))))))))
def ZPH{P:Program}{i0:Nat}{e0:Entry}{i1:Nat}{e1:Entry}{i2:Nat}{e2:Entry}{i3:Nat}{e3:Entry}{i4:Nat}{e4:Entry}{i5:Nat}{e5:Entry}{i6:Nat}{e6:Entry}{i7:Nat}{e7:Entry}{i8:Nat}{e8:Entry}{i9:Nat}{e9:Entry}(h0:OK P i0 e0)(h1:OK P i1 e1)(h2:OK P i2 e2)(h3:OK P i3 e3)(h4:OK P i4 e4)(h5:OK P i5 e5)(h6:OK P i6 e6)(h7:OK P i7 e7)(h8:OK P i8 e8)(h9:OK P i9 e9):OKs P [(i0,e0),(i1,e1),(i2,e2),(i3,e3),(i4,e4),(i5,e5),(i6,e6),(i7,e7),(i8,e8),(i9,e9)]:= .cons h0 (.cons h1 (.cons h2 (.cons h3 (.cons h4 (.cons h5 (.cons h6 (.cons h7 (.cons h8 (.cons h9 (.nil))))))))))
def ZUt{P:Program}{i0:Nat}{e0:Entry}{i1:Nat}{e1:Entry}{i2:Nat}{e2:Entry}{i3:Nat}{e3:Entry}{i4:Nat}{e4:Entry}{i5:Nat}{e5:Entry}{i6:Nat}{e6:Entry}{i7:Nat}{e7:Entry}{i8:Nat}{e8:Entry}{i9:Nat}{e9:Entry}{i10:Nat}{e10:Entry}(h0:OK P i0 e0)(h1:OK P i1 e1)(h2:OK P i2 e2)(h3:OK P i3 e3)(h4:OK P i4 e4)(h5:OK P i5 e5)(h6:OK P i6 e6)(h7:OK P i7 e7)(h8:OK P i8 e8)(h9:OK P i9 e9)(h10:OK P i10 e10):OKs P [(i0,e0),(i1,e1),(i2,e2),(i3,e3),(i4,e4),(i5,e5),(i6,e6),(i7,e7),(i8,e8),(i9,e9),(i10,e10)]:= .cons h0 (.cons h1 (.cons h2 (.cons h3 (.cons h4 (.cons h5 (.cons h6 (.cons h7 (.cons h8 (.cons h9 (.cons h10 (.nil)))))))))))
def ZPI{P:Program}{i0:Nat}{e0:Entry}{i1:Nat}{e1:Entry}{i2:Nat}{e2:Entry}{i3:Nat}{e3:Entry}{i4:Nat}{e4:Entry}{i5:Nat}{e5:Entry}{i6:Nat}{e6:Entry}{i7:Nat}{e7:Entry}{i8:Nat}{e8:Entry}{i9:Nat}{e9:Entry}{i10:Nat}{e10:Entry}{i11:Nat}{e11:Entry}(h0:OK P i0 e0)(h1:OK P i1 e1)(h2:OK P i2 e2)(h3:OK P i3 e3)(h4:OK P i4 e4)(h5:OK P i5 e5)(h6:OK P i6 e6)(h7:OK P i7 e7)(h8:OK P i8 e8)(h9:OK P i9 e9)(h10:OK P i10 e10)(h11:OK P i11 e11):OKs P [(i0,e0),(i1,e1),(i2,e2),(i3,e3),(i4,e4),(i5,e5),(i6,e6),(i7,e7),(i8,e8),(i9,e9),(i10,e10),(i11,e11)]:= .cons h0 (.cons h1 (.cons h2 (.cons h3 (.cons h4 (.cons h5 (.cons h6 (.cons h7 (.cons h8 (.cons h9 (.cons h10 (.cons h11 (.nil))))))))))))
def ZUu{P:Program}{i0:Nat}{e0:Entry}{i1:Nat}{e1:Entry}{i2:Nat}{e2:Entry}{i3:Nat}{e3:Entry}{i4:Nat}{e4:Entry}{i5:Nat}{e5:Entry}{i6:Nat}{e6:Entry}{i7:Nat}{e7:Entry}{i8:Nat}{e8:Entry}{i9:Nat}{e9:Entry}{i10:Nat}{e10:Entry}{i11:Nat}{e11:Entry}{i12:Nat}{e12:Entry}(h0:OK P i0 e0)(h1:OK P i1 e1)(h2:OK P i2 e2)(h3:OK P i3 e3)(h4:OK P i4 e4)(h5:OK P i5 e5)(h6:OK P i6 e6)(h7:OK P i7 e7)(h8:OK P i8 e8)(h9:OK P i9 e9)(h10:OK P i10 e10)(h11:OK P i11 e11)(h12:OK P i12 e12):OKs P [(i0,e0),(i1,e1),(i2,e2),(i3,e3),(i4,e4),(i5,e5),(i6,e6),(i7,e7),(i8,e8),(i9,e9),(i10,e10),(i11,e11),(i12,e12)]:= .cons h0 (.cons h1 (.cons h2 (.cons h3 (.cons h4 (.cons h5 (.cons h6 (.cons h7 (.cons h8 (.cons h9 (.cons h10 (.cons h11 (.cons h12 (.nil)))))))))))))
def ZUv{P:Program}{i0:Nat}{e0:Entry}{i1:Nat}{e1:Entry}{i2:Nat}{e2:Entry}{i3:Nat}{e3:Entry}{i4:Nat}{e4:Entry}{i5:Nat}{e5:Entry}{i6:Nat}{e6:Entry}{i7:Nat}{e7:Entry}{i8:Nat}{e8:Entry}{i9:Nat}{e9:Entry}{i10:Nat}{e10:Entry}{i11:Nat}{e11:Entry}{i12:Nat}{e12:Entry}{i13:Nat}{e13:Entry}(h0:OK P i0 e0)(h1:OK P i1 e1)(h2:OK P i2 e2)(h3:OK P i3 e3)(h4:OK P i4 e4)(h5:OK P i5 e5)(h6:OK P i6 e6)(h7:OK P i7 e7)(h8:OK P i8 e8)(h9:OK P i9 e9)(h10:OK P i10 e10)(h11:OK P i11 e11)(h12:OK P i12 e12)(h13:OK P i13 e13):OKs P [(i0,e0),(i1,e1),(i2,e2),(i3,e3),(i4,e4),(i5,e5),(i6,e6),(i7,e7),(i8,e8),(i9,e9),(i10,e10),(i11,e11),(i12,e12),(i13,e13)]:= .cons h0 (.cons h1 (.cons h2 (.cons h3 (.cons h4 (.cons h5 (.cons h6 (.cons h7 (.cons h8 (.cons h9 (.cons h10 (.cons h11 (.cons h12 (.cons h13 (.nil))))))))))))))
def fka0{E:List (Nat×Entry)}{ann:Nat->Bool}{f:Nat}{fn:Func}{ps rs:List SP}{sh:Bool}{G:ZAL ps->Option (ZAL (muts ps++rs))}(hE:OKs prog E)(hf:prog.funcs[f]?=some fn)(hk:(fn.body,(seqN 0 (cids (muts ps++rs)) && Nat.ble (cids ps).length (cids (muts ps++rs)).length && Nat.ble (cids ps).length 100),decide (fn.name= "runtime.NumGoroutine"),ZCG (ZDf fn))=(some (ZDf fn),true,false,[]):=by kernel_rfl)(h: ∀a,runF (envL E) tab ann ps rs fn (lenv []) a=G a:=by intro _;kernel_rfl):OKP f (mkE ps rs sh G):=fka (L:=lenv []) hE hf .nil hk h
def fk0{E:List (Nat×Entry)}{f:Nat}{fn:Func}{ps rs:List SP}{sh:Bool}{G:ZAL ps->Option (ZAL (muts ps++rs))}(hE:OKs prog E)(hf:prog.funcs[f]?=some fn)(hk:(fn.body,(seqN 0 (cids (muts ps++rs)) && Nat.ble (cids ps).length (cids (muts ps++rs)).length && Nat.ble (cids ps).length 100),decide (fn.name= "runtime.NumGoroutine"),ZCG (ZDf fn))=(some (ZDf fn),true,false,[]):=by kernel_rfl)(h: ∀a,runF (envL E) tab (λ_=>false) ps rs fn (lenv []) a=G a:=by intro _;kernel_rfl):OKP f (mkE ps rs sh G):=fka (L:=lenv []) hE hf .nil hk h
def p228:List SP:=[.one (.r .device)]
def r228:List SP:=[.one (.o 0 .device)]
abbrev T228:=List Device×Unit->Option (List Device×Unit)
abbrev N228(f:T228):=OKP 228 (mkE p228 r228 false f)
def F228:T228:=λa=>
 capK (List.length ([]:List Device)+a.1.length) (some ((([]:List Device)++a.1),()))
theorem ok228:N228 (F228):=fk0 .nil func228
def p229:List SP:=[.one (.r .cue)]
def r229:List SP:=[.one (.o 0 .cue)]
abbrev T229:=List Cue×Unit->Option (List Cue×Unit)
abbrev N229(f:T229):=OKP 229 (mkE p229 r229 false f)
def F229:T229:=λa=>
 capK (List.length ([]:List Cue)+a.1.length) (some ((([]:List Cue)++a.1),()))
theorem ok229:N229 (F229):=fk0 .nil func229
def p139:List SP:=[.agg [.r .device,.r .cue,.r .gust,.int .i64]]
def r139:List SP:=[.agg [.o 0 .device,.o 1 .cue,.o 2 .gust,.int .i64]]
abbrev T139:=ShD×Unit->Option (ShD×Unit)
abbrev N139(f:T139):=OKP 139 (mkE p139 r139 false f)
def F139(b:T228)(c:T229):T139:=λa=>
 (b (a.1.1,())).bind λx1=>(c (a.1.2.1,())).bind λx2=>capK (List.length ([]:List Gust)+a.1.2.2.1.length) (some ((x1.1,x2.1,(([]:List Gust)++a.1.2.2.1),a.1.2.2.2.1,()),()))
theorem ok139{c d} :N228 c->N229 d->N139 (F139 c d):=λa b=>fka0 (ann:=λn=>Nat.beq n 900009 || Nat.beq n 1100109 || Nat.beq n 1199998) (oks2 a b) func139
def p63:List SP:=[.agg [.r .device,.r .cue,.r .gust,.int .i64,.r .place,.int .i64,.int .i64,.int .i64,.int .i64]]
def r63:List SP:=[.agg [.o 0 .device,.o 1 .cue,.o 2 .gust,.int .i64,.o 3 .place,.int .i64,.int .i64,.int .i64,.int .i64]]
abbrev T63:=DkD×Unit->Option (DkD×Unit)
abbrev N63(f:T63):=OKP 63 (mkE p63 r63 false f)
def F63(b:T139):T63:=λa=>
 (b ((a.1.1,a.1.2.1,a.1.2.2.1,a.1.2.2.2.1,()),())).bind λx1=>capK (List.length ([]:List Place)+a.1.2.2.2.2.1.length) (some ((x1.1.1,x1.1.2.1,x1.1.2.2.1,x1.1.2.2.2.1,(([]:List Place)++a.1.2.2.2.2.1),a.1.2.2.2.2.2.1,a.1.2.2.2.2.2.2.1,a.1.2.2.2.2.2.2.2.1,a.1.2.2.2.2.2.2.2.2.1,()),()))
theorem ok63{b} :N139 b->N63 (F63 b):=λa=>fka0 (ann:=λn=>Nat.beq n 900006 || Nat.beq n 1100106 || Nat.beq n 1199998) (.cons a .nil) func63
def p268:List SP:=[.one (.str)]
def r268:List SP:=[.one (.bool)]
abbrev T268:=Str×Unit->Option (Bool×Unit)
abbrev N268(f:T268):=OKP 268 (mkE p268 r268 false f)
def q268_0:List SP:=pat 50 0 [(0,.one (.str)),(3,.one (.int .i64))]
def s268_0:Lp (Str×Int×Unit) (Bool×Unit):=λt1 rec K=>
 cond (t1.2.1<(Int.ofNat t1.1.length)) (rdL t1.1 t1.2.1 λx1=>cond ((Int.ofNat (UInt8.toNat x1))>=97) (rdL t1.1 t1.2.1 λx2=>rdL t1.1 t1.2.1 λx3=>cond ((Int.ofNat (UInt8.toNat x3))>=48) (rdL t1.1 t1.2.1 λx4=>cond (!((Int.ofNat (UInt8.toNat x2))<=122)) (cond (!(!(decide ((Int.ofNat (UInt8.toNat x4))<=57)))) (cond (t1.2.1=0) (some (false,())) (rec (t1.1,(w64 (t1.2.1+1)),()))) (some (false,()))) (rec (t1.1,(w64 (t1.2.1+1)),()))) (cond (!((Int.ofNat (UInt8.toNat x2))<=122)) (some (false,())) (rec (t1.1,(w64 (t1.2.1+1)),())))) (rdL t1.1 t1.2.1 λx2=>cond ((Int.ofNat (UInt8.toNat x2))>=48) (rdL t1.1 t1.2.1 λx3=>cond (!(!(decide ((Int.ofNat (UInt8.toNat x3))<=57)))) (cond (t1.2.1=0) (some (false,())) (rec (t1.1,(w64 (t1.2.1+1)),()))) (some (false,()))) (some (false,())))) (K t1)
def F268:T268:=λa=>
 ZAD (s268_0) fuel (a.1,0,()) λx1=>cond ((Int.ofNat x1.1.length)>0) (some ((decide ((Int.ofNat x1.1.length)<=8)),())) (some (false,()))
theorem ok268:N268 (F268):=fk1 p268 r268 q268_0 s268_0 .nil func268
def p233:List SP:=[.one (.int .i64),.one (.int .i64),.one (.int .i64)]
abbrev T233:=Int×Int×Int×Unit->Option (Bool×Unit)
abbrev N233(f:T233):=OKP 233 (mkE p233 r268 false f)
def F233:T233:=λa=>
 cond (a.1>=a.2.1) (some ((decide (a.1<=a.2.2.1)),())) (some (false,()))
theorem ok233:N233 (F233):=fk0 .nil func233
def p269:List SP:=[.one (.int .i64)]
abbrev T269:=Int×Unit->Option (Bool×Unit)
abbrev N269(f:T269):=OKP 269 (mkE p269 r268 false f)
def F269(b:T233):T269:=λa=>
 (b (a.1,0,512,())).bind λx1=>some (x1.1,())
theorem ok269{b} :N233 b->N269 (F269 b):=λa=>fk0 (.cons a .nil) func269
abbrev N354(f:T269):=OKP 354 (mkE p269 r268 false f)
def F354:T269:=λa=>
 cond (a.1>=0) (some ((decide (a.1<=3)),())) (some (false,()))
theorem ok354:N354 (F354):=fk0 .nil func354
def p331:List SP:=[.t .jet]
abbrev T331:=Jet×Unit->Option (Bool×Unit)
abbrev N331(f:T331):=OKP 331 (mkE p331 r268 false f)
def F331(b:T233)(c:T269):T331:=λa=>
 (b (a.1.At.X,(-1024),1024,())).bind λx1=>cond x1.1 ((b (a.1.At.Y,(-1024),1024,())).bind λx2=>cond x2.1 ((c (a.1.Heading,())).bind λx3=>cond x3.1 ((b (a.1.Tilt,0,16,())).bind λx4=>cond x4.1 ((b (a.1.Lift,1,32,())).bind λx5=>some (x5.1,())) (some (false,()))) (some (false,()))) (some (false,()))) (some (false,()))
theorem ok331{c d} :N233 c->N354 d->N331 (F331 c d):=λa b=>fk0 (oks2 a b) func331
def p270:List SP:=[.t .device]
abbrev T270:=Device×Unit->Option (Bool×Unit)
abbrev N270(f:T270):=OKP 270 (mkE p270 r268 false f)
def F270(b:T331):T270:=λa=>
 (b ((⟨⟨a.1.At.X,a.1.At.Y⟩,a.1.Heading,a.1.Tilt,1⟩:Jet),())).bind λx1=>some (x1.1,())
theorem ok270{b} :N331 b->N270 (F270 b):=λa=>fk0 (.cons a .nil) func270
abbrev N248(f:T269):=OKP 248 (mkE p269 r268 false f)
def F248:T269:=λa=>
 cond (a.1>=(-4096)) (some ((decide (a.1<=4096)),())) (some (false,()))
theorem ok248:N248 (F248):=fk0 .nil func248
def p181:List SP:=[.t .place]
abbrev T181:=Place×Unit->Option (Bool×Unit)
abbrev N181(f:T181):=OKP 181 (mkE p181 r268 false f)
def F181(b:T269):T181:=λa=>
 (b (a.1.X,())).bind λx1=>cond x1.1 ((b (a.1.Y,())).bind λx2=>some (x2.1,())) (some (false,()))
theorem ok181{b} :N248 b->N181 (F181 b):=λa=>fk0 (.cons a .nil) func181
abbrev N169(f:T270):=OKP 169 (mkE p270 r268 false f)
def F169(b:T268)(c:T269)(d:T270)(e:T233)(g:T181):T270:=λa=>
 (b (a.1.Line,())).bind λx1=>(λj1:Option (Bool×Unit)=>cond x1.1 ((b (a.1.Name,())).bind λx2=>cond (!x2.1) (some (false,())) (cond (a.1.Kind=1) j1 (cond (a.1.Kind=2) (cond (!(a.1.Line=a.1.Name)) ((d (a.1,())).bind λx3=>cond x3.1 ((e (a.1.Most,0,32,())).bind λx4=>some (x4.1,())) (some (false,()))) (some (false,()))) (cond (a.1.Kind=3) (cond (!(a.1.Line=a.1.Name)) ((g (a.1.At,())).bind λx3=>cond x3.1 (some ((decide (a.1.Name=a.1.Name) && (decide (a.1.Kind=a.1.Kind) && (decide (a.1.Line=a.1.Line) && (decide (a.1.At.X=a.1.At.X) && (decide (a.1.At.Y=a.1.At.Y) && (decide (a.1.Heading=0) && (decide (a.1.Tilt=0) && (decide (a.1.Most=0) && true)))))))),())) (some (false,()))) (some (false,()))) (some (false,())))))) ((b (a.1.Name,())).bind λx2=>cond (!x2.1) (some (false,())) (cond (a.1.Kind=1) j1 (cond (a.1.Kind=2) (some (false,())) (cond (a.1.Kind=3) (some (false,())) (some (false,()))))))) ((c (a.1.Most,())).bind λx3=>cond x3.1 (some ((decide (a.1.Name=a.1.Name) && (decide (a.1.Kind=a.1.Kind) && (decide (a.1.Line=[]) && (decide (a.1.At.X=0) && (decide (a.1.At.Y=0) && (decide (a.1.Heading=0) && (decide (a.1.Tilt=0) && (decide (a.1.Most=a.1.Most) && true)))))))),())) (some (false,())))
theorem ok169{g h i j k} :N268 g->N269 h->N270 i->N233 j->N181 k->N169 (F169 g h i j k):=λa b c d e=>fk0 (oks5 a b c d e) func169
def p265:List SP:=[.one (.r .device),.one (.str)]
abbrev T265:=List Device×Str×Unit->Option (Int×Unit)
abbrev N265(f:T265):=OKP 265 (mkE p265 p269 false f)
def q265_0:List SP:=pat 20 0 [(1,.one (.str)),(7,.one (.r .device)),(8,.one (.int .i64)),(9,.one (.int .i64))]
def s265_0:Lp (Str×List Device×Int×Int×Unit) (Int×Unit):=λt1 rec K=>
 cond (t1.2.2.2.1<t1.2.2.1) (rdL t1.2.1 t1.2.2.2.1 λx1=>cond (x1.Name=t1.1) (some (t1.2.2.2.1,())) (rec (t1.1,t1.2.1,t1.2.2.1,(w64 (t1.2.2.2.1+1)),()))) (K t1)
def F265:T265:=λa=>
 ZAD (s265_0) fuel (a.2.1,a.1,(Int.ofNat a.1.length),0,()) λx1=>some ((-1),())
theorem ok265:N265 (F265):=fk1 p265 p269 q265_0 s265_0 .nil func265
def p266:List SP:=[.one (.r .device),.t .device]
abbrev T266:=List Device×Device×Unit->Option (Bool×Unit)
abbrev N266(f:T266):=OKP 266 (mkE p266 r268 false f)
def F266(b:T265):T266:=λa=>
 (b (a.1,a.2.1.Line,())).bind λx1=>cond (a.2.1.Kind=2) (cond (x1.1>=0) (rdL a.1 x1.1 λx2=>some ((decide (x2.Kind=1)),())) (some (false,()))) (cond (a.2.1.Kind=3) (cond (x1.1>=0) (rdL a.1 x1.1 λx2=>some ((decide (x2.Kind=2)),())) (some (false,()))) (some (true,())))
theorem ok266{b} :N265 b->N266 (F266 b):=λa=>fk0 (.cons a .nil) func266
abbrev T230:=List Device×Unit->Option (Bool×Unit)
abbrev N230(f:T230):=OKP 230 (mkE p228 r268 false f)
def q230_0:List SP:=pat 40 0 [(0,.one (.r .device)),(5,.one (.r .device)),(6,.one (.int .i64)),(7,.one (.int .i64))]
def s230_0(b:T270)(c:T266):Lp (List Device×List Device×Int×Int×Unit) (Bool×Unit):=λt1 rec K=>
 cond (t1.2.2.2.1<t1.2.2.1) (rdL t1.2.1 t1.2.2.2.1 λx1=>(b (x1,())).bind λx2=>cond (!(!x2.1)) (cond (t1.2.2.2.1>0) (rdL t1.1 (w64 (t1.2.2.2.1-1)) λx3=>cond (!(!Op.bytesLess x3.Name x1.Name)) ((c (t1.1,x1,())).bind λx4=>cond (!x4.1) (some (false,())) (rec (t1.1,t1.2.1,t1.2.2.1,(w64 (t1.2.2.2.1+1)),()))) (some (false,()))) ((c (t1.1,x1,())).bind λx3=>cond (!x3.1) (some (false,())) (rec (t1.1,t1.2.1,t1.2.2.1,(w64 (t1.2.2.2.1+1)),())))) (some (false,()))) (K t1)
def F230(b:T270)(c:T266):T230:=λa=>
 ZAD (s230_0 b c) fuel (a.1,a.1,(Int.ofNat a.1.length),0,()) λx1=>some ((decide ((Int.ofNat x1.1.length)<=8)),())
theorem ok230{c d} :N169 c->N266 d->N230 (F230 c d):=λa b=>fk1 p228 r268 q230_0 (s230_0 c d) (oks2 a b) func230
def p171:List SP:=[.t .cue]
abbrev T171:=Cue×Unit->Option (Bool×Unit)
abbrev N171(f:T171):=OKP 171 (mkE p171 r268 false f)
def F171(b:T233)(c:T268):T171:=λa=>
 (b (a.1.Tick,0,64,())).bind λx1=>cond x1.1 ((c (a.1.Name,())).bind λx2=>cond x2.1 ((b (a.1.Level,0,32,())).bind λx3=>cond x3.1 ((b (a.1.Ramp,0,16,())).bind λx4=>some (x4.1,())) (some (false,()))) (some (false,()))) (some (false,()))
theorem ok171{c d} :N233 c->N268 d->N171 (F171 c d):=λa b=>fk0 (oks2 a b) func171
def p307:List SP:=[.t .cue,.t .cue]
abbrev T307:=Cue×Cue×Unit->Option (Int×Unit)
abbrev N307(f:T307):=OKP 307 (mkE p307 p269 false f)
def F307:T307:=λa=>
 (λj1:Option (Int×Unit)=>cond (a.1.Tick<a.2.1.Tick) (cond (a.1.Tick<a.2.1.Tick) (some ((-1),())) j1) (cond (a.1.Tick=a.2.1.Tick) (cond (Op.bytesLess a.1.Name a.2.1.Name) (some ((-1),())) j1) j1)) (cond (a.1.Tick=a.2.1.Tick) (cond (a.1.Name=a.2.1.Name) (some (0,())) (some (1,()))) (some (1,())))
theorem ok307:N307 (F307):=fk0 .nil func307
abbrev T231:=List Cue×Unit->Option (Bool×Unit)
abbrev N231(f:T231):=OKP 231 (mkE p229 r268 false f)
def q231_0:List SP:=pat 33 0 [(0,.one (.r .cue)),(5,.one (.r .cue)),(6,.one (.int .i64)),(7,.one (.int .i64))]
def s231_0(b:T171)(c:T307):Lp (List Cue×List Cue×Int×Int×Unit) (Bool×Unit):=λt1 rec K=>
 cond (t1.2.2.2.1<t1.2.2.1) (rdL t1.2.1 t1.2.2.2.1 λx1=>(b (x1,())).bind λx2=>cond (!(!x2.1)) (cond (t1.2.2.2.1>0) (rdL t1.1 (w64 (t1.2.2.2.1-1)) λx3=>(c (x3,x1,())).bind λx4=>cond (x4.1>=0) (some (false,())) (rec (t1.1,t1.2.1,t1.2.2.1,(w64 (t1.2.2.2.1+1)),()))) (rec (t1.1,t1.2.1,t1.2.2.1,(w64 (t1.2.2.2.1+1)),()))) (some (false,()))) (K t1)
def F231(b:T171)(c:T307):T231:=λa=>
 ZAD (s231_0 b c) fuel (a.1,a.1,(Int.ofNat a.1.length),0,()) λx1=>some ((decide ((Int.ofNat x1.1.length)<=12)),())
theorem ok231{c d} :N171 c->N307 d->N231 (F231 c d):=λa b=>fk1 p229 r268 q231_0 (s231_0 c d) (oks2 a b) func231
abbrev N234(f:T181):=OKP 234 (mkE p181 r268 false f)
def F234(b:T233):T181:=λa=>
 (b (a.1.X,(-8),8,())).bind λx1=>cond x1.1 ((b (a.1.Y,(-8),8,())).bind λx2=>some (x2.1,())) (some (false,()))
theorem ok234{b} :N233 b->N234 (F234 b):=λa=>fk0 (.cons a .nil) func234
def p232:List SP:=[.one (.r .gust)]
abbrev T232:=List Gust×Unit->Option (Bool×Unit)
abbrev N232(f:T232):=OKP 232 (mkE p232 r268 false f)
def q232_0:List SP:=pat 41 0 [(0,.one (.r .gust)),(5,.one (.r .gust)),(6,.one (.int .i64)),(7,.one (.int .i64))]
def s232_0(b:T233)(c:T181):Lp (List Gust×List Gust×Int×Int×Unit) (Bool×Unit):=λt1 rec K=>
 cond (t1.2.2.2.1<t1.2.2.1) (rdL t1.2.1 t1.2.2.2.1 λx1=>(b (x1.From,0,64,())).bind λx2=>cond (!(!x2.1)) ((c (x1.Drift,())).bind λx3=>cond (!(!x3.1)) (cond (t1.2.2.2.1>0) (rdL t1.1 (w64 (t1.2.2.2.1-1)) λx4=>cond (x4.From>=x1.From) (some (false,())) (rec (t1.1,t1.2.1,t1.2.2.1,(w64 (t1.2.2.2.1+1)),()))) (rec (t1.1,t1.2.1,t1.2.2.1,(w64 (t1.2.2.2.1+1)),()))) (some (false,()))) (some (false,()))) (K t1)
def F232(b:T233)(c:T181):T232:=λa=>
 ZAD (s232_0 b c) fuel (a.1,a.1,(Int.ofNat a.1.length),0,()) λx1=>some ((decide ((Int.ofNat x1.1.length)<=8)),())
theorem ok232{c d} :N233 c->N234 d->N232 (F232 c d):=λa b=>fk1 p232 r268 q232_0 (s232_0 c d) (oks2 a b) func232
abbrev T140:=ShD×Unit->Option (Bool×Unit)
abbrev N140(f:T140):=OKP 140 (mkE p139 r268 false f)
def F140(b:T230)(c:T231)(d:T232)(e:T233):T140:=λa=>
 (b (a.1.1,())).bind λx1=>cond x1.1 ((c (a.1.2.1,())).bind λx2=>cond x2.1 ((d (a.1.2.2.1,())).bind λx3=>cond x3.1 ((e (a.1.2.2.2.1,0,64,())).bind λx4=>some (x4.1,())) (some (false,()))) (some (false,()))) (some (false,()))
theorem ok140{e g h i} :N230 e->N231 g->N232 h->N233 i->N140 (F140 e g h i):=λa b c d=>fk0 (oks4 a b c d) func140
def p235:List SP:=[.t .place,.t .place]
abbrev T235:=Place×Place×Unit->Option (Int×Unit)
abbrev N235(f:T235):=OKP 235 (mkE p235 p269 false f)
def F235:T235:=λa=>
 cond (a.1.X<a.2.1.X) (cond (a.1.X<a.2.1.X) (some ((-1),())) (cond (decide (a.1.X=a.2.1.X) && (decide (a.1.Y=a.2.1.Y) && true)) (some (0,())) (some (1,())))) (cond (a.1.X=a.2.1.X) (cond (a.1.Y<a.2.1.Y) (some ((-1),())) (cond (decide (a.1.X=a.2.1.X) && (decide (a.1.Y=a.2.1.Y) && true)) (some (0,())) (some (1,())))) (cond (decide (a.1.X=a.2.1.X) && (decide (a.1.Y=a.2.1.Y) && true)) (some (0,())) (some (1,()))))
theorem ok235:N235 (F235):=fk0 .nil func235
def p141:List SP:=[.one (.r .place)]
abbrev T141:=List Place×Unit->Option (Bool×Unit)
abbrev N141(f:T141):=OKP 141 (mkE p141 r268 false f)
def q141_0:List SP:=pat 38 0 [(0,.one (.r .place)),(5,.one (.r .place)),(6,.one (.int .i64)),(7,.one (.int .i64))]
def s141_0(b:T181)(c:T235):Lp (List Place×List Place×Int×Int×Unit) (Bool×Unit):=λt1 rec K=>
 cond (t1.2.2.2.1<t1.2.2.1) (rdL t1.2.1 t1.2.2.2.1 λx1=>(b (x1,())).bind λx2=>cond (!(!x2.1)) (cond (t1.2.2.2.1>0) (rdL t1.1 (w64 (t1.2.2.2.1-1)) λx3=>(c (x3,x1,())).bind λx4=>cond (x4.1>=0) (some (false,())) (rec (t1.1,t1.2.1,t1.2.2.1,(w64 (t1.2.2.2.1+1)),()))) (rec (t1.1,t1.2.1,t1.2.2.1,(w64 (t1.2.2.2.1+1)),()))) (some (false,()))) (K t1)
def F141(b:T181)(c:T235):T141:=λa=>
 ZAD (s141_0 b c) fuel (a.1,a.1,(Int.ofNat a.1.length),0,()) λx1=>cond ((Int.ofNat x1.1.length)>=1) (some ((decide ((Int.ofNat x1.1.length)<=4)),())) (some (false,()))
theorem ok141{c d} :N234 c->N235 d->N141 (F141 c d):=λa b=>fk1 p141 r268 q141_0 (s141_0 c d) (oks2 a b) func141
def p142:List SP:=[.t .box]
abbrev T142:=Box×Unit->Option (Bool×Unit)
abbrev N142(f:T142):=OKP 142 (mkE p142 r268 false f)
def F142(b:T181):T142:=λa=>
 (b (a.1.Low,())).bind λx1=>cond x1.1 ((b (a.1.High,())).bind λx2=>cond x2.1 (cond (a.1.Low.X<=a.1.High.X) (some ((decide (a.1.Low.Y<=a.1.High.Y)),())) (some (false,()))) (some (false,()))) (some (false,()))
theorem ok142{b} :N181 b->N142 (F142 b):=λa=>fk0 (.cons a .nil) func142
abbrev T64:=DkD×Unit->Option (Bool×Unit)
abbrev N64(f:T64):=OKP 64 (mkE p63 r268 false f)
def F64(b:T140)(c:T141)(d:T142):T64:=λa=>
 (b ((a.1.1,a.1.2.1,a.1.2.2.1,a.1.2.2.2.1,()),())).bind λx1=>cond x1.1 ((c (a.1.2.2.2.2.1,())).bind λx2=>cond x2.1 ((d ((⟨⟨a.1.2.2.2.2.2.1,a.1.2.2.2.2.2.2.1⟩,⟨a.1.2.2.2.2.2.2.2.1,a.1.2.2.2.2.2.2.2.2.1⟩⟩:Box),())).bind λx3=>some (x3.1,())) (some (false,()))) (some (false,()))
theorem ok64{d e g} :N140 d->N141 e->N142 g->N64 (F64 d e g):=λa b c=>fk0 (oks3 a b c) func64
def p41:List SP:=[.one (.str),.one (.str)]
def r41:List SP:=[.one (.o 0 .str)]
abbrev T41:=Str×Str×Unit->Option (List Str×Unit)
abbrev N41(f:T41):=OKP 41 (mkE p41 r41 false f)
def q41_0:List SP:=pat 49 0 [(0,.one (.str)),(1,.one (.str)),(5,.one (.o 5000001 .str)),(6,.one (.int .i64)),(7,.one (.int .i64))]
def s41_0:Lp (Str×Str×List Str×Int×Int×Unit) (List Str×Unit):=λt1 rec K=>
 cond (!(t1.2.1=[])) (cond ((w64 (t1.2.2.2.2.1+(Int.ofNat t1.2.1.length)))<=(Int.ofNat t1.1.length)) (okIf ((0:Int)<=t1.2.2.2.2.1/\(t1.2.2.2.2.1:Int)<=(w64 (t1.2.2.2.2.1+(Int.ofNat t1.2.1.length)))/\((w64 (t1.2.2.2.2.1+(Int.ofNat t1.2.1.length))):Int)<=t1.1.length) (cond ((List.drop (Int.toNat t1.2.2.2.2.1) (List.take (Int.toNat (w64 (t1.2.2.2.2.1+(Int.ofNat t1.2.1.length)))) t1.1))=t1.2.1) (okIf ((0:Int)<=t1.2.2.2.1/\(t1.2.2.2.1:Int)<=t1.2.2.2.2.1/\(t1.2.2.2.2.1:Int)<=t1.1.length) (capK (t1.2.2.1.length+List.length ([(List.drop (Int.toNat t1.2.2.2.1) (List.take (Int.toNat t1.2.2.2.2.1) t1.1))]:List Str)) (rec (t1.1,t1.2.1,(t1.2.2.1++([(List.drop (Int.toNat t1.2.2.2.1) (List.take (Int.toNat t1.2.2.2.2.1) t1.1))]:List Str)),(w64 (t1.2.2.2.2.1+(Int.ofNat t1.2.1.length))),(w64 (t1.2.2.2.2.1+(Int.ofNat t1.2.1.length))),())))) (rec (t1.1,t1.2.1,t1.2.2.1,t1.2.2.2.1,(w64 (t1.2.2.2.2.1+1)),())))) (K t1)) (K t1)
def F41:T41:=λa=>
 ZAD (s41_0) fuel (a.1,a.2.1,([]:List Str),0,0,()) λx1=>okIf ((0:Int)<=x1.2.2.2.1/\(x1.2.2.2.1:Int)<=x1.1.length) (capK (x1.2.2.1.length+List.length ([(List.drop (Int.toNat x1.2.2.2.1) x1.1)]:List Str)) (some ((x1.2.2.1++([(List.drop (Int.toNat x1.2.2.2.1) x1.1)]:List Str)),())))
theorem ok41:N41 (F41):=fk1 p41 r41 q41_0 s41_0 .nil func41
def p348:List SP:=[.t .device,.one (.int .i64)]
abbrev T348:=Device×Int×Unit->Option (Jet×Unit)
abbrev N348(f:T348):=OKP 348 (mkE p348 p331 false f)
def F348:T348:=λa=>
 some ((⟨⟨a.1.At.X,a.1.At.Y⟩,a.1.Heading,a.1.Tilt,a.2.1⟩:Jet),())
theorem ok348:N348 (F348):=fk0 .nil func348
abbrev T311:=Jet×Unit->Option (Int×Unit)
abbrev N311(f:T311):=OKP 311 (mkE p331 p269 false f)
def q311_0:List SP:=pat 24 0 [(3,.one (.int .i64)),(4,.one (.int .i64)),(5,.one (.int .i64))]
def s311_0(b:T331):Lp (Int×Int×Int×Unit) (Int×Unit):=λt2 rec K=>
 cond (t2.2.1>0) (rec ((w64 (t2.1+1)),(w64 (t2.2.1+t2.2.2.1)),(w64 (t2.2.2.1-2)),())) (K t2)
def F311(b:T331):T311:=λa=>
 (b (a.1,())).bind λx1=>cond (!x1.1) (some (0,())) (ZAD (s311_0 b) fuel (1,a.1.Lift,(w64 (a.1.Lift-2)),()) λx2=>some (x2.1,()))
theorem ok311{b} :N331 b->N311 (F311 b):=λa=>fk1 p331 p269 q311_0 (s311_0 b) (.cons a .nil) func311
abbrev T371:=Int×Unit->Option (Int×Unit)
abbrev N371(f:T371):=OKP 371 (mkE p269 p269 false f)
def F371:T371:=λa=>
 cond ((Int.tmod a.1 4)<0) (some ((w64 ((Int.tmod a.1 4)+4)),())) (some ((Int.tmod a.1 4),()))
theorem ok371:N371 (F371):=fk0 .nil func371
def p355:List SP:=[.t .place,.one (.int .i64)]
abbrev T355:=Place×Int×Unit->Option (Place×Unit)
abbrev N355(f:T355):=OKP 355 (mkE p355 p181 false f)
def q355_0:List SP:=pat 19 0 [(2,.boxt 5000001 .place),(4,.boxt 5000002 .place),(5,.one (.int .i64))]
def s355_0(b:T371):Lp (Place×Place×Int×Unit) (Place×Unit):=λt2 rec K=>
 cond (t2.2.2.1>0) (rec ((⟨(w64 (0-t2.1.Y)),t2.1.X⟩:Place),t2.2.1,(w64 (t2.2.2.1-1)),())) (K t2)
def F355(b:T371):T355:=λa=>
 (b (a.2.1,())).bind λx1=>ZAD (s355_0 b) fuel (a.1,(⟨0,0⟩:Place),x1.1,()) λx2=>some (x2.1,())
theorem ok355{b} :N371 b->N355 (F355 b):=λa=>fk1 p355 p181 q355_0 (s355_0 b) (.cons a .nil) func355
abbrev T317:=Place×Place×Unit->Option (Place×Unit)
abbrev N317(f:T317):=OKP 317 (mkE p235 p181 false f)
def F317:T317:=λa=>
 some ((⟨(w64 (a.1.X+a.2.1.X)),(w64 (a.1.Y+a.2.1.Y))⟩:Place),())
theorem ok317:N317 (F317):=fk0 .nil func317
def p351:List SP:=[.t .jet,.one (.int .i64)]
abbrev T351:=Jet×Int×Unit->Option (Place×Unit)
abbrev N351(f:T351):=OKP 351 (mkE p351 p181 false f)
def F351(b:T355)(c:T317):T351:=λa=>
 (b ((⟨(w64 (a.2.1*a.1.Tilt)),0⟩:Place),a.1.Heading,())).bind λx1=>(c (a.1.At,x1.1,())).bind λx2=>some (x2.1,())
theorem ok351{c d} :N355 c->N317 d->N351 (F351 c d):=λa b=>fk0 (oks2 a b) func351
def r356:List SP:=[.t .place,.one (.bool)]
abbrev T356:=Jet×Int×Unit->Option (Place×Bool×Unit)
abbrev N356(f:T356):=OKP 356 (mkE p351 r356 false f)
def F356(b:T331)(c:T311)(d:T351):T356:=λa=>
 (b (a.1,())).bind λx1=>cond (!(!x1.1)) (cond (!(a.2.1<0)) ((c (a.1,())).bind λx2=>cond (a.2.1>x2.1) (some ((⟨0,0⟩:Place),false,())) ((d a).bind λx3=>some (x3.1,true,()))) (some ((⟨0,0⟩:Place),false,()))) (some ((⟨0,0⟩:Place),false,()))
theorem ok356{d e g} :N331 d->N311 e->N351 g->N356 (F356 d e g):=λa b c=>fk0 (oks3 a b c) func356
abbrev T316:=Jet×Unit->Option (Place×Bool×Unit)
abbrev N316(f:T316):=OKP 316 (mkE p331 r356 false f)
def F316(b:T311)(c:T356):T316:=λa=>
 (b (a.1,())).bind λx1=>(c (a.1,x1.1,())).bind λx2=>some x2
theorem ok316{c d} :N311 c->N356 d->N316 (F316 c d):=λa b=>fk0 (oks2 a b) func316
def p358:List SP:=[.one (.int .i64),.one (.int .i64)]
abbrev T358:=Int×Int×Unit->Option (Int×Unit)
abbrev N358(f:T358):=OKP 358 (mkE p358 p269 false f)
def F358:T358:=λa=>
 cond (a.1<a.2.1) (some (a.1,())) (some (a.2.1,()))
theorem ok358:N358 (F358):=fk0 .nil func358
abbrev N313(f:T358):=OKP 313 (mkE p358 p269 false f)
def F313:T358:=λa=>
 cond (a.1>a.2.1) (some (a.1,())) (some (a.2.1,()))
theorem ok313:N313 (F313):=fk0 .nil func313
def r319:List SP:=[.t .box,.one (.bool)]
abbrev T319:=List Place×Unit->Option (Box×Bool×Unit)
abbrev N319(f:T319):=OKP 319 (mkE p141 r319 false f)
def q319_0:List SP:=pat 57 0 [(0,.one (.r .place)),(2,.boxt 5000001 .box),(4,.boxt 5000002 .box),(8,.one (.r .place)),(9,.one (.int .i64)),(10,.one (.int .i64))]
def s319_0(b:T181)(c:T358)(d:T358):Lp (List Place×Box×Box×List Place×Int×Int×Unit) (Box×Bool×Unit):=λt1 rec K=>
 cond (t1.2.2.2.2.2.1<t1.2.2.2.2.1) (rdL t1.2.2.2.1 t1.2.2.2.2.2.1 λx1=>(b (x1,())).bind λx2=>cond (!x2.1) (some ((⟨⟨0,0⟩,⟨0,0⟩⟩:Box),false,())) (cond (t1.2.2.2.2.2.1=0) ((c (x1.X,x1.X,())).bind λx3=>(c (x1.Y,x1.Y,())).bind λx4=>(d (x1.X,x1.X,())).bind λx5=>(d (x1.Y,x1.Y,())).bind λx6=>rec (t1.1,t1.2.1,(⟨⟨x3.1,x4.1⟩,⟨x5.1,x6.1⟩⟩:Box),t1.2.2.2.1,t1.2.2.2.2.1,(w64 (t1.2.2.2.2.2.1+1)),())) ((c (t1.2.2.1.Low.X,x1.X,())).bind λx3=>(c (t1.2.2.1.Low.Y,x1.Y,())).bind λx4=>(d (t1.2.2.1.High.X,x1.X,())).bind λx5=>(d (t1.2.2.1.High.Y,x1.Y,())).bind λx6=>rec (t1.1,t1.2.1,(⟨⟨x3.1,x4.1⟩,⟨x5.1,x6.1⟩⟩:Box),t1.2.2.2.1,t1.2.2.2.2.1,(w64 (t1.2.2.2.2.2.1+1)),())))) (K t1)
def F319(b:T181)(c:T358)(d:T358):T319:=λa=>
 ZAD (s319_0 b c d) fuel (a.1,(⟨⟨0,0⟩,⟨0,0⟩⟩:Box),(⟨⟨0,0⟩,⟨0,0⟩⟩:Box),a.1,(Int.ofNat a.1.length),0,()) λx1=>some (x1.2.2.1,(decide ((Int.ofNat x1.1.length)>0)),())
theorem ok319{d e g} :N181 d->N358 e->N313 g->N319 (F319 d e g):=λa b c=>fk1 p141 r319 q319_0 (s319_0 d e g) (oks3 a b c) func319
def p357:List SP:=[.one (.r .place),.one (.int .i64)]
abbrev T357:=List Place×Int×Unit->Option (Box×Bool×Unit)
abbrev N357(f:T357):=OKP 357 (mkE p357 r319 false f)
def F357(b:T319)(c:T141):T357:=λa=>
 (b (a.1,())).bind λx1=>(c (a.1,())).bind λx2=>cond (!(!x2.1)) (cond (!(a.2.1<0)) (cond (a.2.1>128) (some ((⟨⟨0,0⟩,⟨0,0⟩⟩:Box),false,())) (some ((⟨⟨(w64 (a.2.1*x1.1.Low.X)),(w64 (a.2.1*x1.1.Low.Y))⟩,⟨(w64 (a.2.1*x1.1.High.X)),(w64 (a.2.1*x1.1.High.Y))⟩⟩:Box),true,()))) (some ((⟨⟨0,0⟩,⟨0,0⟩⟩:Box),false,()))) (some ((⟨⟨0,0⟩,⟨0,0⟩⟩:Box),false,()))
theorem ok357{c d} :N319 c->N141 d->N357 (F357 c d):=λa b=>fk0 (oks2 a b) func357
def p318:List SP:=[.t .jet,.one (.r .place)]
abbrev T318:=Jet×List Place×Unit->Option (Box×Bool×Unit)
abbrev N318(f:T318):=OKP 318 (mkE p318 r319 false f)
def F318(b:T316)(c:T311)(d:T357)(e:T317):T318:=λa=>
 (b (a.1,())).bind λx1=>(c (a.1,())).bind λx2=>(d (a.2.1,x2.1,())).bind λx3=>cond (!(!x1.2.1)) (cond (!x3.2.1) (some ((⟨⟨0,0⟩,⟨0,0⟩⟩:Box),false,())) ((e (x1.1,x3.1.Low,())).bind λx4=>(e (x1.1,x3.1.High,())).bind λx5=>some ((⟨⟨x4.1.X,x4.1.Y⟩,⟨x5.1.X,x5.1.Y⟩⟩:Box),true,()))) (some ((⟨⟨0,0⟩,⟨0,0⟩⟩:Box),false,()))
theorem ok318{e g h i} :N316 e->N311 g->N357 h->N317 i->N318 (F318 e g h i):=λa b c d=>fk0 (oks4 a b c d) func318
def p320:List SP:=[.t .box,.t .place]
abbrev T320:=Box×Place×Unit->Option (Bool×Unit)
abbrev N320(f:T320):=OKP 320 (mkE p320 r268 false f)
def F320(b:T142):T320:=λa=>
 (b (a.1,())).bind λx1=>cond x1.1 (cond (a.2.1.X>=a.1.Low.X) (cond (a.2.1.X<=a.1.High.X) (cond (a.2.1.Y>=a.1.Low.Y) (some ((decide (a.2.1.Y<=a.1.High.Y)),())) (some (false,()))) (some (false,()))) (some (false,()))) (some (false,()))
theorem ok320{b} :N142 b->N320 (F320 b):=λa=>fk0 (.cons a .nil) func320
def p349:List SP:=[.t .box,.t .box]
abbrev T349:=Box×Box×Unit->Option (Bool×Unit)
abbrev N349(f:T349):=OKP 349 (mkE p349 r268 false f)
def F349(b:T320):T349:=λa=>
 (b (a.2.1,a.1.Low,())).bind λx1=>cond x1.1 ((b (a.2.1,a.1.High,())).bind λx2=>some (x2.1,())) (some (false,()))
theorem ok349{b} :N320 b->N349 (F349 b):=λa=>fk0 (.cons a .nil) func349
def p308:List SP:=[.t .device,.one (.r .place),.t .box]
abbrev T308:=Device×List Place×Box×Unit->Option (Int×Unit)
abbrev N308(f:T308):=OKP 308 (mkE p308 p269 false f)
def q308_0:List SP:=pat 49 0 [(1,.one (.r .place)),(3,.boxt 5000001 .device),(5,.boxt 5000002 .box),(7,.one (.int .i64)),(8,.one (.int .i64))]
def s308_0(b:T270)(c:T142)(d:T348)(e:T318)(g:T349):Lp (List Place×Device×Box×Int×Int×Unit) (Int×Unit):=λt1 rec K=>
 cond (t1.2.2.2.2.1<=t1.2.1.Most) ((b (t1.2.1,())).bind λx1=>cond x1.1 (cond (t1.2.1.Kind=2) ((c (t1.2.2.1,())).bind λx2=>cond x2.1 ((d (t1.2.1,t1.2.2.2.2.1,())).bind λx3=>(e (x3.1,t1.1,())).bind λx4=>cond (!(!x4.2.1)) ((g (x4.1,t1.2.2.1,())).bind λx5=>cond (!x5.1) (some (t1.2.2.2.1,())) (rec (t1.1,t1.2.1,t1.2.2.1,t1.2.2.2.2.1,(w64 (t1.2.2.2.2.1+1)),()))) (some (t1.2.2.2.1,()))) (K t1)) (K t1)) (K t1)) (K t1)
def F308(b:T270)(c:T142)(d:T348)(e:T318)(g:T349):T308:=λa=>
 ZAD (s308_0 b c d e g) fuel (a.2.1,a.1,a.2.2.1,0,1,()) λx1=>some (x1.2.2.2.1,())
theorem ok308{g h i j k} :N169 g->N142 h->N348 i->N318 j->N349 k->N308 (F308 g h i j k):=λa b c d e=>fk1 p308 p269 q308_0 (s308_0 g h i j k) (oks5 a b c d e) func308
def p236:List SP:=[.agg [.r .device,.r .cue,.r .gust,.int .i64],.one (.r .place),.t .box]
def r236:List SP:=[.agg [.o 0 .device,.o 1 .cue,.o 2 .gust,.int .i64],.one (.bool)]
abbrev T236:=ShD×List Place×Box×Unit->Option (ShD×Bool×Unit)
abbrev N236(f:T236):=OKP 236 (mkE p236 r236 false f)
def q236_0:List SP:=pat 49 0 [(1,.one (.r .place)),(5,.boxt 5000001 .box),(6,.box 5000002 [.o 5000003 .device,.o 5000004 .cue,.o 5000005 .gust,.int .i64]),(8,.box 5000006 [.o 5000007 .device,.o 5000008 .cue,.o 5000009 .gust,.int .i64]),(28,.one (.al 5000007 .device)),(29,.one (.int .i64)),(30,.one (.int .i64))]
def s236_0(b:T140)(c:T141)(d:T142)(e:T139)(g:T308):Lp (List Place×Box×ShD×ShD×Unit×Int×Int×Unit) (ShD×Bool×Unit):=λt5 rec K=>
 cond (t5.2.2.2.2.2.2.1<t5.2.2.2.2.2.1) (rdL t5.2.2.2.1.1 t5.2.2.2.2.2.2.1 λ_=>(t5.2.2.2.1.1[(Int.toNat t5.2.2.2.2.2.2.1)]?).bind λx1=>cond (x1.Kind=2) ((g (x1,t5.1,t5.2.1,())).bind λx2=>rdL t5.2.2.2.1.1 t5.2.2.2.2.2.2.1 λ_=>(t5.2.2.2.1.1[(Int.toNat t5.2.2.2.2.2.2.1)]?).bind λx3=>rec (t5.1,t5.2.1,t5.2.2.1,((List.set t5.2.2.2.1.1 (Int.toNat t5.2.2.2.2.2.2.1) (⟨x3.Name,x3.Kind,x3.Line,⟨x3.At.X,x3.At.Y⟩,x3.Heading,x3.Tilt,x2.1⟩:Device)),t5.2.2.2.1.2.1,t5.2.2.2.1.2.2.1,t5.2.2.2.1.2.2.2.1,()),(),t5.2.2.2.2.2.1,(w64 (t5.2.2.2.2.2.2.1+1)),())) (rec (t5.1,t5.2.1,t5.2.2.1,t5.2.2.2.1,(),t5.2.2.2.2.2.1,(w64 (t5.2.2.2.2.2.2.1+1)),()))) (K (t5.1,t5.2.1,t5.2.2.1,t5.2.2.2.1,(),t5.2.2.2.2.2.1,t5.2.2.2.2.2.2.1,()))
def F236(b:T140)(c:T141)(d:T142)(e:T139)(g:T308):T236:=λa=>
 (b (a.1,())).bind λx1=>cond (!(!x1.1)) ((c (a.2.1,())).bind λx2=>cond (!(!x2.1)) ((d (a.2.2.1,())).bind λx3=>cond (!x3.1) (some (([],[],[],0,()),false,())) ((e (a.1,())).bind λx4=>ZAD (s236_0 b c d e g) fuel (a.2.1,a.2.2.1,([],[],[],0,()),x4.1,(),(Int.ofNat x4.1.1.length),0,()) λx5=>some (x5.2.2.2.1,true,()))) (some (([],[],[],0,()),false,()))) (some (([],[],[],0,()),false,()))
theorem ok236{g h i j k} :N140 g->N141 h->N142 i->N139 j->N308 k->N236 (F236 g h i j k):=λa b c d e=>fk1 p236 r236 q236_0 (s236_0 g h i j k) (oks5 a b c d e) func236
abbrev N359(f:T358):=OKP 359 (mkE p358 p269 false f)
def F359:T358:=λa=>
 cond (a.2.1=0) none (cond (a.2.1=0) none (cond ((Int.tmod a.1 a.2.1)<0) (some ((w64 ((w64 (Int.tdiv a.1 a.2.1)) -1)),())) (some ((w64 (Int.tdiv a.1 a.2.1)),()))))
theorem ok359:N359 (F359):=fk0 .nil func359
def p323:List SP:=[.one (.int .i64),.one (.int .i64),.one (.int .i64),.one (.int .i64)]
abbrev T323:=Int×Int×Int×Int×Unit->Option (Int×Unit)
abbrev N323(f:T323):=OKP 323 (mkE p323 p269 false f)
def F323(b:T269)(c:T358):T323:=λa=>
 (b (a.1,())).bind λx1=>cond (!(!x1.1)) ((b (a.2.1,())).bind λx2=>cond (!x2.1) (some (0,())) (cond (a.2.2.1>=a.2.2.2.1) (some (a.2.1,())) (cond (!(a.2.2.1<=0)) (cond (a.2.2.2.1>999) (some (a.1,())) ((c ((w64 ((w64 (a.2.1-a.1))*a.2.2.1)),a.2.2.2.1,())).bind λx3=>some ((w64 (a.1+x3.1)),()))) (some (a.1,()))))) (some (0,()))
theorem ok323{c d} :N248 c->N359 d->N323 (F323 c d):=λa b=>fk0 (oks2 a b) func323
def p249:List SP:=[.one (.r .cue),.one (.str),.one (.int .i64)]
abbrev T249:=List Cue×Str×Int×Unit->Option (Int×Unit)
abbrev N249(f:T249):=OKP 249 (mkE p249 p269 false f)
def q249_0:List SP:=pat 51 0 [(1,.one (.str)),(2,.one (.int .i64)),(7,.one (.int .i64)),(8,.boxt 5000001 .cue),(12,.one (.r .cue)),(13,.one (.int .i64)),(14,.one (.int .i64))]
def s249_0(b:T323):Lp (Str×Int×Int×Cue×List Cue×Int×Int×Unit) (Int×Unit):=λt1 rec K=>
 cond (t1.2.2.2.2.2.2.1<t1.2.2.2.2.2.1) (rdL t1.2.2.2.2.1 t1.2.2.2.2.2.2.1 λx1=>cond (x1.Name=t1.1) (cond (x1.Tick<=t1.2.1) ((b (t1.2.2.1,t1.2.2.2.1.Level,(w64 (x1.Tick-t1.2.2.2.1.Tick)),t1.2.2.2.1.Ramp,())).bind λx2=>rec (t1.1,t1.2.1,x2.1,x1,t1.2.2.2.2.1,t1.2.2.2.2.2.1,(w64 (t1.2.2.2.2.2.2.1+1)),())) (rec (t1.1,t1.2.1,t1.2.2.1,t1.2.2.2.1,t1.2.2.2.2.1,t1.2.2.2.2.2.1,(w64 (t1.2.2.2.2.2.2.1+1)),()))) (rec (t1.1,t1.2.1,t1.2.2.1,t1.2.2.2.1,t1.2.2.2.2.1,t1.2.2.2.2.2.1,(w64 (t1.2.2.2.2.2.2.1+1)),()))) (K t1)
def F249(b:T323):T249:=λa=>
 ZAD (s249_0 b) fuel (a.2.1,a.2.2.1,0,(⟨0,[],0,0⟩:Cue),a.1,(Int.ofNat a.1.length),0,()) λx1=>(b (x1.2.2.1,x1.2.2.2.1.Level,(w64 (x1.2.1-x1.2.2.2.1.Tick)),x1.2.2.2.1.Ramp,())).bind λx2=>some (x2.1,())
theorem ok249{b} :N323 b->N249 (F249 b):=λa=>fk1 p249 p269 q249_0 (s249_0 b) (.cons a .nil) func249
def p373:List SP:=[.one (.r .int)]
abbrev T373:=List Int×Unit->Option (Bool×Unit)
abbrev N373(f:T373):=OKP 373 (mkE p373 r268 false f)
def q373_0:List SP:=pat 18 0 [(0,.one (.r .int)),(5,.one (.r .int)),(6,.one (.int .i64)),(7,.one (.int .i64))]
def s373_0(b:T233):Lp (List Int×List Int×Int×Int×Unit) (Bool×Unit):=λt1 rec K=>
 cond (t1.2.2.2.1<t1.2.2.1) (rdL t1.2.1 t1.2.2.2.1 λx1=>(b (x1,0,64,())).bind λx2=>cond (!x2.1) (some (false,())) (rec (t1.1,t1.2.1,t1.2.2.1,(w64 (t1.2.2.2.1+1)),()))) (K t1)
def F373(b:T233):T373:=λa=>
 ZAD (s373_0 b) fuel (a.1,a.1,(Int.ofNat a.1.length),0,()) λx1=>some ((decide ((Int.ofNat x1.1.length)<=8)),())
theorem ok373{b} :N233 b->N373 (F373 b):=λa=>fk1 p373 r268 q373_0 (s373_0 b) (.cons a .nil) func373
def p375:List SP:=[.one (.r .int),.one (.int .i64)]
def r375:List SP:=[.one (.o 0 .int)]
abbrev T375:=List Int×Int×Unit->Option (List Int×Unit)
abbrev N375(f:T375):=OKP 375 (mkE p375 r375 false f)
def q375_0:List SP:=pat 23 0 [(1,.one (.int .i64)),(5,.one (.o 5000001 .int)),(9,.one (.r .int)),(10,.one (.int .i64)),(11,.one (.int .i64))]
def s375_0(b:T358):Lp (Int×List Int×List Int×Int×Int×Unit) (List Int×Unit):=λt1 rec K=>
 cond (t1.2.2.2.2.1<t1.2.2.2.1) (rdL t1.2.2.1 t1.2.2.2.2.1 λx1=>(b (x1,t1.1,())).bind λx2=>capK (t1.2.1.length+List.length ([x2.1]:List Int)) (rec (t1.1,(t1.2.1++([x2.1]:List Int)),t1.2.2.1,t1.2.2.2.1,(w64 (t1.2.2.2.2.1+1)),()))) (K t1)
def F375(b:T358):T375:=λa=>
 ZAD (s375_0 b) fuel (a.2.1,([]:List Int),a.1,(Int.ofNat a.1.length),0,()) λx1=>some (x1.2.1,())
theorem ok375{b} :N358 b->N375 (F375 b):=λa=>fk1 p375 r375 q375_0 (s375_0 b) (.cons a .nil) func375
abbrev T376:=List Int×Unit->Option (Int×Unit)
abbrev N376(f:T376):=OKP 376 (mkE p373 p269 false f)
def q376_0:List SP:=pat 17 0 [(3,.one (.int .i64)),(6,.one (.r .int)),(7,.one (.int .i64)),(8,.one (.int .i64))]
def s376_0:Lp (Int×List Int×Int×Int×Unit) (Int×Unit):=λt1 rec K=>
 cond (t1.2.2.2.1<t1.2.2.1) (rdL t1.2.1 t1.2.2.2.1 λx1=>rec ((w64 (t1.1+x1)),t1.2.1,t1.2.2.1,(w64 (t1.2.2.2.1+1)),())) (K t1)
def F376:T376:=λa=>
 ZAD (s376_0) fuel (0,a.1,(Int.ofNat a.1.length),0,()) λx1=>some (x1.1,())
theorem ok376:N376 (F376):=fk1 p373 p269 q376_0 s376_0 .nil func376
def p374:List SP:=[.one (.int .i64),.one (.r .int)]
abbrev T374:=Int×List Int×Unit->Option (Int×Unit)
abbrev N374(f:T374):=OKP 374 (mkE p374 p269 false f)
def q374_0:List SP:=pat 27 0 [(0,.one (.int .i64)),(1,.one (.r .int)),(5,.one (.int .i64)),(6,.one (.int .i64))]
def s374_0(b:T373)(c:T269)(d:T375)(e:T376):Lp (Int×List Int×Int×Int×Unit) (Int×Unit):=λt1 rec K=>
 cond (t1.2.2.2.1<=64) ((b (t1.2.1,())).bind λx1=>cond x1.1 ((c (t1.1,())).bind λx2=>cond x2.1 ((d (t1.2.1,t1.2.2.2.1,())).bind λx3=>(e (x3.1,())).bind λx4=>cond (x4.1<=t1.1) (rec (t1.1,t1.2.1,t1.2.2.2.1,(w64 (t1.2.2.2.1+1)),())) (rec (t1.1,t1.2.1,t1.2.2.1,(w64 (t1.2.2.2.1+1)),()))) (K t1)) (K t1)) (K t1)
def F374(b:T373)(c:T269)(d:T375)(e:T376):T374:=λa=>
 ZAD (s374_0 b c d e) fuel (a.1,a.2.1,0,1,()) λx1=>some (x1.2.2.1,())
theorem ok374{e g h i} :N373 e->N269 g->N375 h->N376 i->N374 (F374 e g h i):=λa b c d=>fk1 p374 p269 q374_0 (s374_0 e g h i) (oks4 a b c d) func374
abbrev T361:=Int×List Int×Unit->Option (List Int×Unit)
abbrev N361(f:T361):=OKP 361 (mkE p374 r375 false f)
def q361_0:List SP:=pat 55 0 [(5,.one (.int .i64)),(6,.one (.o 5000001 .int)),(7,.one (.int .i64)),(29,.one (.r .int)),(30,.one (.int .i64)),(31,.one (.int .i64))]
def s361_0(b:T373)(c:T269)(d:T374)(e:T375)(g:T376):Lp (Int×List Int×Int×List Int×Int×Int×Unit) (List Int×Unit):=λt6 rec K=>
 cond (t6.2.2.2.2.2.1<t6.2.2.2.2.1) (rdL t6.2.2.2.1 t6.2.2.2.2.2.1 λx1=>cond (x1>t6.1) (cond (t6.2.2.1>0) (rdL t6.2.1 t6.2.2.2.2.2.1 λ_=>(t6.2.1[(Int.toNat t6.2.2.2.2.2.1)]?).bind λx2=>rdL t6.2.1 t6.2.2.2.2.2.1 λ_=>(t6.2.1[(Int.toNat t6.2.2.2.2.2.1)]?).bind λx3=>rec (t6.1,(List.set t6.2.1 (Int.toNat t6.2.2.2.2.2.1) (w64 (x2+1))),(w64 (t6.2.2.1-1)),t6.2.2.2.1,t6.2.2.2.2.1,(w64 (t6.2.2.2.2.2.1+1)),())) (rec (t6.1,t6.2.1,t6.2.2.1,t6.2.2.2.1,t6.2.2.2.2.1,(w64 (t6.2.2.2.2.2.1+1)),()))) (rec (t6.1,t6.2.1,t6.2.2.1,t6.2.2.2.1,t6.2.2.2.2.1,(w64 (t6.2.2.2.2.2.1+1)),()))) (K t6)
def F361(b:T373)(c:T269)(d:T374)(e:T375)(g:T376):T361:=λa=>
 (b (a.2.1,())).bind λx1=>cond (!(!x1.1)) ((c (a.1,())).bind λx2=>cond (!x2.1) (some (([]:List Int),())) ((d a).bind λx3=>(e (a.2.1,x3.1,())).bind λx4=>(g (x4.1,())).bind λx5=>ZAD (s361_0 b c d e g) fuel (x3.1,x4.1,(w64 (a.1-x5.1)),a.2.1,(Int.ofNat a.2.1.length),0,()) λx6=>some (x6.2.1,()))) (some (([]:List Int),()))
theorem ok361{g h i j k} :N373 g->N269 h->N374 i->N375 j->N376 k->N361 (F361 g h i j k):=λa b c d e=>fk1 p374 r375 q361_0 (s361_0 g h i j k) (oks5 a b c d e) func361
def p329:List SP:=[.agg [.r .device,.r .cue,.r .gust,.int .i64],.one (.int .i64)]
abbrev T329:=ShD×Int×Unit->Option (List Int×Unit)
abbrev N329(f:T329):=OKP 329 (mkE p329 r375 false f)
def q329_2:List SP:=pat 92 0 [(1,.one (.int .i64)),(2,.box 5002001 [.r .device,.r .cue,.r .gust,.int .i64]),(5,.one (.o 5002002 .int)),(7,.boxt 5002003 .device),(8,.one (.o 5002004 .int)),(9,.one (.o 5002005 .int)),(19,.one (.r .device)),(20,.one (.int .i64)),(21,.one (.int .i64)),(28,.one (.r .device)),(29,.one (.int .i64)),(30,.one (.int .i64))]
def s329_2(b:T233)(c:T249)(d:T358)(e:T361):Lp (Int×ShD×List Int×Device×List Int×List Int×List Device×Int×Int×List Device×Int×Int×Unit) (List Int×Unit):=λt3 rec K=>
 cond (t3.2.2.2.2.2.2.2.2.2.2.2.1<t3.2.2.2.2.2.2.2.2.2.2.1) (rdL t3.2.2.2.2.2.2.2.2.2.1 t3.2.2.2.2.2.2.2.2.2.2.2.1 λx1=>(λj1:Option (List Int×Unit)=>cond (x1.Kind=2) (cond (x1.Line=t3.2.2.2.1.Name) ((b (t3.1,0,(w64 (t3.2.1.2.2.2.1-1)),())).bind λx2=>cond x2.1 ((c (t3.2.1.2.1,x1.Name,t3.1,())).bind λx3=>(d (x3.1,x1.Most,())).bind λx4=>capK (t3.2.2.2.2.1.length+List.length ([x4.1]:List Int)) (capK (t3.2.2.2.2.2.1.length+List.length ([t3.2.2.2.2.2.2.2.2.2.2.2.1]:List Int)) (rec (t3.1,t3.2.1,t3.2.2.1,t3.2.2.2.1,(t3.2.2.2.2.1++([x4.1]:List Int)),(t3.2.2.2.2.2.1++([t3.2.2.2.2.2.2.2.2.2.2.2.1]:List Int)),t3.2.2.2.2.2.2.1,t3.2.2.2.2.2.2.2.1,t3.2.2.2.2.2.2.2.2.1,t3.2.2.2.2.2.2.2.2.2.1,t3.2.2.2.2.2.2.2.2.2.2.1,(w64 (t3.2.2.2.2.2.2.2.2.2.2.2.1+1)),())))) j1) j1) j1) (rec (t3.1,t3.2.1,t3.2.2.1,t3.2.2.2.1,t3.2.2.2.2.1,t3.2.2.2.2.2.1,t3.2.2.2.2.2.2.1,t3.2.2.2.2.2.2.2.1,t3.2.2.2.2.2.2.2.2.1,t3.2.2.2.2.2.2.2.2.2.1,t3.2.2.2.2.2.2.2.2.2.2.1,(w64 (t3.2.2.2.2.2.2.2.2.2.2.2.1+1)),()))) (K t3)
def q329_4:List SP:=pat 92 0 [(1,.one (.int .i64)),(2,.box 5004001 [.r .device,.r .cue,.r .gust,.int .i64]),(5,.one (.o 5004002 .int)),(9,.one (.o 5004003 .int)),(19,.one (.r .device)),(20,.one (.int .i64)),(21,.one (.int .i64)),(75,.one (.o 5004004 .int)),(76,.one (.int .i64)),(77,.one (.int .i64))]
def s329_4(b:T233)(c:T249)(d:T358)(e:T361):Lp (Int×ShD×List Int×List Int×List Device×Int×Int×List Int×Int×Int×Unit) (List Int×Unit):=λt10 rec K=>
 cond (t10.2.2.2.2.2.2.2.2.2.1<t10.2.2.2.2.2.2.2.2.1) (rdL t10.2.2.2.2.2.2.2.1 t10.2.2.2.2.2.2.2.2.2.1 λ_=>(t10.2.2.2.2.2.2.2.1[(Int.toNat t10.2.2.2.2.2.2.2.2.2.1)]?).bind λx1=>rdL t10.2.2.2.1 t10.2.2.2.2.2.2.2.2.2.1 λ_=>(t10.2.2.2.1[(Int.toNat t10.2.2.2.2.2.2.2.2.2.1)]?).bind λx2=>rdL t10.2.2.1 x2 λ_=>(t10.2.2.1[(Int.toNat x2)]?).bind λx3=>rec (t10.1,t10.2.1,(List.set t10.2.2.1 (Int.toNat x2) x1),t10.2.2.2.1,t10.2.2.2.2.1,t10.2.2.2.2.2.1,t10.2.2.2.2.2.2.1,t10.2.2.2.2.2.2.2.1,t10.2.2.2.2.2.2.2.2.1,(w64 (t10.2.2.2.2.2.2.2.2.2.1+1)),())) (K t10)
def q329_0:List SP:=pat 92 0 [(1,.one (.int .i64)),(2,.box 5000001 [.r .device,.r .cue,.r .gust,.int .i64]),(5,.one (.o 5000002 .int)),(19,.one (.r .device)),(20,.one (.int .i64)),(21,.one (.int .i64))]
def s329_0(b:T233)(c:T249)(d:T358)(e:T361):Lp (Int×ShD×List Int×List Device×Int×Int×Unit) (List Int×Unit):=λt1 rec K=>
 cond (t1.2.2.2.2.2.1<t1.2.2.2.2.1) (rdL t1.2.2.2.1 t1.2.2.2.2.2.1 λx1=>ZAD (s329_2 b c d e) fuel (t1.1,t1.2.1,t1.2.2.1,x1,([]:List Int),([]:List Int),t1.2.2.2.1,t1.2.2.2.2.1,t1.2.2.2.2.2.1,t1.2.1.1,(Int.ofNat t1.2.1.1.length),0,()) λx2=>cond ((Int.ofNat x2.2.2.2.2.1.length)>0) ((e (x2.2.2.2.1.Most,x2.2.2.2.2.1,())).bind λx3=>ZAD (s329_4 b c d e) fuel (x2.1,x2.2.1,x2.2.2.1,x2.2.2.2.2.2.1,x2.2.2.2.2.2.2.1,x2.2.2.2.2.2.2.2.1,x2.2.2.2.2.2.2.2.2.1,x3.1,(Int.ofNat x3.1.length),0,()) λx4=>rec (x4.1,x4.2.1,x4.2.2.1,x4.2.2.2.2.1,x4.2.2.2.2.2.1,(w64 (x4.2.2.2.2.2.2.1+1)),())) (rec (x2.1,x2.2.1,x2.2.2.1,x2.2.2.2.2.2.2.1,x2.2.2.2.2.2.2.2.1,(w64 (x2.2.2.2.2.2.2.2.2.1+1)),()))) (K t1)
def F329(b:T233)(c:T249)(d:T358)(e:T361):T329:=λa=>
 okIf ((0:Int)<=(Int.ofNat a.1.1.length)) (capK (Int.toNat (Int.ofNat a.1.1.length)) (ZAD (s329_0 b c d e) fuel (a.2.1,a.1,(List.replicate (Int.toNat (Int.ofNat a.1.1.length)) (Ty.zero .int)),a.1.1,(Int.ofNat a.1.1.length),0,()) λx1=>some (x1.2.2.1,())))
theorem ok329{e g h i} :N233 e->N249 g->N358 h->N361 i->N329 (F329 e g h i):=λa b c d=>fk (ps:=p329) (rs:=r375) (L:=lenv [(0,ZA2 q329_0 (s329_0 e g h i)),(2,ZA2 q329_2 (s329_2 e g h i)),(4,ZA2 q329_4 (s329_4 e g h i))]) (ls:=[(0,ZBB f329 0),(2,ZBB f329 1),(4,ZBB f329 2)]) (oks4 a b c d) func329 (.cons q329_0 (s329_0 e g h i) rfl (λ_ _ _ _=>by kernel_rfl) (.cons q329_2 (s329_2 e g h i) rfl (λ_ _ _ _=>by kernel_rfl) (.cons q329_4 (s329_4 e g h i) rfl (λ_ _ _ _=>by kernel_rfl) .nil)))
def r309:List SP:=[.one (.o 0 .throw)]
abbrev T309:=ShD×Unit->Option (List Throw×Unit)
abbrev N309(f:T309):=OKP 309 (mkE p139 r309 false f)
def q309_2:List SP:=pat 45 0 [(1,.box 5002001 [.r .device,.r .cue,.r .gust,.int .i64]),(3,.one (.o 5002002 .throw)),(4,.one (.int .i64)),(16,.one (.o 5002003 .int)),(17,.one (.int .i64)),(18,.one (.int .i64))]
def s309_2(b:T329)(c:T348):Lp (ShD×List Throw×Int×List Int×Int×Int×Unit) (List Throw×Unit):=λt3 rec K=>
 cond (t3.2.2.2.2.2.1<t3.2.2.2.2.1) (rdL t3.2.2.2.1 t3.2.2.2.2.2.1 λ_=>(t3.2.2.2.1[(Int.toNat t3.2.2.2.2.2.1)]?).bind λx1=>cond (x1>0) (rdL t3.1.1 t3.2.2.2.2.2.1 λx2=>rdL t3.1.1 t3.2.2.2.2.2.1 λx3=>(c (x3,x1,())).bind λx4=>capK (t3.2.1.length+List.length ([(⟨x2.Name,t3.2.2.1,⟨⟨x4.1.At.X,x4.1.At.Y⟩,x4.1.Heading,x4.1.Tilt,x4.1.Lift⟩⟩:Throw)]:List Throw)) (rec (t3.1,(t3.2.1++([(⟨x2.Name,t3.2.2.1,⟨⟨x4.1.At.X,x4.1.At.Y⟩,x4.1.Heading,x4.1.Tilt,x4.1.Lift⟩⟩:Throw)]:List Throw)),t3.2.2.1,t3.2.2.2.1,t3.2.2.2.2.1,(w64 (t3.2.2.2.2.2.1+1)),()))) (rec (t3.1,t3.2.1,t3.2.2.1,t3.2.2.2.1,t3.2.2.2.2.1,(w64 (t3.2.2.2.2.2.1+1)),()))) (K t3)
def q309_0:List SP:=pat 45 0 [(1,.box 5000001 [.r .device,.r .cue,.r .gust,.int .i64]),(3,.one (.o 5000002 .throw)),(4,.one (.int .i64))]
def s309_0(b:T329)(c:T348):Lp (ShD×List Throw×Int×Unit) (List Throw×Unit):=λt1 rec K=>
 cond (t1.2.2.1<t1.1.2.2.2.1) ((b (t1.1,t1.2.2.1,())).bind λx1=>ZAD (s309_2 b c) fuel (t1.1,t1.2.1,t1.2.2.1,x1.1,(Int.ofNat x1.1.length),0,()) λx2=>rec (x2.1,x2.2.1,(w64 (x2.2.2.1+1)),())) (K t1)
def F309(b:T329)(c:T348):T309:=λa=>
 ZAD (s309_0 b c) fuel (a.1,([]:List Throw),0,()) λx1=>some (x1.2.1,())
theorem ok309{c d} :N329 c->N348 d->N309 (F309 c d):=λa b=>fk (ps:=p139) (rs:=r309) (L:=lenv [(0,ZA2 q309_0 (s309_0 c d)),(2,ZA2 q309_2 (s309_2 c d))]) (ls:=[(0,ZBB f309 0),(2,ZBB f309 1)]) (oks2 a b) func309 (.cons q309_0 (s309_0 c d) rfl (λ_ _ _ _=>by kernel_rfl) (.cons q309_2 (s309_2 c d) rfl (λ_ _ _ _=>by kernel_rfl) .nil))
def p325:List SP:=[.one (.r .gust),.one (.int .i64)]
abbrev T325:=List Gust×Int×Unit->Option (Place×Unit)
abbrev N325(f:T325):=OKP 325 (mkE p325 p181 false f)
def q325_0:List SP:=pat 23 0 [(1,.one (.int .i64)),(4,.boxt 5000001 .place),(5,.boxt 5000002 .place),(9,.one (.r .gust)),(10,.one (.int .i64)),(11,.one (.int .i64))]
def s325_0:Lp (Int×Place×Place×List Gust×Int×Int×Unit) (Place×Unit):=λt1 rec K=>
 cond (t1.2.2.2.2.2.1<t1.2.2.2.2.1) (rdL t1.2.2.2.1 t1.2.2.2.2.2.1 λx1=>cond (x1.From<=t1.1) (rec (t1.1,t1.2.1,x1.Drift,t1.2.2.2.1,t1.2.2.2.2.1,(w64 (t1.2.2.2.2.2.1+1)),())) (rec (t1.1,t1.2.1,t1.2.2.1,t1.2.2.2.1,t1.2.2.2.2.1,(w64 (t1.2.2.2.2.2.1+1)),()))) (K t1)
def F325:T325:=λa=>
 ZAD (s325_0) fuel (a.2.1,(⟨0,0⟩:Place),(⟨0,0⟩:Place),a.1,(Int.ofNat a.1.length),0,()) λx1=>some (x1.2.2.1,())
theorem ok325:N325 (F325):=fk1 p325 p181 q325_0 s325_0 .nil func325
def p350:List SP:=[.one (.r .gust),.one (.int .i64),.one (.int .i64)]
abbrev T350:=List Gust×Int×Int×Unit->Option (Place×Bool×Unit)
abbrev N350(f:T350):=OKP 350 (mkE p350 r356 false f)
def q350_0:List SP:=pat 40 0 [(0,.one (.r .gust)),(2,.one (.int .i64)),(6,.boxt 5000001 .place),(8,.boxt 5000002 .place),(9,.one (.int .i64))]
def s350_0(b:T232)(c:T325)(d:T317):Lp (List Gust×Int×Place×Place×Int×Unit) (Place×Bool×Unit):=λt2 rec K=>
 cond (t2.2.2.2.2.1<t2.2.1) ((c (t2.1,t2.2.2.2.2.1,())).bind λx1=>(d (t2.2.2.2.1,x1.1,())).bind λx2=>rec (t2.1,t2.2.1,t2.2.2.1,x2.1,(w64 (t2.2.2.2.2.1+1)),())) (K t2)
def F350(b:T232)(c:T325)(d:T317):T350:=λa=>
 (b (a.1,())).bind λx1=>cond (!(!x1.1)) (cond (!(a.2.1<0)) (cond (!(a.2.2.1<a.2.1)) (cond (a.2.2.1>128) (some ((⟨0,0⟩:Place),false,())) (ZAD (s350_0 b c d) fuel (a.1,a.2.2.1,(⟨0,0⟩:Place),(⟨0,0⟩:Place),a.2.1,()) λx2=>some (x2.2.2.2.1,true,()))) (some ((⟨0,0⟩:Place),false,()))) (some ((⟨0,0⟩:Place),false,()))) (some ((⟨0,0⟩:Place),false,()))
theorem ok350{d e g} :N232 d->N325 e->N317 g->N350 (F350 d e g):=λa b c=>fk1 p350 r356 q350_0 (s350_0 d e g) (oks3 a b c) func350
abbrev T352:=Jet×Int×Unit->Option (Int×Unit)
abbrev N352(f:T352):=OKP 352 (mkE p351 p269 false f)
def q352_0:List SP:=pat 24 0 [(1,.one (.int .i64)),(2,.boxt 5000001 .jet),(5,.one (.int .i64)),(6,.one (.int .i64))]
def s352_0(b:T311):Lp (Int×Jet×Int×Int×Unit) (Int×Unit):=λt2 rec K=>
 cond (t2.2.2.2.1<t2.1) (rec (t2.1,t2.2.1,(w64 ((w64 (t2.2.2.1+t2.2.1.Lift)) -(w64 (2*t2.2.2.2.1)))),(w64 (t2.2.2.2.1+1)),())) (K t2)
def F352(b:T311):T352:=λa=>
 (b (a.1,())).bind λx1=>cond (a.2.1>x1.1) (some (0,())) (ZAD (s352_0 b) fuel (a.2.1,a.1,0,0,()) λx2=>some (x2.2.2.1,()))
theorem ok352{b} :N311 b->N352 (F352 b):=λa=>fk1 p351 p269 q352_0 (s352_0 b) (.cons a .nil) func352
def p310:List SP:=[.agg [.r .device,.r .cue,.r .gust,.int .i64],.t .throw,.one (.int .i64)]
def r310:List SP:=[.t .drop]
abbrev T310:=ShD×Throw×Int×Unit->Option (Drop×Unit)
abbrev N310(f:T310):=OKP 310 (mkE p310 r310 false f)
def F310(b:T350)(c:T351)(d:T317)(e:T352):T310:=λa=>
 (b (a.1.2.2.1,a.2.1.born,a.2.2.1,())).bind λx1=>(c (a.2.1.jet,(w64 (a.2.2.1-a.2.1.born)),())).bind λx2=>(d (x2.1,x1.1,())).bind λx3=>(e (a.2.1.jet,(w64 (a.2.2.1-a.2.1.born)),())).bind λx4=>some ((⟨a.2.1.name,a.2.1.born,⟨x3.1.X,x3.1.Y⟩,x4.1⟩:Drop),())
theorem ok310{e g h i} :N350 e->N351 g->N317 h->N352 i->N310 (F310 e g h i):=λa b c d=>fk0 (oks4 a b c d) func310
def r238:List SP:=[.one (.o 0 .drop)]
abbrev T238:=ShD×Unit->Option (List Drop×Unit)
abbrev N238(f:T238):=OKP 238 (mkE p139 r238 false f)
def q238_0:List SP:=pat 32 0 [(1,.box 5000001 [.r .device,.r .cue,.r .gust,.int .i64]),(3,.one (.o 5000002 .drop)),(12,.one (.o 5000003 .throw)),(13,.one (.int .i64)),(14,.one (.int .i64))]
def s238_0(b:T140)(c:T309)(d:T311)(e:T310):Lp (ShD×List Drop×List Throw×Int×Int×Unit) (List Drop×Unit):=λt3 rec K=>
 cond (t3.2.2.2.2.1<t3.2.2.2.1) (rdL t3.2.2.1 t3.2.2.2.2.1 λ_=>(t3.2.2.1[(Int.toNat t3.2.2.2.2.1)]?).bind λx1=>(d (x1.jet,())).bind λx2=>(e (t3.1,x1,(w64 (x1.born+x2.1)),())).bind λx3=>capK (t3.2.1.length+List.length ([x3.1]:List Drop)) (rec (t3.1,(t3.2.1++([x3.1]:List Drop)),t3.2.2.1,t3.2.2.2.1,(w64 (t3.2.2.2.2.1+1)),()))) (K t3)
def F238(b:T140)(c:T309)(d:T311)(e:T310):T238:=λa=>
 (b (a.1,())).bind λx1=>cond (!x1.1) (some (([]:List Drop),())) ((c (a.1,())).bind λx2=>ZAD (s238_0 b c d e) fuel (a.1,([]:List Drop),x2.1,(Int.ofNat x2.1.length),0,()) λx3=>some (x3.2.1,()))
theorem ok238{e g h i} :N140 e->N309 g->N311 h->N310 i->N238 (F238 e g h i):=λa b c d=>fk1 p139 r238 q238_0 (s238_0 e g h i) (oks4 a b c d) func238
abbrev T78:=Int×Unit->Option (Str×Unit)
abbrev N78(f:T78):=OKP 78 (mkE p269 p268 false f)
def F78(b:T78):T78:=λa=>
 cond (a.1=(-9223372036854775808)) (some ([45,57,50,50,51,51,55,50,48,51,54,56,53,52,55,55,53,56,48,56],())) (cond (a.1<0) ((b ((w64 (0-a.1)),())).bind λx1=>capK (List.length [45]+x1.1.length) (some (([45]++x1.1),()))) (cond (a.1>9) ((b ((w64 (Int.tdiv a.1 10)),())).bind λx1=>capK (x1.1.length+List.length (List.map (λn=>UInt8.ofNat (Int.toNat n)) ([(IntKind.wrap .u8 (w64 (48+(Int.tmod a.1 10))))]:List Int))) (some ((x1.1++(List.map (λn=>UInt8.ofNat (Int.toNat n)) ([(IntKind.wrap .u8 (w64 (48+(Int.tmod a.1 10))))]:List Int))),()))) (some ((List.map (λn=>UInt8.ofNat (Int.toNat n)) ([(IntKind.wrap .u8 (w64 (48+(Int.tmod a.1 10))))]:List Int)),()))))
theorem ok78{b} :N78 b->N78 (F78 b):=λa=>fk0 (.cons a .nil) func78
abbrev N147(f:T78):=OKP 147 (mkE p269 p268 false f)
def F147(b:T269)(c:T78):T78:=λa=>
 (b (a.1,())).bind λx1=>cond (!x1.1) (some ([],())) (cond (a.1<0) ((c ((w64 (Int.tdiv (w64 (0-a.1)) 8)),())).bind λx2=>capK (List.length [45]+x2.1.length) (rdL ([[],[46,49,50,53],[46,50,53],[46,51,55,53],[46,53],[46,54,50,53],[46,55,53],[46,56,55,53]]:List Str) (Int.tmod (w64 (0-a.1)) 8) λ_=>(([[],[46,49,50,53],[46,50,53],[46,51,55,53],[46,53],[46,54,50,53],[46,55,53],[46,56,55,53]]:List Str)[(Int.toNat (Int.tmod (w64 (0-a.1)) 8))]?).bind λx3=>capK (List.length ([45]++x2.1)+x3.length) (some ((([45]++x2.1)++x3),())))) ((c ((w64 (Int.tdiv a.1 8)),())).bind λx2=>capK (List.length ([]:Str)+x2.1.length) (rdL ([[],[46,49,50,53],[46,50,53],[46,51,55,53],[46,53],[46,54,50,53],[46,55,53],[46,56,55,53]]:List Str) (Int.tmod a.1 8) λ_=>(([[],[46,49,50,53],[46,50,53],[46,51,55,53],[46,53],[46,54,50,53],[46,55,53],[46,56,55,53]]:List Str)[(Int.toNat (Int.tmod a.1 8))]?).bind λx3=>capK (List.length (([]:Str)++x2.1)+x3.length) (some (((([]:Str)++x2.1)++x3),())))))
theorem ok147{c d} :N248 c->N78 d->N147 (F147 c d):=λa b=>fk0 (oks2 a b) func147
abbrev T88:=Place×Unit->Option (Str×Unit)
abbrev N88(f:T88):=OKP 88 (mkE p181 p268 false f)
def F88(b:T181)(c:T78):T88:=λa=>
 (b (a.1,())).bind λx1=>cond (!x1.1) (some ([],())) ((c (a.1.X,())).bind λx2=>cond (a.1.Y>=0) (capK (x2.1.length+List.length [43]) ((c (a.1.Y,())).bind λx3=>capK (List.length (x2.1++[43])+x3.1.length) (capK (List.length ((x2.1++[43])++x3.1)+List.length [105]) (some ((((x2.1++[43])++x3.1)++[105]),()))))) ((c (a.1.Y,())).bind λx3=>capK (x2.1.length+x3.1.length) (capK (List.length (x2.1++x3.1)+List.length [105]) (some (((x2.1++x3.1)++[105]),())))))
theorem ok88{c d} :N181 c->N147 d->N88 (F88 c d):=λa b=>fk0 (oks2 a b) func88
def p37:List SP:=[.one (.r .str),.one (.str)]
def r37:List SP:=[.one (.str)]
abbrev T37:=List Str×Str×Unit->Option (Str×Unit)
abbrev N37(f:T37):=OKP 37 (mkE p37 r37 false f)
def q37_0:List SP:=pat 25 0 [(1,.one (.str)),(5,.one (.str)),(8,.one (.r .str)),(9,.one (.int .i64)),(10,.one (.int .i64))]
def s37_0:Lp (Str×Str×List Str×Int×Int×Unit) (Str×Unit):=λt1 rec K=>
 cond (t1.2.2.2.2.1<t1.2.2.2.1) (rdL t1.2.2.1 t1.2.2.2.2.1 λx1=>cond (t1.2.2.2.2.1>0) (capK (t1.2.1.length+t1.1.length) (capK (List.length (t1.2.1++t1.1)+x1.length) (rec (t1.1,((t1.2.1++t1.1)++x1),t1.2.2.1,t1.2.2.2.1,(w64 (t1.2.2.2.2.1+1)),())))) (capK (t1.2.1.length+x1.length) (rec (t1.1,(t1.2.1++x1),t1.2.2.1,t1.2.2.2.1,(w64 (t1.2.2.2.2.1+1)),())))) (K t1)
def F37:T37:=λa=>
 ZAD (s37_0) fuel (a.2.1,[],a.1,(Int.ofNat a.1.length),0,()) λx1=>some (x1.2.1,())
theorem ok37:N37 (F37):=fk1 p37 r37 q37_0 s37_0 .nil func37
def p254:List SP:=[.one (.r .str)]
abbrev T254:=List Str×Unit->Option (Str×Unit)
abbrev N254(f:T254):=OKP 254 (mkE p254 p268 false f)
def F254(b:T37):T254:=λa=>
 cond ((Int.ofNat a.1.length)=0) (some ([110,111,110,101],())) ((b (a.1,[59,32],())).bind λx1=>some (x1.1,()))
theorem ok254{b} :N37 b->N254 (F254 b):=λa=>fk0 (.cons a .nil) func254
def p237:List SP:=[.one (.r .drop),.one (.bool)]
abbrev T237:=List Drop×Bool×Unit->Option (Str×Unit)
abbrev N237(f:T237):=OKP 237 (mkE p237 p268 false f)
def q237_0:List SP:=pat 42 0 [(1,.one (.bool)),(5,.one (.o 5000001 .str)),(10,.one (.r .drop)),(11,.one (.int .i64)),(12,.one (.int .i64))]
def s237_0(b:T78)(c:T88)(d:T78)(e:T254):Lp (Bool×List Str×List Drop×Int×Int×Unit) (Str×Unit):=λt1 rec K=>
 cond (t1.2.2.2.2.1<t1.2.2.2.1) (rdL t1.2.2.1 t1.2.2.2.2.1 λx1=>capK (List.length x1.From+List.length [32]) ((b (x1.Born,())).bind λx2=>capK (List.length (x1.From++[32])+x2.1.length) (capK (List.length ((x1.From++[32])++x2.1)+List.length [32]) ((c (x1.At,())).bind λx3=>capK (List.length (((x1.From++[32])++x2.1)++[32])+x3.1.length) (cond t1.1 (capK (List.length ((((x1.From++[32])++x2.1)++[32])++x3.1)+List.length [32]) ((d (x1.Height,())).bind λx4=>capK (List.length (((((x1.From++[32])++x2.1)++[32])++x3.1)++[32])+x4.1.length) (capK (t1.2.1.length+List.length ([((((((x1.From++[32])++x2.1)++[32])++x3.1)++[32])++x4.1)]:List Str)) (rec (t1.1,(t1.2.1++([((((((x1.From++[32])++x2.1)++[32])++x3.1)++[32])++x4.1)]:List Str)),t1.2.2.1,t1.2.2.2.1,(w64 (t1.2.2.2.2.1+1)),()))))) (capK (t1.2.1.length+List.length ([((((x1.From++[32])++x2.1)++[32])++x3.1)]:List Str)) (rec (t1.1,(t1.2.1++([((((x1.From++[32])++x2.1)++[32])++x3.1)]:List Str)),t1.2.2.1,t1.2.2.2.1,(w64 (t1.2.2.2.2.1+1)),())))))))) (K t1)
def F237(b:T78)(c:T88)(d:T78)(e:T254):T237:=λa=>
 ZAD (s237_0 b c d e) fuel (a.2.1,([]:List Str),a.1,(Int.ofNat a.1.length),0,()) λx1=>(e (x1.2.1,())).bind λx2=>some (x2.1,())
theorem ok237{e g h i} :N78 e->N88 g->N147 h->N254 i->N237 (F237 e g h i):=λa b c d=>fk1 p237 p268 q237_0 (s237_0 e g h i) (oks4 a b c d) func237
abbrev T312:=Jet×Unit->Option (Int×Int×Unit)
abbrev N312(f:T312):=OKP 312 (mkE p331 p358 false f)
def q312_0:List SP:=pat 24 0 [(1,.boxt 5000001 .jet),(4,.one (.int .i64)),(5,.one (.int .i64))]
def s312_0(b:T311)(c:T352):Lp (Jet×Int×Int×Unit) (Int×Int×Unit):=λt1 rec K=>
 (b (t1.1,())).bind λx1=>cond (t1.2.2.1<=x1.1) ((c (t1.1,t1.2.2.1,())).bind λx2=>(c (t1.1,t1.2.1,())).bind λx3=>cond (x2.1>x3.1) (rec (t1.1,t1.2.2.1,(w64 (t1.2.2.1+1)),())) (rec (t1.1,t1.2.1,(w64 (t1.2.2.1+1)),()))) (K t1)
def F312(b:T311)(c:T352):T312:=λa=>
 ZAD (s312_0 b c) fuel (a.1,0,1,()) λx1=>(c (x1.1,x1.2.1,())).bind λx2=>some (x1.2.1,x2.1,())
theorem ok312{c d} :N311 c->N352 d->N312 (F312 c d):=λa b=>fk1 p331 p358 q312_0 (s312_0 c d) (oks2 a b) func312
abbrev T239:=ShD×Unit->Option (Int×Unit)
abbrev N239(f:T239):=OKP 239 (mkE p139 p269 false f)
def q239_0:List SP:=pat 30 0 [(3,.one (.int .i64)),(13,.one (.o 5000001 .throw)),(14,.one (.int .i64)),(15,.one (.int .i64))]
def s239_0(b:T140)(c:T309)(d:T312)(e:T358):Lp (Int×List Throw×Int×Int×Unit) (Int×Unit):=λt3 rec K=>
 cond (t3.2.2.2.1<t3.2.2.1) (rdL t3.2.1 t3.2.2.2.1 λ_=>(t3.2.1[(Int.toNat t3.2.2.2.1)]?).bind λx1=>(d (x1.jet,())).bind λx2=>(e (t3.1,x2.2.1,())).bind λx3=>rec (x3.1,t3.2.1,t3.2.2.1,(w64 (t3.2.2.2.1+1)),())) (K t3)
def F239(b:T140)(c:T309)(d:T312)(e:T358):T239:=λa=>
 (b (a.1,())).bind λx1=>cond (!x1.1) (some (0,())) ((c (a.1,())).bind λx2=>ZAD (s239_0 b c d e) fuel (0,x2.1,(Int.ofNat x2.1.length),0,()) λx3=>some (x3.1,()))
theorem ok239{e g h i} :N140 e->N309 g->N312 h->N313 i->N239 (F239 e g h i):=λa b c d=>fk1 p139 p269 q239_0 (s239_0 e g h i) (oks4 a b c d) func239
abbrev T315:=List Place×Int×Unit->Option (Place×Unit)
abbrev N315(f:T315):=OKP 315 (mkE p357 p181 false f)
def q315_0:List SP:=pat 43 0 [(1,.one (.int .i64)),(4,.boxt 5000001 .place),(5,.boxt 5000002 .place),(18,.one (.r .place)),(19,.one (.int .i64)),(20,.one (.int .i64))]
def s315_0(b:T141)(c:T269)(d:T355):Lp (Int×Place×Place×List Place×Int×Int×Unit) (Place×Unit):=λt3 rec K=>
 cond (t3.2.2.2.2.2.1<t3.2.2.2.2.1) (rdL t3.2.2.2.1 t3.2.2.2.2.2.1 λx1=>cond (!(t3.2.2.2.2.2.1=0)) ((d (x1,(w64 (0-t3.1)),())).bind λx2=>(d (t3.2.2.1,(w64 (0-t3.1)),())).bind λx3=>cond (x2.1.X>x3.1.X) (rec (t3.1,t3.2.1,x1,t3.2.2.2.1,t3.2.2.2.2.1,(w64 (t3.2.2.2.2.2.1+1)),())) (rec (t3.1,t3.2.1,t3.2.2.1,t3.2.2.2.1,t3.2.2.2.2.1,(w64 (t3.2.2.2.2.2.1+1)),()))) (rec (t3.1,t3.2.1,x1,t3.2.2.2.1,t3.2.2.2.2.1,(w64 (t3.2.2.2.2.2.1+1)),()))) (K t3)
def F315(b:T141)(c:T269)(d:T355):T315:=λa=>
 (b (a.1,())).bind λx1=>cond (!(!x1.1)) ((c (a.2.1,())).bind λx2=>cond (!x2.1) (some ((⟨0,0⟩:Place),())) (ZAD (s315_0 b c d) fuel (a.2.1,(⟨0,0⟩:Place),(⟨0,0⟩:Place),a.1,(Int.ofNat a.1.length),0,()) λx3=>some (x3.2.2.1,()))) (some ((⟨0,0⟩:Place),()))
theorem ok315{d e g} :N141 d->N354 e->N355 g->N315 (F315 d e g):=λa b c=>fk1 p357 p181 q315_0 (s315_0 d e g) (oks3 a b c) func315
def p353:List SP:=[.t .place,.t .box,.one (.int .i64)]
abbrev T353:=Place×Box×Int×Unit->Option (Bool×Unit)
abbrev N353(f:T353):=OKP 353 (mkE p353 r268 false f)
def F353:T353:=λa=>
 rdL ([(decide (a.1.X>a.2.1.High.X)),(decide (a.1.Y>a.2.1.High.Y)),(decide (a.1.X<a.2.1.Low.X)),(decide (a.1.Y<a.2.1.Low.Y))]:List Bool) a.2.2.1 λ_=>(([(decide (a.1.X>a.2.1.High.X)),(decide (a.1.Y>a.2.1.High.Y)),(decide (a.1.X<a.2.1.Low.X)),(decide (a.1.Y<a.2.1.Low.Y))]:List Bool)[(Int.toNat a.2.2.1)]?).bind λx1=>some (x1,())
theorem ok353:N353 (F353):=fk0 .nil func353
def r314:List SP:=[.t .throw,.one (.int .i64),.one (.bool)]
abbrev T314:=ShD×List Place×Box×Unit->Option (Throw×Int×Bool×Unit)
abbrev N314(f:T314):=OKP 314 (mkE p236 r314 false f)
def q314_2:List SP:=pat 57 0 [(1,.one (.r .place)),(5,.boxt 5002001 .box),(6,.boxt 5002002 .throw),(10,.boxt 5002003 .throw),(11,.boxt 5002004 .place),(13,.one (.int .i64)),(17,.one (.o 5002005 .throw)),(18,.one (.int .i64)),(19,.one (.int .i64))]
def s314_2(b:T309)(c:T316)(d:T315)(e:T311)(g:T317)(h:T353):Lp (List Place×Box×Throw×Throw×Place×Int×List Throw×Int×Int×Unit) (Throw×Int×Bool×Unit):=λt5 rec K=>
 cond (t5.2.2.2.2.2.1<4) ((d (t5.1,t5.2.2.2.2.2.1,())).bind λx1=>(e (t5.2.2.2.1.jet,())).bind λx2=>(g (t5.2.2.2.2.1,(⟨(w64 (x2.1*x1.1.X)),(w64 (x2.1*x1.1.Y))⟩:Place),())).bind λx3=>(h (x3.1,t5.2.1,t5.2.2.2.2.2.1,())).bind λx4=>cond x4.1 (some (t5.2.2.2.1,t5.2.2.2.2.2.1,true,())) (rec (t5.1,t5.2.1,t5.2.2.1,t5.2.2.2.1,t5.2.2.2.2.1,(w64 (t5.2.2.2.2.2.1+1)),t5.2.2.2.2.2.2.1,t5.2.2.2.2.2.2.2.1,t5.2.2.2.2.2.2.2.2.1,()))) (K t5)
def q314_0:List SP:=pat 57 0 [(1,.one (.r .place)),(5,.boxt 5000001 .box),(6,.boxt 5000002 .throw),(17,.one (.o 5000003 .throw)),(18,.one (.int .i64)),(19,.one (.int .i64))]
def s314_0(b:T309)(c:T316)(d:T315)(e:T311)(g:T317)(h:T353):Lp (List Place×Box×Throw×List Throw×Int×Int×Unit) (Throw×Int×Bool×Unit):=λt2 rec K=>
 cond (t2.2.2.2.2.2.1<t2.2.2.2.2.1) (rdL t2.2.2.2.1 t2.2.2.2.2.2.1 λ_=>(t2.2.2.2.1[(Int.toNat t2.2.2.2.2.2.1)]?).bind λx1=>(c (x1.jet,())).bind λx2=>ZAD (s314_2 b c d e g h) fuel (t2.1,t2.2.1,t2.2.2.1,x1,x2.1,0,t2.2.2.2.1,t2.2.2.2.2.1,t2.2.2.2.2.2.1,()) λx3=>rec (x3.1,x3.2.1,x3.2.2.1,x3.2.2.2.2.2.2.1,x3.2.2.2.2.2.2.2.1,(w64 (x3.2.2.2.2.2.2.2.2.1+1)),())) (K t2)
def F314(b:T309)(c:T316)(d:T315)(e:T311)(g:T317)(h:T353):T314:=λa=>
 (b (a.1,())).bind λx1=>ZAD (s314_0 b c d e g h) fuel (a.2.1,a.2.2.1,(⟨[],0,⟨⟨0,0⟩,0,0,0⟩⟩:Throw),x1.1,(Int.ofNat x1.1.length),0,()) λx2=>some ((⟨[],0,⟨⟨0,0⟩,0,0,0⟩⟩:Throw),0,false,())
theorem ok314{h i j k l m} :N309 h->N316 i->N315 j->N311 k->N317 l->N353 m->N314 (F314 h i j k l m):=λa b c d e g=>fk (ps:=p236) (rs:=r314) (L:=lenv [(0,ZA2 q314_0 (s314_0 h i j k l m)),(2,ZA2 q314_2 (s314_2 h i j k l m))]) (ls:=[(0,ZBB f314 0),(2,ZBB f314 1)]) (oks6 a b c d e g) func314 (.cons q314_0 (s314_0 h i j k l m) rfl (λ_ _ _ _=>by kernel_rfl) (.cons q314_2 (s314_2 h i j k l m) rfl (λ_ _ _ _=>by kernel_rfl) .nil))
abbrev T240:=ShD×List Place×Box×Unit->Option (Str×Unit)
abbrev N240(f:T240):=OKP 240 (mkE p236 p268 false f)
def F240(b:T140)(c:T141)(d:T142)(e:T314)(g:T315)(h:T316)(i:T311)(j:T78)(k:T317)(l:T88):T240:=λa=>
 (b (a.1,())).bind λx1=>cond (!(!x1.1)) ((c (a.2.1,())).bind λx2=>cond (!(!x2.1)) ((d (a.2.2.1,())).bind λx3=>cond (!x3.1) (some ([110,111,116,104,105,110,103,32,116,111,32,115,97,121],())) ((e a).bind λx4=>cond (!x4.2.2.1) (some ([115,97,102,101],())) ((g (a.2.1,x4.2.1,())).bind λx5=>(h (x4.1.jet,())).bind λx6=>(i (x4.1.jet,())).bind λx7=>capK (List.length [119,101,116,58,32]+List.length x4.1.name) (capK (List.length ([119,101,116,58,32]++x4.1.name)+List.length [32,97,116,32]) ((j (x4.1.born,())).bind λx8=>capK (List.length (([119,101,116,58,32]++x4.1.name)++[32,97,116,32])+x8.1.length) (capK (List.length ((([119,101,116,58,32]++x4.1.name)++[32,97,116,32])++x8.1)+List.length [32,108,97,110,100,115,32,97,116,32]) ((k (x6.1,(⟨(w64 (x7.1*x5.1.X)),(w64 (x7.1*x5.1.Y))⟩:Place),())).bind λx9=>(l (x9.1,())).bind λx10=>capK (List.length (((([119,101,116,58,32]++x4.1.name)++[32,97,116,32])++x8.1)++[32,108,97,110,100,115,32,97,116,32])+x10.1.length) (capK (List.length ((((([119,101,116,58,32]++x4.1.name)++[32,97,116,32])++x8.1)++[32,108,97,110,100,115,32,97,116,32])++x10.1)+List.length [32,105,110,32]) ((l (x5.1,())).bind λx11=>capK (List.length (((((([119,101,116,58,32]++x4.1.name)++[32,97,116,32])++x8.1)++[32,108,97,110,100,115,32,97,116,32])++x10.1)++[32,105,110,32])+x11.1.length) (some (((((((([119,101,116,58,32]++x4.1.name)++[32,97,116,32])++x8.1)++[32,108,97,110,100,115,32,97,116,32])++x10.1)++[32,105,110,32])++x11.1),()))))))))))) (some ([110,111,116,104,105,110,103,32,116,111,32,115,97,121],()))) (some ([110,111,116,104,105,110,103,32,116,111,32,115,97,121],()))
theorem ok240{h m n o p q r s u v} :N140 h->N141 m->N142 n->N314 o->N315 p->N316 q->N311 r->N78 s->N317 u->N88 v->N240 (F240 h m n o p q r s u v):=λa b c d e g i j k l=>fk0 (ZPH a b c d e g i j k l) func240
def p241:List SP:=[.agg [.r .device,.r .cue,.r .gust,.int .i64],.one (.r .place)]
abbrev T241:=ShD×List Place×Unit->Option (Box×Bool×Unit)
abbrev N241(f:T241):=OKP 241 (mkE p241 r319 false f)
def q241_0:List SP:=pat 47 0 [(1,.one (.r .place)),(4,.boxt 5000001 .box),(6,.one (.o 5000002 .place)),(22,.one (.o 5000003 .throw)),(23,.one (.int .i64)),(24,.one (.int .i64))]
def s241_0(b:T140)(c:T141)(d:T309)(e:T318)(g:T319):Lp (List Place×Box×List Place×List Throw×Int×Int×Unit) (Box×Bool×Unit):=λt4 rec K=>
 cond (t4.2.2.2.2.2.1<t4.2.2.2.2.1) (rdL t4.2.2.2.1 t4.2.2.2.2.2.1 λ_=>(t4.2.2.2.1[(Int.toNat t4.2.2.2.2.2.1)]?).bind λx1=>(e (x1.jet,t4.1,())).bind λx2=>capK (t4.2.2.1.length+List.length ([x2.1.Low,x2.1.High]:List Place)) (rec (t4.1,t4.2.1,(t4.2.2.1++([x2.1.Low,x2.1.High]:List Place)),t4.2.2.2.1,t4.2.2.2.2.1,(w64 (t4.2.2.2.2.2.1+1)),()))) (K t4)
def F241(b:T140)(c:T141)(d:T309)(e:T318)(g:T319):T241:=λa=>
 (b (a.1,())).bind λx1=>cond (!(!x1.1)) ((c (a.2.1,())).bind λx2=>cond (!x2.1) (some ((⟨⟨0,0⟩,⟨0,0⟩⟩:Box),false,())) ((d (a.1,())).bind λx3=>ZAD (s241_0 b c d e g) fuel (a.2.1,(⟨⟨0,0⟩,⟨0,0⟩⟩:Box),([]:List Place),x3.1,(Int.ofNat x3.1.length),0,()) λx4=>(g (x4.2.2.1,())).bind λx5=>some x5)) (some ((⟨⟨0,0⟩,⟨0,0⟩⟩:Box),false,()))
theorem ok241{g h i j k} :N140 g->N141 h->N309 i->N318 j->N319 k->N241 (F241 g h i j k):=λa b c d e=>fk1 p241 r319 q241_0 (s241_0 g h i j k) (oks5 a b c d e) func241
def p242:List SP:=[.agg [.r .device,.r .cue,.r .gust,.int .i64],.t .box]
abbrev T242:=ShD×Box×Unit->Option (Bool×Unit)
abbrev N242(f:T242):=OKP 242 (mkE p242 r268 false f)
def q242_0:List SP:=pat 28 0 [(3,.boxt 5000001 .box),(16,.one (.o 5000002 .drop)),(17,.one (.int .i64)),(18,.one (.int .i64))]
def s242_0(b:T140)(c:T142)(d:T238)(e:T320):Lp (Box×List Drop×Int×Int×Unit) (Bool×Unit):=λt4 rec K=>
 cond (t4.2.2.2.1<t4.2.2.1) (rdL t4.2.1 t4.2.2.2.1 λ_=>(t4.2.1[(Int.toNat t4.2.2.2.1)]?).bind λx1=>(e (t4.1,x1.At,())).bind λx2=>cond (!x2.1) (some (false,())) (rec (t4.1,t4.2.1,t4.2.2.1,(w64 (t4.2.2.2.1+1)),()))) (K t4)
def F242(b:T140)(c:T142)(d:T238)(e:T320):T242:=λa=>
 (b (a.1,())).bind λx1=>cond (!(!x1.1)) ((c (a.2.1,())).bind λx2=>cond (!x2.1) (some (false,())) ((d (a.1,())).bind λx3=>ZAD (s242_0 b c d e) fuel (a.2.1,x3.1,(Int.ofNat x3.1.length),0,()) λx4=>some (true,()))) (some (false,()))
theorem ok242{e g h i} :N140 e->N142 g->N238 h->N320 i->N242 (F242 e g h i):=λa b c d=>fk1 p242 r268 q242_0 (s242_0 e g h i) (oks4 a b c d) func242
def p143:List SP:=[.agg [.r .device,.r .cue,.r .gust,.int .i64,.r .place,.int .i64,.int .i64,.int .i64,.int .i64],.one (.str)]
abbrev T143:=DkD×Str×Unit->Option (DkD×Str×Unit)
abbrev N143(f:T143):=OKP 143 (mkE p143 p143 true f)
def F143(b:T236)(c:T238)(d:T237)(e:T239)(g:T78)(h:T240)(i:T241)(j:T88)(k:T242):T143:=λa=>
 cond (a.2.1=[108,105,109,105,116]) ((b ((a.1.1,a.1.2.1,a.1.2.2.1,a.1.2.2.2.1,()),a.1.2.2.2.2.1,(⟨⟨a.1.2.2.2.2.2.1,a.1.2.2.2.2.2.2.1⟩,⟨a.1.2.2.2.2.2.2.2.1,a.1.2.2.2.2.2.2.2.2.1⟩⟩:Box),())).bind λx1=>some ((x1.1.1,x1.1.2.1,x1.1.2.2.1,x1.1.2.2.2.1,a.1.2.2.2.2.1,a.1.2.2.2.2.2.1,a.1.2.2.2.2.2.2.1,a.1.2.2.2.2.2.2.2.1,a.1.2.2.2.2.2.2.2.2.1,()),[111,107],())) (cond (a.2.1=[108,97,110,100,105,110,103,115]) ((c ((a.1.1,a.1.2.1,a.1.2.2.1,a.1.2.2.2.1,()),())).bind λx1=>(d (x1.1,false,())).bind λx2=>some (a.1,x2.1,())) (cond (a.2.1=[104,105,103,104]) ((e ((a.1.1,a.1.2.1,a.1.2.2.1,a.1.2.2.2.1,()),())).bind λx1=>(g (x1.1,())).bind λx2=>some (a.1,x2.1,())) (cond (a.2.1=[115,97,102,101]) ((h ((a.1.1,a.1.2.1,a.1.2.2.1,a.1.2.2.2.1,()),a.1.2.2.2.2.1,(⟨⟨a.1.2.2.2.2.2.1,a.1.2.2.2.2.2.2.1⟩,⟨a.1.2.2.2.2.2.2.2.1,a.1.2.2.2.2.2.2.2.2.1⟩⟩:Box),())).bind λx1=>some (a.1,x1.1,())) (cond (a.2.1=[108,101,97,115,116]) ((i ((a.1.1,a.1.2.1,a.1.2.2.1,a.1.2.2.2.1,()),a.1.2.2.2.2.1,())).bind λx1=>cond (!x1.2.1) (some (a.1,[110,111,110,101],())) ((j (x1.1.Low,())).bind λx2=>capK (x2.1.length+List.length [32]) ((j (x1.1.High,())).bind λx3=>capK (List.length (x2.1++[32])+x3.1.length) (some (a.1,((x2.1++[32])++x3.1),()))))) (cond (a.2.1=[100,114,121]) ((k ((a.1.1,a.1.2.1,a.1.2.2.1,a.1.2.2.2.1,()),(⟨⟨a.1.2.2.2.2.2.1,a.1.2.2.2.2.2.2.1⟩,⟨a.1.2.2.2.2.2.2.2.1,a.1.2.2.2.2.2.2.2.2.1⟩⟩:Box),())).bind λx1=>cond x1.1 (some (a.1,[121,101,115],())) (some (a.1,[110,111],()))) (some (a.1,[119,104,97,116],())))))))
theorem ok143{h l m o p q r s u} :N236 h->N238 l->N237 m->N239 o->N147 p->N240 q->N241 r->N88 s->N242 u->N143 (F143 h l m o p q r s u):=λa b c d e g i j k=>fka0 (ann:=λn=>Nat.beq n 2500104 || Nat.beq n 2599999) (oks9 a b c d e g i j k) func143
def r144:List SP:=[.one (.int .i64),.one (.bool)]
abbrev T144:=Str×Unit->Option (Int×Bool×Unit)
abbrev N144(f:T144):=OKP 144 (mkE p268 r144 false f)
def q144_0:List SP:=pat 42 0 [(0,.one (.str)),(4,.one (.int .i64)),(5,.one (.int .i64))]
def s144_0(b:T78):Lp (Str×Int×Int×Unit) (Int×Bool×Unit):=λt1 rec K=>
 cond (t1.2.2.1<(Int.ofNat t1.1.length)) (cond (t1.2.2.1<4) (rdL t1.1 t1.2.2.1 λx1=>rec (t1.1,(w64 ((w64 ((w64 (10*t1.2.1))+(w64 (Int.ofNat (UInt8.toNat x1))))) -48)),(w64 (t1.2.2.1+1)),())) (K t1)) (K t1)
def F144(b:T78):T144:=λa=>
 ZAD (s144_0 b) fuel (a.1,0,0,()) λx1=>cond (!((Int.ofNat x1.1.length)=0)) (cond (!(x1.2.1<0)) (cond (!(x1.2.1>999)) ((b (x1.2.1,())).bind λx2=>cond (!(x2.1=x1.1)) (some (0,false,())) (some (x1.2.1,true,()))) (some (0,false,()))) (some (0,false,()))) (some (0,false,()))
theorem ok144{b} :N78 b->N144 (F144 b):=λa=>fk1 p268 r144 q144_0 (s144_0 b) (.cons a .nil) func144
abbrev N250(f:T144):=OKP 250 (mkE p268 r144 false f)
def q250_0:List SP:=pat 49 0 [(0,.one (.str)),(5,.one (.bool)),(6,.one (.int .i64)),(7,.one (.bool)),(8,.one (.int .i64))]
def s250_0(b:T41)(c:T144)(d:T78):Lp (Str×Bool×Int×Bool×Int×Unit) (Int×Bool×Unit):=λt5 rec K=>
 cond (t5.2.2.2.2.1<8) (cond t5.2.2.2.1 (cond t5.2.1 ((d ((w64 (0-(w64 ((w64 (8*t5.2.2.1))+t5.2.2.2.2.1)))),())).bind λx1=>cond (x1.1=t5.1) (some ((w64 (0-(w64 ((w64 (8*t5.2.2.1))+t5.2.2.2.2.1)))),true,())) (rec (t5.1,t5.2.1,t5.2.2.1,t5.2.2.2.1,(w64 (t5.2.2.2.2.1+1)),()))) ((d ((w64 ((w64 (8*t5.2.2.1))+t5.2.2.2.2.1)),())).bind λx1=>cond (x1.1=t5.1) (some ((w64 ((w64 (8*t5.2.2.1))+t5.2.2.2.2.1)),true,())) (rec (t5.1,t5.2.1,t5.2.2.1,t5.2.2.2.1,(w64 (t5.2.2.2.2.1+1)),())))) (K t5)) (K t5)
def F250(b:T41)(c:T144)(d:T78):T144:=λa=>
 (b (a.1,[46],())).bind λx1=>rdL x1.1 0 λ_=>(x1.1[(Int.toNat 0)]?).bind λx2=>cond ((Int.ofNat x2.length)>0) (rdL x2 0 λx3=>cond ((Int.ofNat (UInt8.toNat x3))=45) (okIf ((0:Int)<=1/\(1:Int)<=x2.length) ((c ((List.drop (Int.toNat 1) x2),())).bind λx4=>ZAD (s250_0 b c d) fuel (a.1,(decide ((Int.ofNat (UInt8.toNat x3))=45)),x4.1,x4.2.1,0,()) λx5=>some (0,false,()))) ((c (x2,())).bind λx4=>ZAD (s250_0 b c d) fuel (a.1,(decide ((Int.ofNat (UInt8.toNat x3))=45)),x4.1,x4.2.1,0,()) λx5=>some (0,false,()))) ((c (x2,())).bind λx3=>ZAD (s250_0 b c d) fuel (a.1,false,x3.1,x3.2.1,0,()) λx4=>some (0,false,()))
theorem ok250{d e g} :N41 d->N144 e->N147 g->N250 (F250 d e g):=λa b c=>fk1 p268 r144 q250_0 (s250_0 d e g) (oks3 a b c) func250
abbrev T149:=Str×Unit->Option (Place×Bool×Unit)
abbrev N149(f:T149):=OKP 149 (mkE p268 r356 false f)
def q149_0:List SP:=pat 57 0 [(0,.one (.str)),(2,.boxt 5000001 .place),(4,.one (.int .i64))]
def s149_0(b:T144)(c:T88):Lp (Str×Place×Int×Unit) (Place×Bool×Unit):=λt1 rec K=>
 cond ((w64 (t1.2.2.1+1))<(Int.ofNat t1.1.length)) (okIf ((0:Int)<=t1.2.2.1/\(t1.2.2.1:Int)<=t1.1.length) ((b ((List.take (Int.toNat t1.2.2.1) t1.1),())).bind λx1=>rdL t1.1 t1.2.2.1 λx2=>cond ((Int.ofNat (UInt8.toNat x2))=43) (okIf ((0:Int)<=(w64 (t1.2.2.1+1))/\((w64 (t1.2.2.1+1)):Int)<=(w64 ((Int.ofNat t1.1.length) -1))/\((w64 ((Int.ofNat t1.1.length) -1)):Int)<=t1.1.length) ((b ((List.drop (Int.toNat (w64 (t1.2.2.1+1))) (List.take (Int.toNat (w64 ((Int.ofNat t1.1.length) -1))) t1.1)),())).bind λx3=>cond x1.2.1 (cond x3.2.1 ((c ((⟨x1.1,x3.1⟩:Place),())).bind λx4=>cond (x4.1=t1.1) (some ((⟨x1.1,x3.1⟩:Place),true,())) (rec (t1.1,t1.2.1,(w64 (t1.2.2.1+1)),()))) (rec (t1.1,t1.2.1,(w64 (t1.2.2.1+1)),()))) (rec (t1.1,t1.2.1,(w64 (t1.2.2.1+1)),())))) (okIf ((0:Int)<=t1.2.2.1/\(t1.2.2.1:Int)<=(w64 ((Int.ofNat t1.1.length) -1))/\((w64 ((Int.ofNat t1.1.length) -1)):Int)<=t1.1.length) ((b ((List.drop (Int.toNat t1.2.2.1) (List.take (Int.toNat (w64 ((Int.ofNat t1.1.length) -1))) t1.1)),())).bind λx3=>cond x1.2.1 (cond x3.2.1 ((c ((⟨x1.1,x3.1⟩:Place),())).bind λx4=>cond (x4.1=t1.1) (some ((⟨x1.1,x3.1⟩:Place),true,())) (rec (t1.1,t1.2.1,(w64 (t1.2.2.1+1)),()))) (rec (t1.1,t1.2.1,(w64 (t1.2.2.1+1)),()))) (rec (t1.1,t1.2.1,(w64 (t1.2.2.1+1)),())))))) (K t1)
def F149(b:T144)(c:T88):T149:=λa=>
 ZAD (s149_0 b c) fuel (a.1,(⟨0,0⟩:Place),1,()) λx1=>some ((⟨0,0⟩:Place),false,())
theorem ok149{c d} :N250 c->N88 d->N149 (F149 c d):=λa b=>fk1 p268 r356 q149_0 (s149_0 c d) (oks2 a b) func149
def r145:List SP:=[.one (.r .place),.one (.bool)]
abbrev T145:=List Str×Unit->Option (List Place×Bool×Unit)
abbrev N145(f:T145):=OKP 145 (mkE p254 r145 true f)
def q145_0:List SP:=pat 33 0 [(0,.one (.r .str)),(4,.one (.o 5000001 .place)),(10,.one (.r .str)),(11,.one (.int .i64)),(12,.one (.int .i64))]
def s145_0(b:T149):Lp (List Str×List Place×List Str×Int×Int×Unit) (List Place×Bool×Unit):=λt1 rec K=>
 cond (t1.2.2.2.2.1<t1.2.2.2.1) (rdL t1.2.2.1 t1.2.2.2.2.1 λx1=>(b (x1,())).bind λx2=>cond (!x2.2.1) (some (t1.2.1,false,())) (capK (t1.2.1.length+List.length ([x2.1]:List Place)) (rec (t1.1,(t1.2.1++([x2.1]:List Place)),t1.2.2.1,t1.2.2.2.1,(w64 (t1.2.2.2.2.1+1)),())))) (K t1)
def F145(b:T149):T145:=λa=>
 ZAD (s145_0 b) fuel (a.1,([]:List Place),a.1,(Int.ofNat a.1.length),0,()) λx1=>some (x1.2.1,(decide ((Int.ofNat x1.1.length)>0)),())
theorem ok145{b} :N149 b->N145 (F145 b):=λa=>fk1 p254 r145 q145_0 (s145_0 b) (.cons a .nil) func145
abbrev T77:=Device×Unit->Option (Str×Unit)
abbrev N77(f:T77):=OKP 77 (mkE p270 p268 false f)
def F77(b:T270)(c:T78)(d:T88)(e:T78):T77:=λa=>
 (b (a.1,())).bind λx1=>cond (!x1.1) (some ([],())) (cond (a.1.Kind=1) (capK (List.length [112,117,109,112,32]+List.length a.1.Name) (capK (List.length ([112,117,109,112,32]++a.1.Name)+List.length [32,109,111,115,116,32]) ((c (a.1.Most,())).bind λx2=>capK (List.length (([112,117,109,112,32]++a.1.Name)++[32,109,111,115,116,32])+x2.1.length) (some (((([112,117,109,112,32]++a.1.Name)++[32,109,111,115,116,32])++x2.1),()))))) (cond (a.1.Kind=2) (capK (List.length [110,111,122,122,108,101,32]+List.length a.1.Name) (capK (List.length ([110,111,122,122,108,101,32]++a.1.Name)+List.length [32,111,110,32]) (capK (List.length (([110,111,122,122,108,101,32]++a.1.Name)++[32,111,110,32])+List.length a.1.Line) (capK (List.length ((([110,111,122,122,108,101,32]++a.1.Name)++[32,111,110,32])++a.1.Line)+List.length [32,97,116,32]) ((d (a.1.At,())).bind λx2=>capK (List.length (((([110,111,122,122,108,101,32]++a.1.Name)++[32,111,110,32])++a.1.Line)++[32,97,116,32])+x2.1.length) (capK (List.length ((((([110,111,122,122,108,101,32]++a.1.Name)++[32,111,110,32])++a.1.Line)++[32,97,116,32])++x2.1)+List.length [32,104,101,97,100,105,110,103,32]) ((e (a.1.Heading,())).bind λx3=>capK (List.length (((((([110,111,122,122,108,101,32]++a.1.Name)++[32,111,110,32])++a.1.Line)++[32,97,116,32])++x2.1)++[32,104,101,97,100,105,110,103,32])+x3.1.length) (capK (List.length ((((((([110,111,122,122,108,101,32]++a.1.Name)++[32,111,110,32])++a.1.Line)++[32,97,116,32])++x2.1)++[32,104,101,97,100,105,110,103,32])++x3.1)+List.length [32,116,105,108,116,32]) ((c (a.1.Tilt,())).bind λx4=>capK (List.length (((((((([110,111,122,122,108,101,32]++a.1.Name)++[32,111,110,32])++a.1.Line)++[32,97,116,32])++x2.1)++[32,104,101,97,100,105,110,103,32])++x3.1)++[32,116,105,108,116,32])+x4.1.length) (capK (List.length ((((((((([110,111,122,122,108,101,32]++a.1.Name)++[32,111,110,32])++a.1.Line)++[32,97,116,32])++x2.1)++[32,104,101,97,100,105,110,103,32])++x3.1)++[32,116,105,108,116,32])++x4.1)+List.length [32,109,111,115,116,32]) ((c (a.1.Most,())).bind λx5=>capK (List.length (((((((((([110,111,122,122,108,101,32]++a.1.Name)++[32,111,110,32])++a.1.Line)++[32,97,116,32])++x2.1)++[32,104,101,97,100,105,110,103,32])++x3.1)++[32,116,105,108,116,32])++x4.1)++[32,109,111,115,116,32])+x5.1.length) (some (((((((((((([110,111,122,122,108,101,32]++a.1.Name)++[32,111,110,32])++a.1.Line)++[32,97,116,32])++x2.1)++[32,104,101,97,100,105,110,103,32])++x3.1)++[32,116,105,108,116,32])++x4.1)++[32,109,111,115,116,32])++x5.1),()))))))))))))) (capK (List.length [108,97,109,112,32]+List.length a.1.Name) (capK (List.length ([108,97,109,112,32]++a.1.Name)+List.length [32,111,110,32]) (capK (List.length (([108,97,109,112,32]++a.1.Name)++[32,111,110,32])+List.length a.1.Line) (capK (List.length ((([108,97,109,112,32]++a.1.Name)++[32,111,110,32])++a.1.Line)+List.length [32,97,116,32]) ((d (a.1.At,())).bind λx2=>capK (List.length (((([108,97,109,112,32]++a.1.Name)++[32,111,110,32])++a.1.Line)++[32,97,116,32])+x2.1.length) (some (((((([108,97,109,112,32]++a.1.Name)++[32,111,110,32])++a.1.Line)++[32,97,116,32])++x2.1),())))))))))
theorem ok77{e g h i} :N169 e->N147 g->N88 h->N78 i->N77 (F77 e g h i):=λa b c d=>fk0 (oks4 a b c d) func77
def r243:List SP:=[.t .device,.one (.bool)]
abbrev T243:=Str×Unit->Option (Device×Bool×Unit)
abbrev N243(f:T243):=OKP 243 (mkE p268 r243 false f)
def F243(b:T41)(c:T144)(d:T149)(e:T77)(g:T144):T243:=λa=>
 (b (a.1,[32],())).bind λx1=>capK (x1.1.length+List.length ([[],[],[],[],[],[],[],[],[],[],[]]:List Str)) (rdL (x1.1++([[],[],[],[],[],[],[],[],[],[],[]]:List Str)) 1 λ_=>((x1.1++([[],[],[],[],[],[],[],[],[],[],[]]:List Str))[(Int.toNat 1)]?).bind λx2=>rdL (x1.1++([[],[],[],[],[],[],[],[],[],[],[]]:List Str)) 0 λ_=>((x1.1++([[],[],[],[],[],[],[],[],[],[],[]]:List Str))[(Int.toNat 0)]?).bind λx3=>cond (x3=[112,117,109,112]) (rdL (x1.1++([[],[],[],[],[],[],[],[],[],[],[]]:List Str)) 3 λ_=>((x1.1++([[],[],[],[],[],[],[],[],[],[],[]]:List Str))[(Int.toNat 3)]?).bind λx4=>(c (x4,())).bind λx5=>cond (1>1) (rdL (x1.1++([[],[],[],[],[],[],[],[],[],[],[]]:List Str)) 3 λ_=>((x1.1++([[],[],[],[],[],[],[],[],[],[],[]]:List Str))[(Int.toNat 3)]?).bind λx6=>rdL (x1.1++([[],[],[],[],[],[],[],[],[],[],[]]:List Str)) 5 λ_=>((x1.1++([[],[],[],[],[],[],[],[],[],[],[]]:List Str))[(Int.toNat 5)]?).bind λx7=>(d (x7,())).bind λx8=>cond (!(a.1=[])) ((e ((⟨x2,1,x6,⟨x8.1.X,x8.1.Y⟩,0,0,x5.1⟩:Device),())).bind λx9=>cond (!(x9.1=a.1)) (some ((⟨[],0,[],⟨0,0⟩,0,0,0⟩:Device),false,())) (some ((⟨x2,1,x6,⟨x8.1.X,x8.1.Y⟩,0,0,x5.1⟩:Device),true,()))) (some ((⟨[],0,[],⟨0,0⟩,0,0,0⟩:Device),false,()))) (cond (!(a.1=[])) ((e ((⟨x2,1,[],⟨0,0⟩,0,0,x5.1⟩:Device),())).bind λx6=>cond (!(x6.1=a.1)) (some ((⟨[],0,[],⟨0,0⟩,0,0,0⟩:Device),false,())) (some ((⟨x2,1,[],⟨0,0⟩,0,0,x5.1⟩:Device),true,()))) (some ((⟨[],0,[],⟨0,0⟩,0,0,0⟩:Device),false,())))) (cond (x3=[110,111,122,122,108,101]) (rdL (x1.1++([[],[],[],[],[],[],[],[],[],[],[]]:List Str)) 7 λ_=>((x1.1++([[],[],[],[],[],[],[],[],[],[],[]]:List Str))[(Int.toNat 7)]?).bind λx4=>(g (x4,())).bind λx5=>rdL (x1.1++([[],[],[],[],[],[],[],[],[],[],[]]:List Str)) 9 λ_=>((x1.1++([[],[],[],[],[],[],[],[],[],[],[]]:List Str))[(Int.toNat 9)]?).bind λx6=>(c (x6,())).bind λx7=>rdL (x1.1++([[],[],[],[],[],[],[],[],[],[],[]]:List Str)) 11 λ_=>((x1.1++([[],[],[],[],[],[],[],[],[],[],[]]:List Str))[(Int.toNat 11)]?).bind λx8=>(c (x8,())).bind λx9=>cond (2>1) (rdL (x1.1++([[],[],[],[],[],[],[],[],[],[],[]]:List Str)) 3 λ_=>((x1.1++([[],[],[],[],[],[],[],[],[],[],[]]:List Str))[(Int.toNat 3)]?).bind λx10=>rdL (x1.1++([[],[],[],[],[],[],[],[],[],[],[]]:List Str)) 5 λ_=>((x1.1++([[],[],[],[],[],[],[],[],[],[],[]]:List Str))[(Int.toNat 5)]?).bind λx11=>(d (x11,())).bind λx12=>cond (!(a.1=[])) ((e ((⟨x2,2,x10,⟨x12.1.X,x12.1.Y⟩,x5.1,x7.1,x9.1⟩:Device),())).bind λx13=>cond (!(x13.1=a.1)) (some ((⟨[],0,[],⟨0,0⟩,0,0,0⟩:Device),false,())) (some ((⟨x2,2,x10,⟨x12.1.X,x12.1.Y⟩,x5.1,x7.1,x9.1⟩:Device),true,()))) (some ((⟨[],0,[],⟨0,0⟩,0,0,0⟩:Device),false,()))) (cond (!(a.1=[])) ((e ((⟨x2,2,[],⟨0,0⟩,x5.1,x7.1,x9.1⟩:Device),())).bind λx10=>cond (!(x10.1=a.1)) (some ((⟨[],0,[],⟨0,0⟩,0,0,0⟩:Device),false,())) (some ((⟨x2,2,[],⟨0,0⟩,x5.1,x7.1,x9.1⟩:Device),true,()))) (some ((⟨[],0,[],⟨0,0⟩,0,0,0⟩:Device),false,())))) (cond (x3=[108,97,109,112]) (cond (3>1) (rdL (x1.1++([[],[],[],[],[],[],[],[],[],[],[]]:List Str)) 3 λ_=>((x1.1++([[],[],[],[],[],[],[],[],[],[],[]]:List Str))[(Int.toNat 3)]?).bind λx4=>rdL (x1.1++([[],[],[],[],[],[],[],[],[],[],[]]:List Str)) 5 λ_=>((x1.1++([[],[],[],[],[],[],[],[],[],[],[]]:List Str))[(Int.toNat 5)]?).bind λx5=>(d (x5,())).bind λx6=>cond (!(a.1=[])) ((e ((⟨x2,3,x4,⟨x6.1.X,x6.1.Y⟩,0,0,0⟩:Device),())).bind λx7=>cond (!(x7.1=a.1)) (some ((⟨[],0,[],⟨0,0⟩,0,0,0⟩:Device),false,())) (some ((⟨x2,3,x4,⟨x6.1.X,x6.1.Y⟩,0,0,0⟩:Device),true,()))) (some ((⟨[],0,[],⟨0,0⟩,0,0,0⟩:Device),false,()))) (cond (!(a.1=[])) ((e ((⟨x2,3,[],⟨0,0⟩,0,0,0⟩:Device),())).bind λx4=>cond (!(x4.1=a.1)) (some ((⟨[],0,[],⟨0,0⟩,0,0,0⟩:Device),false,())) (some ((⟨x2,3,[],⟨0,0⟩,0,0,0⟩:Device),true,()))) (some ((⟨[],0,[],⟨0,0⟩,0,0,0⟩:Device),false,())))) (cond (0>1) (rdL (x1.1++([[],[],[],[],[],[],[],[],[],[],[]]:List Str)) 3 λ_=>((x1.1++([[],[],[],[],[],[],[],[],[],[],[]]:List Str))[(Int.toNat 3)]?).bind λx4=>rdL (x1.1++([[],[],[],[],[],[],[],[],[],[],[]]:List Str)) 5 λ_=>((x1.1++([[],[],[],[],[],[],[],[],[],[],[]]:List Str))[(Int.toNat 5)]?).bind λx5=>(d (x5,())).bind λx6=>cond (!(a.1=[])) ((e ((⟨x2,0,x4,⟨x6.1.X,x6.1.Y⟩,0,0,0⟩:Device),())).bind λx7=>cond (!(x7.1=a.1)) (some ((⟨[],0,[],⟨0,0⟩,0,0,0⟩:Device),false,())) (some ((⟨x2,0,x4,⟨x6.1.X,x6.1.Y⟩,0,0,0⟩:Device),true,()))) (some ((⟨[],0,[],⟨0,0⟩,0,0,0⟩:Device),false,()))) (cond (!(a.1=[])) ((e ((⟨x2,0,[],⟨0,0⟩,0,0,0⟩:Device),())).bind λx4=>cond (!(x4.1=a.1)) (some ((⟨[],0,[],⟨0,0⟩,0,0,0⟩:Device),false,())) (some ((⟨x2,0,[],⟨0,0⟩,0,0,0⟩:Device),true,()))) (some ((⟨[],0,[],⟨0,0⟩,0,0,0⟩:Device),false,())))))))
theorem ok243{g h i j k} :N41 g->N250 h->N149 i->N77 j->N144 k->N243 (F243 g h i j k):=λa b c d e=>fk0 (oks5 a b c d e) func243
def r167:List SP:=[.one (.o 0 .device),.one (.bool)]
abbrev T167:=List Device×Device×Unit->Option (List Device×Bool×Unit)
abbrev N167(f:T167):=OKP 167 (mkE p266 r167 false f)
def q167_0:List SP:=pat 70 0 [(3,.boxt 5000001 .device),(6,.one (.o 5000002 .device)),(7,.one (.bool)),(39,.one (.r .device)),(40,.one (.int .i64)),(41,.one (.int .i64))]
def s167_0(b:T230)(c:T270)(d:T265)(e:T266)(g:T228):Lp (Device×List Device×Bool×List Device×Int×Int×Unit) (List Device×Bool×Unit):=λt6 rec K=>
 cond (t6.2.2.2.2.2.1<t6.2.2.2.2.1) (rdL t6.2.2.2.1 t6.2.2.2.2.2.1 λx1=>(λj1:Option (List Device×Bool×Unit)=>cond (!t6.2.2.1) (cond (!(Op.bytesLess x1.Name t6.1.Name || decide (x1.Name=t6.1.Name))) (capK (t6.2.1.length+List.length ([t6.1]:List Device)) (capK (List.length (t6.2.1++([t6.1]:List Device))+List.length ([x1]:List Device)) (rec (t6.1,((t6.2.1++([t6.1]:List Device))++([x1]:List Device)),true,t6.2.2.2.1,t6.2.2.2.2.1,(w64 (t6.2.2.2.2.2.1+1)),())))) j1) j1) (capK (t6.2.1.length+List.length ([x1]:List Device)) (rec (t6.1,(t6.2.1++([x1]:List Device)),t6.2.2.1,t6.2.2.2.1,t6.2.2.2.2.1,(w64 (t6.2.2.2.2.2.1+1)),())))) (K t6)
def F167(b:T230)(c:T270)(d:T265)(e:T266)(g:T228):T167:=λa=>
 (b (a.1,())).bind λx1=>cond (!(!x1.1)) ((c (a.2.1,())).bind λx2=>cond (!(!x2.1)) ((d (a.1,a.2.1.Name,())).bind λx3=>cond (!(x3.1>=0)) (cond (!((Int.ofNat a.1.length)=8)) ((e a).bind λx4=>cond (!x4.1) ((g (a.1,())).bind λx5=>some (x5.1,false,())) (ZAD (s167_0 b c d e g) fuel (a.2.1,([]:List Device),false,a.1,(Int.ofNat a.1.length),0,()) λx5=>cond (!x5.2.2.1) (capK (x5.2.1.length+List.length ([x5.1]:List Device)) (some ((x5.2.1++([x5.1]:List Device)),true,()))) (some (x5.2.1,true,())))) ((g (a.1,())).bind λx4=>some (x4.1,false,()))) ((g (a.1,())).bind λx4=>some (x4.1,false,()))) ((g (a.1,())).bind λx3=>some (x3.1,false,()))) ((g (a.1,())).bind λx2=>some (x2.1,false,()))
theorem ok167{g h i j k} :N230 g->N169 h->N265 i->N266 j->N228 k->N167 (F167 g h i j k):=λa b c d e=>fk1 p266 r167 q167_0 (s167_0 g h i j k) (oks5 a b c d e) func167
abbrev T247:=Bool×Unit->Option (Str×Unit)
abbrev N247(f:T247):=OKP 247 (mkE r268 p268 false f)
def F247:T247:=λa=>
 cond a.1 (some ([111,107],())) (some ([110,111],()))
theorem ok247:N247 (F247):=fk0 .nil func247
abbrev T321:=List Device×Str×Unit->Option (List Str×Unit)
abbrev N321(f:T321):=OKP 321 (mkE p265 r41 false f)
def q321_0:List SP:=pat 34 0 [(0,.one (.r .device)),(1,.one (.str)),(5,.one (.o 5000001 .str)),(9,.one (.r .device)),(10,.one (.int .i64)),(11,.one (.int .i64))]
def s321_0(b:T230):Lp (List Device×Str×List Str×List Device×Int×Int×Unit) (List Str×Unit):=λt1 rec K=>
 cond (t1.2.2.2.2.2.1<t1.2.2.2.2.1) (rdL t1.2.2.2.1 t1.2.2.2.2.2.1 λx1=>(b (t1.1,())).bind λx2=>cond x2.1 (cond (!(t1.2.1=[])) (cond (x1.Line=t1.2.1) (capK (t1.2.2.1.length+List.length ([x1.Name]:List Str)) (rec (t1.1,t1.2.1,(t1.2.2.1++([x1.Name]:List Str)),t1.2.2.2.1,t1.2.2.2.2.1,(w64 (t1.2.2.2.2.2.1+1)),()))) (rec (t1.1,t1.2.1,t1.2.2.1,t1.2.2.2.1,t1.2.2.2.2.1,(w64 (t1.2.2.2.2.2.1+1)),()))) (rec (t1.1,t1.2.1,t1.2.2.1,t1.2.2.2.1,t1.2.2.2.2.1,(w64 (t1.2.2.2.2.2.1+1)),()))) (rec (t1.1,t1.2.1,t1.2.2.1,t1.2.2.2.1,t1.2.2.2.2.1,(w64 (t1.2.2.2.2.2.1+1)),()))) (K t1)
def F321(b:T230):T321:=λa=>
 ZAD (s321_0 b) fuel (a.1,a.2.1,([]:List Str),a.1,(Int.ofNat a.1.length),0,()) λx1=>some (x1.2.2.1,())
theorem ok321{b} :N230 b->N321 (F321 b):=λa=>fk1 p265 r41 q321_0 (s321_0 b) (.cons a .nil) func321
abbrev T244:=List Device×Str×Unit->Option (List Device×Bool×Unit)
abbrev N244(f:T244):=OKP 244 (mkE p265 r167 false f)
def F244(b:T265)(c:T230)(d:T321)(e:T228):T244:=λa=>
 (b a).bind λx1=>(c (a.1,())).bind λx2=>cond (!(!x2.1)) (cond (!(x1.1<0)) ((d a).bind λx3=>cond ((Int.ofNat x3.1.length)>0) ((e (a.1,())).bind λx4=>some (x4.1,false,())) (okIf ((0:Int)<=x1.1/\(x1.1:Int)<=a.1.length) ((e ((List.take (Int.toNat x1.1) a.1),())).bind λx4=>okIf ((0:Int)<=(w64 (x1.1+1))/\((w64 (x1.1+1)):Int)<=a.1.length) (capK (x4.1.length+List.length (List.drop (Int.toNat (w64 (x1.1+1))) a.1)) (some ((x4.1++(List.drop (Int.toNat (w64 (x1.1+1))) a.1)),true,())))))) ((e (a.1,())).bind λx3=>some (x3.1,false,()))) ((e (a.1,())).bind λx3=>some (x3.1,false,()))
theorem ok244{e g h i} :N265 e->N230 g->N321 h->N228 i->N244 (F244 e g h i):=λa b c d=>fk0 (oks4 a b c d) func244
abbrev T80:=Cue×Unit->Option (Str×Unit)
abbrev N80(f:T80):=OKP 80 (mkE p171 p268 false f)
def F80(b:T171)(c:T78)(d:T78):T80:=λa=>
 (b (a.1,())).bind λx1=>cond (!x1.1) (some ([],())) ((c (a.1.Tick,())).bind λx2=>capK (x2.1.length+List.length [32]) (capK (List.length (x2.1++[32])+List.length a.1.Name) (capK (List.length ((x2.1++[32])++a.1.Name)+List.length [32]) ((d (a.1.Level,())).bind λx3=>capK (List.length (((x2.1++[32])++a.1.Name)++[32])+x3.1.length) (cond (a.1.Ramp>0) (capK (List.length ((((x2.1++[32])++a.1.Name)++[32])++x3.1)+List.length [32,105,110,32]) ((c (a.1.Ramp,())).bind λx4=>capK (List.length (((((x2.1++[32])++a.1.Name)++[32])++x3.1)++[32,105,110,32])+x4.1.length) (some (((((((x2.1++[32])++a.1.Name)++[32])++x3.1)++[32,105,110,32])++x4.1),())))) (some (((((x2.1++[32])++a.1.Name)++[32])++x3.1),())))))))
theorem ok80{d e g} :N171 d->N78 e->N147 g->N80 (F80 d e g):=λa b c=>fk0 (oks3 a b c) func80
def r245:List SP:=[.t .cue,.one (.bool)]
abbrev T245:=Str×Unit->Option (Cue×Bool×Unit)
abbrev N245(f:T245):=OKP 245 (mkE p268 r245 false f)
def F245(b:T41)(c:T144)(d:T144)(e:T80):T245:=λa=>
 (b (a.1,[32],())).bind λx1=>capK (x1.1.length+List.length ([[],[],[],[]]:List Str)) (rdL (x1.1++([[],[],[],[]]:List Str)) 1 λ_=>((x1.1++([[],[],[],[]]:List Str))[(Int.toNat 1)]?).bind λx2=>rdL (x1.1++([[],[],[],[]]:List Str)) 0 λ_=>((x1.1++([[],[],[],[]]:List Str))[(Int.toNat 0)]?).bind λx3=>(c (x3,())).bind λx4=>rdL (x1.1++([[],[],[],[]]:List Str)) 2 λ_=>((x1.1++([[],[],[],[]]:List Str))[(Int.toNat 2)]?).bind λx5=>(d (x5,())).bind λx6=>rdL (x1.1++([[],[],[],[]]:List Str)) 4 λ_=>((x1.1++([[],[],[],[]]:List Str))[(Int.toNat 4)]?).bind λx7=>(c (x7,())).bind λx8=>cond (!(a.1=[])) ((e ((⟨x4.1,x2,x6.1,x8.1⟩:Cue),())).bind λx9=>cond (!(x9.1=a.1)) (some ((⟨0,[],0,0⟩:Cue),false,())) (some ((⟨x4.1,x2,x6.1,x8.1⟩:Cue),true,()))) (some ((⟨0,[],0,0⟩:Cue),false,())))
theorem ok245{e g h i} :N41 e->N144 g->N250 h->N80 i->N245 (F245 e g h i):=λa b c d=>fk0 (oks4 a b c d) func245
def p322:List SP:=[.one (.r .cue),.t .cue]
def r322:List SP:=[.one (.o 0 .cue),.one (.bool)]
abbrev T322:=List Cue×Cue×Unit->Option (List Cue×Bool×Unit)
abbrev N322(f:T322):=OKP 322 (mkE p322 r322 false f)
def q322_0:List SP:=pat 50 0 [(0,.one (.r .cue)),(3,.boxt 5000001 .cue),(6,.one (.int .i64))]
def s322_0(b:T307)(c:T229):Lp (List Cue×Cue×Int×Unit) (List Cue×Bool×Unit):=λt1 rec K=>
 cond (t1.2.2.1<(Int.ofNat t1.1.length)) (rdL t1.1 t1.2.2.1 λx1=>(b (x1,t1.2.1,())).bind λx2=>cond (x2.1<0) (rec (t1.1,t1.2.1,(w64 (t1.2.2.1+1)),())) (K t1)) (K t1)
def F322(b:T307)(c:T229):T322:=λa=>
 ZAD (s322_0 b c) fuel (a.1,a.2.1,0,()) λx1=>cond (x1.2.2.1<(Int.ofNat x1.1.length)) (rdL x1.1 x1.2.2.1 λx2=>(b (x2,x1.2.1,())).bind λx3=>cond (x3.1=0) ((c (x1.1,())).bind λx4=>some (x4.1,false,())) (okIf ((0:Int)<=x1.2.2.1/\(x1.2.2.1:Int)<=x1.1.length) ((c ((List.take (Int.toNat x1.2.2.1) x1.1),())).bind λx4=>capK (x4.1.length+List.length ([x1.2.1]:List Cue)) (okIf ((0:Int)<=x1.2.2.1/\(x1.2.2.1:Int)<=x1.1.length) (capK (List.length (x4.1++([x1.2.1]:List Cue))+List.length (List.drop (Int.toNat x1.2.2.1) x1.1)) (some (((x4.1++([x1.2.1]:List Cue))++(List.drop (Int.toNat x1.2.2.1) x1.1)),true,()))))))) (okIf ((0:Int)<=x1.2.2.1/\(x1.2.2.1:Int)<=x1.1.length) ((c ((List.take (Int.toNat x1.2.2.1) x1.1),())).bind λx2=>capK (x2.1.length+List.length ([x1.2.1]:List Cue)) (okIf ((0:Int)<=x1.2.2.1/\(x1.2.2.1:Int)<=x1.1.length) (capK (List.length (x2.1++([x1.2.1]:List Cue))+List.length (List.drop (Int.toNat x1.2.2.1) x1.1)) (some (((x2.1++([x1.2.1]:List Cue))++(List.drop (Int.toNat x1.2.2.1) x1.1)),true,()))))))
theorem ok322{c d} :N307 c->N229 d->N322 (F322 c d):=λa b=>fk1 p322 r322 q322_0 (s322_0 c d) (oks2 a b) func322
abbrev N246(f:T322):=OKP 246 (mkE p322 r322 false f)
def F246(b:T322)(c:T231)(d:T171)(e:T229):T322:=λa=>
 (b a).bind λx1=>(c (a.1,())).bind λx2=>cond (!(!x2.1)) ((d (a.2.1,())).bind λx3=>cond (!(!x3.1)) (cond (!(!x1.2.1)) (cond ((Int.ofNat a.1.length)=12) ((e (a.1,())).bind λx4=>some (x4.1,false,())) (some (x1.1,true,()))) ((e (a.1,())).bind λx4=>some (x4.1,false,()))) ((e (a.1,())).bind λx4=>some (x4.1,false,()))) ((e (a.1,())).bind λx3=>some (x3.1,false,()))
theorem ok246{e g h i} :N322 e->N231 g->N171 h->N229 i->N246 (F246 e g h i):=λa b c d=>fk0 (oks4 a b c d) func246
def p146:List SP:=[.agg [.r .device,.r .cue,.r .gust,.int .i64,.r .place,.int .i64,.int .i64,.int .i64,.int .i64],.one (.str),.one (.str)]
abbrev T146:=DkD×Str×Str×Unit->Option (DkD×Str×Unit)
abbrev N146(f:T146):=OKP 146 (mkE p146 p143 true f)
def F146(b:T243)(c:T167)(d:T247)(e:T244)(g:T245)(h:T322):T146:=λa=>
 cond (a.2.1=[100,101,118,105,99,101]) ((b (a.2.2.1,())).bind λx1=>(c (a.1.1,x1.1,())).bind λx2=>cond x1.2.1 ((d (x2.2.1,())).bind λx3=>some ((x2.1,a.1.2.1,a.1.2.2.1,a.1.2.2.2.1,a.1.2.2.2.2.1,a.1.2.2.2.2.2.1,a.1.2.2.2.2.2.2.1,a.1.2.2.2.2.2.2.2.1,a.1.2.2.2.2.2.2.2.2.1,()),x3.1,())) ((d (false,())).bind λx3=>some ((x2.1,a.1.2.1,a.1.2.2.1,a.1.2.2.2.1,a.1.2.2.2.2.1,a.1.2.2.2.2.2.1,a.1.2.2.2.2.2.2.1,a.1.2.2.2.2.2.2.2.1,a.1.2.2.2.2.2.2.2.2.1,()),x3.1,()))) (cond (a.2.1=[114,101,109,111,118,101]) ((e (a.1.1,a.2.2.1,())).bind λx1=>(d (x1.2.1,())).bind λx2=>some ((x1.1,a.1.2.1,a.1.2.2.1,a.1.2.2.2.1,a.1.2.2.2.2.1,a.1.2.2.2.2.2.1,a.1.2.2.2.2.2.2.1,a.1.2.2.2.2.2.2.2.1,a.1.2.2.2.2.2.2.2.2.1,()),x2.1,())) ((g (a.2.2.1,())).bind λx1=>(h (a.1.2.1,x1.1,())).bind λx2=>cond x1.2.1 ((d (x2.2.1,())).bind λx3=>some ((a.1.1,x2.1,a.1.2.2.1,a.1.2.2.2.1,a.1.2.2.2.2.1,a.1.2.2.2.2.2.1,a.1.2.2.2.2.2.2.1,a.1.2.2.2.2.2.2.2.1,a.1.2.2.2.2.2.2.2.2.1,()),x3.1,())) ((d (false,())).bind λx3=>some ((a.1.1,x2.1,a.1.2.2.1,a.1.2.2.2.1,a.1.2.2.2.2.1,a.1.2.2.2.2.2.1,a.1.2.2.2.2.2.2.1,a.1.2.2.2.2.2.2.2.1,a.1.2.2.2.2.2.2.2.2.1,()),x3.1,()))))
theorem ok146{h i j k l m} :N243 h->N167 i->N247 j->N244 k->N245 l->N246 m->N146 (F146 h i j k l m):=λa b c d e g=>fk0 (oks6 a b c d e g) func146
abbrev N148(f:T249):=OKP 148 (mkE p249 p269 false f)
def F148(b:T231)(c:T249):T249:=λa=>
 (b (a.1,())).bind λx1=>cond (!(!x1.1)) (cond (a.2.2.1<0) (some (0,())) ((c a).bind λx2=>some (x2.1,()))) (some (0,()))
theorem ok148{c d} :N231 c->N249 d->N148 (F148 c d):=λa b=>fk0 (oks2 a b) func148
def r324:List SP:=[.one (.o 0 .place)]
abbrev T324:=List Gust×Int×Int×Unit->Option (List Place×Unit)
abbrev N324(f:T324):=OKP 324 (mkE p350 r324 false f)
def q324_0:List SP:=pat 23 0 [(0,.one (.r .gust)),(2,.one (.int .i64)),(7,.one (.o 5000001 .place)),(8,.one (.int .i64))]
def s324_0(b:T325):Lp (List Gust×Int×List Place×Int×Unit) (List Place×Unit):=λt1 rec K=>
 cond (t1.2.2.2.1<=t1.2.1) ((b (t1.1,t1.2.2.2.1,())).bind λx1=>capK (t1.2.2.1.length+List.length ([x1.1]:List Place)) (rec (t1.1,t1.2.1,(t1.2.2.1++([x1.1]:List Place)),(w64 (t1.2.2.2.1+1)),()))) (K t1)
def F324(b:T325):T324:=λa=>
 ZAD (s324_0 b) fuel (a.1,a.2.2.1,([]:List Place),a.2.1,()) λx1=>some (x1.2.2.1,())
theorem ok324{b} :N325 b->N324 (F324 b):=λa=>fk1 p350 r324 q324_0 (s324_0 b) (.cons a .nil) func324
def r326:List SP:=[.one (.o 0 .gust)]
abbrev T326:=List Place×Unit->Option (List Gust×Unit)
abbrev N326(f:T326):=OKP 326 (mkE p141 r326 false f)
def q326_0:List SP:=pat 28 0 [(3,.one (.o 5000001 .gust)),(4,.boxt 5000002 .place),(9,.one (.r .place)),(10,.one (.int .i64)),(11,.one (.int .i64))]
def s326_0:Lp (List Gust×Place×List Place×Int×Int×Unit) (List Gust×Unit):=λt1 rec K=>
 cond (t1.2.2.2.2.1<t1.2.2.2.1) (rdL t1.2.2.1 t1.2.2.2.2.1 λx1=>cond (!(decide (x1.X=t1.2.1.X) && (decide (x1.Y=t1.2.1.Y) && true))) (capK (t1.1.length+List.length ([(⟨t1.2.2.2.2.1,⟨x1.X,x1.Y⟩⟩:Gust)]:List Gust)) (rec ((t1.1++([(⟨t1.2.2.2.2.1,⟨x1.X,x1.Y⟩⟩:Gust)]:List Gust)),x1,t1.2.2.1,t1.2.2.2.1,(w64 (t1.2.2.2.2.1+1)),()))) (rec (t1.1,t1.2.1,t1.2.2.1,t1.2.2.2.1,(w64 (t1.2.2.2.2.1+1)),()))) (K t1)
def F326:T326:=λa=>
 ZAD (s326_0) fuel (([]:List Gust),(⟨0,0⟩:Place),a.1,(Int.ofNat a.1.length),0,()) λx1=>some (x1.1,())
theorem ok326:N326 (F326):=fk1 p141 r326 q326_0 s326_0 .nil func326
def p251:List SP:=[.one (.r .gust),.one (.r .gust),.one (.int .i64)]
def r251:List SP:=[.one (.o 0 .gust),.one (.bool)]
abbrev T251:=List Gust×List Gust×Int×Unit->Option (List Gust×Bool×Unit)
abbrev N251(f:T251):=OKP 251 (mkE p251 r251 false f)
def q251_0:List SP:=pat 48 0 [(1,.one (.r .gust)),(8,.one (.o 5000001 .place)),(9,.one (.int .i64))]
def s251_0(b:T232)(c:T324)(d:T325)(e:T326):Lp (List Gust×List Place×Int×Unit) (List Gust×Bool×Unit):=λt4 rec K=>
 cond (t4.2.2.1<=64) ((d (t4.1,t4.2.2.1,())).bind λx1=>rdL t4.2.1 t4.2.2.1 λ_=>(t4.2.1[(Int.toNat t4.2.2.1)]?).bind λx2=>rec (t4.1,(List.set t4.2.1 (Int.toNat t4.2.2.1) x1.1),(w64 (t4.2.2.1+1)),())) (K t4)
def F251(b:T232)(c:T324)(d:T325)(e:T326):T251:=λa=>
 (b (a.1,())).bind λx1=>cond (!(!x1.1)) ((b (a.2.1,())).bind λx2=>cond (!(!x2.1)) (cond (!(a.2.2.1<0)) (cond (a.2.2.1>64) (some (([]:List Gust),false,())) ((c (a.1,0,64,())).bind λx3=>ZAD (s251_0 b c d e) fuel (a.2.1,x3.1,a.2.2.1,()) λx4=>(e (x4.2.1,())).bind λx5=>cond ((Int.ofNat x5.1.length)>8) (some (([]:List Gust),false,())) (some (x5.1,true,())))) (some (([]:List Gust),false,()))) (some (([]:List Gust),false,()))) (some (([]:List Gust),false,()))
theorem ok251{e g h i} :N232 e->N324 g->N325 h->N326 i->N251 (F251 e g h i):=λa b c d=>fk1 p251 r251 q251_0 (s251_0 e g h i) (oks4 a b c d) func251
def p150:List SP:=[.agg [.r .device,.r .cue,.r .gust,.int .i64,.r .place,.int .i64,.int .i64,.int .i64,.int .i64],.one (.int .i64),.t .place]
abbrev T150:=DkD×Int×Place×Unit->Option (DkD×Str×Unit)
abbrev N150(f:T150):=OKP 150 (mkE p150 p143 true f)
def F150(b:T251)(c:T247):T150:=λa=>
 (b (a.1.2.2.1,([(⟨0,⟨a.2.2.1.X,a.2.2.1.Y⟩⟩:Gust)]:List Gust),a.2.1,())).bind λx1=>cond x1.2.1 ((c (x1.2.1,())).bind λx2=>some ((a.1.1,a.1.2.1,x1.1,a.1.2.2.2.1,a.1.2.2.2.2.1,a.1.2.2.2.2.2.1,a.1.2.2.2.2.2.2.1,a.1.2.2.2.2.2.2.2.1,a.1.2.2.2.2.2.2.2.2.1,()),x2.1,())) ((c (x1.2.1,())).bind λx2=>some (a.1,x2.1,()))
theorem ok150{c d} :N251 c->N247 d->N150 (F150 c d):=λa b=>fk0 (oks2 a b) func150
abbrev N372(f:T358):=OKP 372 (mkE p358 p269 false f)
def F372(b:T269)(c:T371):T358:=λa=>
 (b (a.1,())).bind λx1=>cond (!x1.1) (some (0,())) ((c (a.2.1,())).bind λx2=>(c ((w64 (a.1+x2.1)),())).bind λx3=>some (x3.1,()))
theorem ok372{c d} :N354 c->N371 d->N372 (F372 c d):=λa b=>fk0 (oks2 a b) func372
def p360:List SP:=[.one (.r .device),.one (.int .i64),.t .place]
abbrev T360:=List Device×Int×Place×Unit->Option (List Device×Bool×Unit)
abbrev N360(f:T360):=OKP 360 (mkE p360 r167 false f)
def q360_0:List SP:=pat 46 0 [(1,.one (.int .i64)),(5,.boxt 5000001 .place),(8,.one (.o 5000002 .device)),(12,.one (.r .device)),(13,.one (.int .i64)),(14,.one (.int .i64))]
def s360_0(b:T355)(c:T317)(d:T358)(e:T270):Lp (Int×Place×List Device×List Device×Int×Int×Unit) (List Device×Bool×Unit):=λt1 rec K=>
 cond (t1.2.2.2.2.2.1<t1.2.2.2.2.1) (rdL t1.2.2.2.1 t1.2.2.2.2.2.1 λx1=>cond (!(x1.Kind=1)) ((b (x1.At,t1.1,())).bind λx2=>(c (x2.1,t1.2.1,())).bind λx3=>cond (x1.Kind=2) ((d (x1.Heading,t1.1,())).bind λx4=>(e ((⟨x1.Name,x1.Kind,x1.Line,⟨x3.1.X,x3.1.Y⟩,x4.1,x1.Tilt,x1.Most⟩:Device),())).bind λx5=>cond (!x5.1) (some (([]:List Device),false,())) (capK (t1.2.2.1.length+List.length ([(⟨x1.Name,x1.Kind,x1.Line,⟨x3.1.X,x3.1.Y⟩,x4.1,x1.Tilt,x1.Most⟩:Device)]:List Device)) (rec (t1.1,t1.2.1,(t1.2.2.1++([(⟨x1.Name,x1.Kind,x1.Line,⟨x3.1.X,x3.1.Y⟩,x4.1,x1.Tilt,x1.Most⟩:Device)]:List Device)),t1.2.2.2.1,t1.2.2.2.2.1,(w64 (t1.2.2.2.2.2.1+1)),())))) ((e ((⟨x1.Name,x1.Kind,x1.Line,⟨x3.1.X,x3.1.Y⟩,x1.Heading,x1.Tilt,x1.Most⟩:Device),())).bind λx4=>cond (!x4.1) (some (([]:List Device),false,())) (capK (t1.2.2.1.length+List.length ([(⟨x1.Name,x1.Kind,x1.Line,⟨x3.1.X,x3.1.Y⟩,x1.Heading,x1.Tilt,x1.Most⟩:Device)]:List Device)) (rec (t1.1,t1.2.1,(t1.2.2.1++([(⟨x1.Name,x1.Kind,x1.Line,⟨x3.1.X,x3.1.Y⟩,x1.Heading,x1.Tilt,x1.Most⟩:Device)]:List Device)),t1.2.2.2.1,t1.2.2.2.2.1,(w64 (t1.2.2.2.2.2.1+1)),()))))) (cond (x1.Kind=2) ((d (x1.Heading,t1.1,())).bind λx2=>(e ((⟨x1.Name,x1.Kind,x1.Line,⟨x1.At.X,x1.At.Y⟩,x2.1,x1.Tilt,x1.Most⟩:Device),())).bind λx3=>cond (!x3.1) (some (([]:List Device),false,())) (capK (t1.2.2.1.length+List.length ([(⟨x1.Name,x1.Kind,x1.Line,⟨x1.At.X,x1.At.Y⟩,x2.1,x1.Tilt,x1.Most⟩:Device)]:List Device)) (rec (t1.1,t1.2.1,(t1.2.2.1++([(⟨x1.Name,x1.Kind,x1.Line,⟨x1.At.X,x1.At.Y⟩,x2.1,x1.Tilt,x1.Most⟩:Device)]:List Device)),t1.2.2.2.1,t1.2.2.2.2.1,(w64 (t1.2.2.2.2.2.1+1)),())))) ((e (x1,())).bind λx2=>cond (!x2.1) (some (([]:List Device),false,())) (capK (t1.2.2.1.length+List.length ([x1]:List Device)) (rec (t1.1,t1.2.1,(t1.2.2.1++([x1]:List Device)),t1.2.2.2.1,t1.2.2.2.2.1,(w64 (t1.2.2.2.2.2.1+1)),())))))) (K t1)
def F360(b:T355)(c:T317)(d:T358)(e:T270):T360:=λa=>
 ZAD (s360_0 b c d e) fuel (a.2.1,a.2.2.1,([]:List Device),a.1,(Int.ofNat a.1.length),0,()) λx1=>some (x1.2.2.1,true,())
theorem ok360{e g h i} :N355 e->N317 g->N372 h->N169 i->N360 (F360 e g h i):=λa b c d=>fk1 p360 r167 q360_0 (s360_0 e g h i) (oks4 a b c d) func360
def p327:List SP:=[.one (.r .device),.one (.int .i64)]
abbrev T327:=List Device×Int×Unit->Option (List Device×Unit)
abbrev N327(f:T327):=OKP 327 (mkE p327 r228 false f)
def F327(b:T230)(c:T360):T327:=λa=>
 (b (a.1,())).bind λx1=>cond (!x1.1) (some (([]:List Device),())) ((c (a.1,a.2.1,(⟨0,0⟩:Place),())).bind λx2=>some (x2.1,()))
theorem ok327{c d} :N230 c->N360 d->N327 (F327 c d):=λa b=>fk0 (oks2 a b) func327
abbrev T328:=List Gust×Int×Unit->Option (List Gust×Unit)
abbrev N328(f:T328):=OKP 328 (mkE p325 r326 false f)
def q328_0:List SP:=pat 29 0 [(0,.one (.r .gust)),(1,.one (.int .i64)),(5,.one (.o 5000001 .gust)),(9,.one (.r .gust)),(10,.one (.int .i64)),(11,.one (.int .i64))]
def s328_0(b:T232)(c:T355):Lp (List Gust×Int×List Gust×List Gust×Int×Int×Unit) (List Gust×Unit):=λt1 rec K=>
 cond (t1.2.2.2.2.2.1<t1.2.2.2.2.1) (rdL t1.2.2.2.1 t1.2.2.2.2.2.1 λx1=>(b (t1.1,())).bind λx2=>cond x2.1 ((c (x1.Drift,t1.2.1,())).bind λx3=>capK (t1.2.2.1.length+List.length ([(⟨x1.From,⟨x3.1.X,x3.1.Y⟩⟩:Gust)]:List Gust)) (rec (t1.1,t1.2.1,(t1.2.2.1++([(⟨x1.From,⟨x3.1.X,x3.1.Y⟩⟩:Gust)]:List Gust)),t1.2.2.2.1,t1.2.2.2.2.1,(w64 (t1.2.2.2.2.2.1+1)),()))) (rec (t1.1,t1.2.1,t1.2.2.1,t1.2.2.2.1,t1.2.2.2.2.1,(w64 (t1.2.2.2.2.2.1+1)),()))) (K t1)
def F328(b:T232)(c:T355):T328:=λa=>
 ZAD (s328_0 b c) fuel (a.1,a.2.1,([]:List Gust),a.1,(Int.ofNat a.1.length),0,()) λx1=>some (x1.2.2.1,())
theorem ok328{c d} :N232 c->N355 d->N328 (F328 c d):=λa b=>fk1 p325 r326 q328_0 (s328_0 c d) (oks2 a b) func328
abbrev T252:=ShD×Int×Unit->Option (ShD×Unit)
abbrev N252(f:T252):=OKP 252 (mkE p329 r139 false f)
def F252(b:T140)(c:T327)(d:T229)(e:T328):T252:=λa=>
 (b (a.1,())).bind λx1=>cond (!x1.1) (some (([],[],[],0,()),())) ((c (a.1.1,a.2.1,())).bind λx2=>(d (a.1.2.1,())).bind λx3=>(e (a.1.2.2.1,a.2.1,())).bind λx4=>some ((x2.1,x3.1,x4.1,a.1.2.2.2.1,()),()))
theorem ok252{e g h i} :N140 e->N327 g->N229 h->N328 i->N252 (F252 e g h i):=λa b c d=>fk0 (oks4 a b c d) func252
abbrev N253(f:T329):=OKP 253 (mkE p329 r375 false f)
def F253(b:T140)(c:T329):T329:=λa=>
 (b (a.1,())).bind λx1=>cond (!x1.1) (some (([]:List Int),())) ((c a).bind λx2=>some (x2.1,()))
theorem ok253{c d} :N140 c->N329 d->N253 (F253 c d):=λa b=>fk0 (oks2 a b) func253
abbrev T255:=ShD×Int×Unit->Option (List Drop×Unit)
abbrev N255(f:T255):=OKP 255 (mkE p329 r238 false f)
def q255_0:List SP:=pat 43 0 [(1,.one (.int .i64)),(2,.box 5000001 [.r .device,.r .cue,.r .gust,.int .i64]),(5,.one (.o 5000002 .drop)),(14,.one (.o 5000003 .throw)),(15,.one (.int .i64)),(16,.one (.int .i64))]
def s255_0(b:T140)(c:T309)(d:T311)(e:T310):Lp (Int×ShD×List Drop×List Throw×Int×Int×Unit) (List Drop×Unit):=λt3 rec K=>
 cond (t3.2.2.2.2.2.1<t3.2.2.2.2.1) (rdL t3.2.2.2.1 t3.2.2.2.2.2.1 λ_=>(t3.2.2.2.1[(Int.toNat t3.2.2.2.2.2.1)]?).bind λx1=>cond (t3.1>=x1.born) ((d (x1.jet,())).bind λx2=>cond (t3.1<(w64 (x1.born+x2.1))) ((e (t3.2.1,x1,t3.1,())).bind λx3=>capK (t3.2.2.1.length+List.length ([x3.1]:List Drop)) (rec (t3.1,t3.2.1,(t3.2.2.1++([x3.1]:List Drop)),t3.2.2.2.1,t3.2.2.2.2.1,(w64 (t3.2.2.2.2.2.1+1)),()))) (rec (t3.1,t3.2.1,t3.2.2.1,t3.2.2.2.1,t3.2.2.2.2.1,(w64 (t3.2.2.2.2.2.1+1)),()))) (rec (t3.1,t3.2.1,t3.2.2.1,t3.2.2.2.1,t3.2.2.2.2.1,(w64 (t3.2.2.2.2.2.1+1)),()))) (K t3)
def F255(b:T140)(c:T309)(d:T311)(e:T310):T255:=λa=>
 (b (a.1,())).bind λx1=>cond (!x1.1) (some (([]:List Drop),())) ((c (a.1,())).bind λx2=>ZAD (s255_0 b c d e) fuel (a.2.1,a.1,([]:List Drop),x2.1,(Int.ofNat x2.1.length),0,()) λx3=>some (x3.2.2.1,()))
theorem ok255{e g h i} :N140 e->N309 g->N311 h->N310 i->N255 (F255 e g h i):=λa b c d=>fk1 p329 r238 q255_0 (s255_0 e g h i) (oks4 a b c d) func255
abbrev T256:=ShD×Int×Unit->Option (Int×Unit)
abbrev N256(f:T256):=OKP 256 (mkE p329 p269 false f)
def q256_0:List SP:=pat 27 0 [(1,.one (.int .i64)),(5,.one (.int .i64)),(13,.one (.o 5000001 .throw)),(14,.one (.int .i64)),(15,.one (.int .i64))]
def s256_0(b:T140)(c:T309):Lp (Int×Int×List Throw×Int×Int×Unit) (Int×Unit):=λt3 rec K=>
 cond (t3.2.2.2.2.1<t3.2.2.2.1) (rdL t3.2.2.1 t3.2.2.2.2.1 λ_=>(t3.2.2.1[(Int.toNat t3.2.2.2.2.1)]?).bind λx1=>cond (x1.born<=t3.1) (rec (t3.1,(w64 (t3.2.1+1)),t3.2.2.1,t3.2.2.2.1,(w64 (t3.2.2.2.2.1+1)),())) (rec (t3.1,t3.2.1,t3.2.2.1,t3.2.2.2.1,(w64 (t3.2.2.2.2.1+1)),()))) (K t3)
def F256(b:T140)(c:T309):T256:=λa=>
 (b (a.1,())).bind λx1=>cond (!x1.1) (some (0,())) ((c (a.1,())).bind λx2=>ZAD (s256_0 b c) fuel (a.2.1,0,x2.1,(Int.ofNat x2.1.length),0,()) λx3=>some (x3.2.1,()))
theorem ok256{c d} :N140 c->N309 d->N256 (F256 c d):=λa b=>fk1 p329 p269 q256_0 (s256_0 c d) (oks2 a b) func256
abbrev N257(f:T256):=OKP 257 (mkE p329 p269 false f)
def q257_0:List SP:=pat 31 0 [(1,.one (.int .i64)),(5,.one (.int .i64)),(13,.one (.o 5000001 .throw)),(14,.one (.int .i64)),(15,.one (.int .i64))]
def s257_0(b:T140)(c:T309)(d:T311):Lp (Int×Int×List Throw×Int×Int×Unit) (Int×Unit):=λt3 rec K=>
 cond (t3.2.2.2.2.1<t3.2.2.2.1) (rdL t3.2.2.1 t3.2.2.2.2.1 λ_=>(t3.2.2.1[(Int.toNat t3.2.2.2.2.1)]?).bind λx1=>(d (x1.jet,())).bind λx2=>cond ((w64 (x1.born+x2.1))<=t3.1) (rec (t3.1,(w64 (t3.2.1+1)),t3.2.2.1,t3.2.2.2.1,(w64 (t3.2.2.2.2.1+1)),())) (rec (t3.1,t3.2.1,t3.2.2.1,t3.2.2.2.1,(w64 (t3.2.2.2.2.1+1)),()))) (K t3)
def F257(b:T140)(c:T309)(d:T311):T256:=λa=>
 (b (a.1,())).bind λx1=>cond (!x1.1) (some (0,())) ((c (a.1,())).bind λx2=>ZAD (s257_0 b c d) fuel (a.2.1,0,x2.1,(Int.ofNat x2.1.length),0,()) λx3=>some (x3.2.1,()))
theorem ok257{d e g} :N140 d->N309 e->N311 g->N257 (F257 d e g):=λa b c=>fk1 p329 p269 q257_0 (s257_0 d e g) (oks3 a b c) func257
def p151:List SP:=[.agg [.r .device,.r .cue,.r .gust,.int .i64,.r .place,.int .i64,.int .i64,.int .i64,.int .i64],.one (.str),.one (.int .i64)]
abbrev T151:=DkD×Str×Int×Unit->Option (DkD×Str×Unit)
abbrev N151(f:T151):=OKP 151 (mkE p151 p143 true f)
def q151_1:List SP:=pat 88 0 [(3,.box 5001001 [.r .device,.r .cue,.r .gust,.int .i64,.r .place,.int .i64,.int .i64,.int .i64,.int .i64]),(6,.box 5001002 [.o 5001003 .device,.o 5001004 .cue,.o 5001005 .gust,.int .i64,.o 5001006 .place,.int .i64,.int .i64,.int .i64,.int .i64]),(8,.one (.o 5001007 .str)),(37,.one (.o 5001008 .int)),(38,.one (.int .i64)),(39,.one (.int .i64))]
def s151_1(b:T247)(c:T252)(d:T329)(e:T78)(g:T254)(h:T255)(i:T237)(j:T256)(k:T78)(l:T256):Lp (DkD×DkD×List Str×List Int×Int×Int×Unit) (DkD×Str×Unit):=λt5 rec K=>
 cond (t5.2.2.2.2.2.1<t5.2.2.2.2.1) (rdL t5.2.2.2.1 t5.2.2.2.2.2.1 λ_=>(t5.2.2.2.1[(Int.toNat t5.2.2.2.2.2.1)]?).bind λx1=>cond (x1>0) (rdL t5.1.1 t5.2.2.2.2.2.1 λx2=>capK (List.length x2.Name+List.length [32]) ((e (x1,())).bind λx3=>capK (List.length (x2.Name++[32])+x3.1.length) (capK (t5.2.2.1.length+List.length ([((x2.Name++[32])++x3.1)]:List Str)) (rec (t5.1,t5.2.1,(t5.2.2.1++([((x2.Name++[32])++x3.1)]:List Str)),t5.2.2.2.1,t5.2.2.2.2.1,(w64 (t5.2.2.2.2.2.1+1)),()))))) (rec (t5.1,t5.2.1,t5.2.2.1,t5.2.2.2.1,t5.2.2.2.2.1,(w64 (t5.2.2.2.2.2.1+1)),()))) (K t5)
def F151(b:T247)(c:T252)(d:T329)(e:T78)(g:T254)(h:T255)(i:T237)(j:T256)(k:T78)(l:T256):T151:=λa=>
 cond (a.2.1=[116,105,99,107,115]) (cond (a.2.2.1<=64) ((b ((decide (a.2.2.1<=64)),())).bind λx1=>some ((a.1.1,a.1.2.1,a.1.2.2.1,a.2.2.1,a.1.2.2.2.2.1,a.1.2.2.2.2.2.1,a.1.2.2.2.2.2.2.1,a.1.2.2.2.2.2.2.2.1,a.1.2.2.2.2.2.2.2.2.1,()),x1.1,())) ((b ((decide (a.2.2.1<=64)),())).bind λx1=>some (a.1,x1.1,()))) (cond (a.2.1=[116,117,114,110]) ((c ((a.1.1,a.1.2.1,a.1.2.2.1,a.1.2.2.2.1,()),a.2.2.1,())).bind λx1=>some ((x1.1.1,x1.1.2.1,x1.1.2.2.1,x1.1.2.2.2.1,a.1.2.2.2.2.1,a.1.2.2.2.2.2.1,a.1.2.2.2.2.2.2.1,a.1.2.2.2.2.2.2.2.1,a.1.2.2.2.2.2.2.2.2.1,()),[111,107],())) (cond (a.2.1=[108,105,102,116,115]) ((d ((a.1.1,a.1.2.1,a.1.2.2.1,a.1.2.2.2.1,()),a.2.2.1,())).bind λx1=>ZAD (s151_1 b c d e g h i j k l) fuel (a.1,([],[],[],0,[],0,0,0,0,()),([]:List Str),x1.1,(Int.ofNat x1.1.length),0,()) λx2=>(g (x2.2.2.1,())).bind λx3=>some (x2.1,x3.1,())) (cond (a.2.1=[100,114,111,112,115]) ((h ((a.1.1,a.1.2.1,a.1.2.2.1,a.1.2.2.2.1,()),a.2.2.1,())).bind λx1=>(i (x1.1,true,())).bind λx2=>some (a.1,x2.1,())) (cond (a.2.1=[99,111,117,110,116]) ((j ((a.1.1,a.1.2.1,a.1.2.2.1,a.1.2.2.2.1,()),a.2.2.1,())).bind λx1=>(k (x1.1,())).bind λx2=>capK (x2.1.length+List.length [32]) ((l ((a.1.1,a.1.2.1,a.1.2.2.1,a.1.2.2.2.1,()),a.2.2.1,())).bind λx3=>(k (x3.1,())).bind λx4=>capK (List.length (x2.1++[32])+x4.1.length) (some (a.1,((x2.1++[32])++x4.1),())))) (some (a.1,[119,104,97,116],()))))))
theorem ok151{h m o p q r s u v w} :N247 h->N252 m->N253 o->N147 p->N254 q->N255 r->N237 s->N256 u->N78 v->N257 w->N151 (F151 h m o p q r s u v w):=λa b c d e g i j k l=>fka (ann:=λn=>Nat.beq n 3100106 || Nat.beq n 3199999) (ps:=p151) (rs:=p143) (L:=lenv [(1,ZA2 q151_1 (s151_1 h m o p q r s u v w))]) (ls:=[(1,ZBB f151 0)]) (ZPH a b c d e g i j k l) func151 (.cons q151_1 (s151_1 h m o p q r s u v w) rfl (λ_ _ _ _=>by kernel_rfl) .nil)
def p330:List SP:=[.one (.r .device),.t .place]
abbrev T330:=List Device×Place×Unit->Option (List Device×Bool×Unit)
abbrev N330(f:T330):=OKP 330 (mkE p330 r167 false f)
def F330(b:T230)(c:T181)(d:T360):T330:=λa=>
 (b (a.1,())).bind λx1=>cond (!(!x1.1)) ((c (a.2.1,())).bind λx2=>cond (!x2.1) (some (([]:List Device),false,())) ((d (a.1,0,a.2.1,())).bind λx3=>some x3)) (some (([]:List Device),false,()))
theorem ok330{d e g} :N230 d->N181 e->N360 g->N330 (F330 d e g):=λa b c=>fk0 (oks3 a b c) func330
def p258:List SP:=[.agg [.r .device,.r .cue,.r .gust,.int .i64],.t .place]
abbrev T258:=ShD×Place×Unit->Option (ShD×Bool×Unit)
abbrev N258(f:T258):=OKP 258 (mkE p258 r236 false f)
def F258(b:T330)(c:T140)(d:T139):T258:=λa=>
 (b (a.1.1,a.2.1,())).bind λx1=>(c (a.1,())).bind λx2=>cond (!(!x2.1)) (cond (!x1.2.1) (some (([],[],[],0,()),false,())) ((d (a.1,())).bind λx3=>some ((x1.1,x3.1.2.1,x3.1.2.2.1,x3.1.2.2.2.1,()),true,()))) (some (([],[],[],0,()),false,()))
theorem ok258{d e g} :N330 d->N140 e->N139 g->N258 (F258 d e g):=λa b c=>fk0 (oks3 a b c) func258
def p152:List SP:=[.agg [.r .device,.r .cue,.r .gust,.int .i64,.r .place,.int .i64,.int .i64,.int .i64,.int .i64],.one (.str),.one (.r .place)]
abbrev T152:=DkD×Str×List Place×Unit->Option (DkD×Str×Unit)
abbrev N152(f:T152):=OKP 152 (mkE p152 p143 true f)
def F152(b:T141)(c:T247)(d:T142)(e:T258):T152:=λa=>
 cond (a.2.1=[114,111,115,101]) ((b (a.2.2.1,())).bind λx1=>cond x1.1 ((b (a.2.2.1,())).bind λx2=>(c (x2.1,())).bind λx3=>some ((a.1.1,a.1.2.1,a.1.2.2.1,a.1.2.2.2.1,a.2.2.1,a.1.2.2.2.2.2.1,a.1.2.2.2.2.2.2.1,a.1.2.2.2.2.2.2.2.1,a.1.2.2.2.2.2.2.2.2.1,()),x3.1,())) ((b (a.2.2.1,())).bind λx2=>(c (x2.1,())).bind λx3=>some (a.1,x3.1,()))) ((λj1:Option (DkD×Str×Unit)=>cond (a.2.1=[98,97,115,105,110]) (cond ((Int.ofNat a.2.2.1.length)=2) (rdL a.2.2.1 0 λx1=>rdL a.2.2.1 1 λx2=>(d ((⟨⟨x1.X,x1.Y⟩,⟨x2.X,x2.Y⟩⟩:Box),())).bind λx3=>cond x3.1 ((d ((⟨⟨x1.X,x1.Y⟩,⟨x2.X,x2.Y⟩⟩:Box),())).bind λx4=>(c (x4.1,())).bind λx5=>some ((a.1.1,a.1.2.1,a.1.2.2.1,a.1.2.2.2.1,a.1.2.2.2.2.1,x1.X,x1.Y,x2.X,x2.Y,()),x5.1,())) ((d ((⟨⟨x1.X,x1.Y⟩,⟨x2.X,x2.Y⟩⟩:Box),())).bind λx4=>(c (x4.1,())).bind λx5=>some (a.1,x5.1,()))) j1) j1) (cond (a.2.1=[115,104,105,102,116]) (cond ((Int.ofNat a.2.2.1.length)=1) (rdL a.2.2.1 0 λx1=>(e ((a.1.1,a.1.2.1,a.1.2.2.1,a.1.2.2.2.1,()),x1,())).bind λx2=>cond x2.2.1 ((c (x2.2.1,())).bind λx3=>some ((x2.1.1,x2.1.2.1,x2.1.2.2.1,x2.1.2.2.2.1,a.1.2.2.2.2.1,a.1.2.2.2.2.2.1,a.1.2.2.2.2.2.2.1,a.1.2.2.2.2.2.2.2.1,a.1.2.2.2.2.2.2.2.2.1,()),x3.1,())) ((c (x2.2.1,())).bind λx3=>some (a.1,x3.1,()))) (some (a.1,[119,104,97,116],()))) (some (a.1,[119,104,97,116],()))))
theorem ok152{e g h i} :N141 e->N247 g->N142 h->N258 i->N152 (F152 e g h i):=λa b c d=>fka0 (ann:=λn=>Nat.beq n 900009 || Nat.beq n 2199999) (oks4 a b c d) func152
abbrev N65(f:T143):=OKP 65 (mkE p143 p143 true f)
def F65(b:T41)(c:T143)(d:T144)(e:T145)(g:T146)(h:T249)(i:T78)(j:T149)(k:T150)(l:T151)(m:T152):T143:=λa=>
 (b (a.2.1,[32],())).bind λx1=>cond ((Int.ofNat x1.1.length)=1) ((c a).bind λx2=>some x2) (rdL x1.1 0 λ_=>(x1.1[(Int.toNat 0)]?).bind λx2=>okIf ((0:Int)<=(w64 ((Int.ofNat x2.length)+1))/\((w64 ((Int.ofNat x2.length)+1)):Int)<=a.2.1.length) (rdL x1.1 (w64 ((Int.ofNat x1.1.length) -1)) λ_=>(x1.1[(Int.toNat (w64 ((Int.ofNat x1.1.length) -1)))]?).bind λx3=>(d (x3,())).bind λx4=>rdL x1.1 1 λ_=>(x1.1[(Int.toNat 1)]?).bind λx5=>(d (x5,())).bind λx6=>okIf ((0:Int)<=1/\(1:Int)<=x1.1.length) ((e ((List.drop (Int.toNat 1) (List.take x1.1.length x1.1)),())).bind λx7=>rdL x1.1 0 λx8=>cond (x8=[100,101,118,105,99,101]) (cond (x8=[100,101,118,105,99,101]) (rdL x1.1 0 λx9=>(g (a.1,x9,(List.drop (Int.toNat (w64 ((Int.ofNat x2.length)+1))) a.2.1),())).bind λx10=>both (some x10) (some x10)) (rdL x1.1 0 λx9=>(λj5:Option (DkD×Str×Unit)=>(λj2:Option (DkD×Str×Unit)=>(λj8:Option (DkD×Str×Unit)=>cond (x9=[108,101,118,101,108]) (cond ((Int.ofNat x1.1.length)=3) (cond x4.2.1 (rdL x1.1 1 λx10=>(h (a.1.2.1,x10,x4.1,())).bind λx11=>(i (x11.1,())).bind λx12=>some (a.1,x12.1,())) j8) j8) j8) (rdL x1.1 0 λx10=>cond (x10=[103,117,115,116]) j2 (cond ((Int.ofNat x1.1.length)=2) j5 (cond x7.2.1 (rdL x1.1 0 λx11=>(m (a.1,x11,x7.1,())).bind λx12=>both (some x12) (some x12)) (some (a.1,[119,104,97,116],())))))) (cond ((Int.ofNat x1.1.length)=3) (cond x6.2.1 (rdL x1.1 2 λx11=>(j (x11,())).bind λx12=>cond (!x12.2.1) (some (a.1,[119,104,97,116],())) ((k (a.1,x6.1,x12.1,())).bind λx13=>some x13)) (cond ((Int.ofNat x1.1.length)=2) j5 (cond x7.2.1 (rdL x1.1 0 λx11=>(m (a.1,x11,x7.1,())).bind λx12=>both (some x12) (some x12)) (some (a.1,[119,104,97,116],()))))) (cond ((Int.ofNat x1.1.length)=2) j5 (cond x7.2.1 (rdL x1.1 0 λx11=>(m (a.1,x11,x7.1,())).bind λx12=>both (some x12) (some x12)) (some (a.1,[119,104,97,116],())))))) (cond x6.2.1 (rdL x1.1 0 λx11=>(l (a.1,x11,x6.1,())).bind λx12=>both (some x12) (some x12)) (cond x7.2.1 (rdL x1.1 0 λx11=>(m (a.1,x11,x7.1,())).bind λx12=>both (some x12) (some x12)) (some (a.1,[119,104,97,116],())))))) (rdL x1.1 0 λx9=>cond (x9=[99,117,101]) (cond (x9=[99,117,101]) (rdL x1.1 0 λx10=>(g (a.1,x10,(List.drop (Int.toNat (w64 ((Int.ofNat x2.length)+1))) a.2.1),())).bind λx11=>both (some x11) (some x11)) (rdL x1.1 0 λx10=>(λj6:Option (DkD×Str×Unit)=>(λj3:Option (DkD×Str×Unit)=>(λj9:Option (DkD×Str×Unit)=>cond (x10=[108,101,118,101,108]) (cond ((Int.ofNat x1.1.length)=3) (cond x4.2.1 (rdL x1.1 1 λx11=>(h (a.1.2.1,x11,x4.1,())).bind λx12=>(i (x12.1,())).bind λx13=>some (a.1,x13.1,())) j9) j9) j9) (rdL x1.1 0 λx11=>cond (x11=[103,117,115,116]) j3 (cond ((Int.ofNat x1.1.length)=2) j6 (cond x7.2.1 (rdL x1.1 0 λx12=>(m (a.1,x12,x7.1,())).bind λx13=>both (some x13) (some x13)) (some (a.1,[119,104,97,116],())))))) (cond ((Int.ofNat x1.1.length)=3) (cond x6.2.1 (rdL x1.1 2 λx12=>(j (x12,())).bind λx13=>cond (!x13.2.1) (some (a.1,[119,104,97,116],())) ((k (a.1,x6.1,x13.1,())).bind λx14=>some x14)) (cond ((Int.ofNat x1.1.length)=2) j6 (cond x7.2.1 (rdL x1.1 0 λx12=>(m (a.1,x12,x7.1,())).bind λx13=>both (some x13) (some x13)) (some (a.1,[119,104,97,116],()))))) (cond ((Int.ofNat x1.1.length)=2) j6 (cond x7.2.1 (rdL x1.1 0 λx12=>(m (a.1,x12,x7.1,())).bind λx13=>both (some x13) (some x13)) (some (a.1,[119,104,97,116],())))))) (cond x6.2.1 (rdL x1.1 0 λx12=>(l (a.1,x12,x6.1,())).bind λx13=>both (some x13) (some x13)) (cond x7.2.1 (rdL x1.1 0 λx12=>(m (a.1,x12,x7.1,())).bind λx13=>both (some x13) (some x13)) (some (a.1,[119,104,97,116],())))))) (rdL x1.1 0 λx10=>(λj7:Option (DkD×Str×Unit)=>(λj1:Option (DkD×Str×Unit)=>(λj4:Option (DkD×Str×Unit)=>cond (x10=[114,101,109,111,118,101]) (cond ((Int.ofNat x1.1.length)=2) (rdL x1.1 0 λx11=>(g (a.1,x11,(List.drop (Int.toNat (w64 ((Int.ofNat x2.length)+1))) a.2.1),())).bind λx12=>both (some x12) (some x12)) j4) j4) (rdL x1.1 0 λx11=>(λj10:Option (DkD×Str×Unit)=>cond (x11=[108,101,118,101,108]) (cond ((Int.ofNat x1.1.length)=3) (cond x4.2.1 (rdL x1.1 1 λx12=>(h (a.1.2.1,x12,x4.1,())).bind λx13=>(i (x13.1,())).bind λx14=>some (a.1,x14.1,())) j10) j10) j10) (rdL x1.1 0 λx12=>cond (x12=[103,117,115,116]) j1 (cond ((Int.ofNat x1.1.length)=2) j7 (cond x7.2.1 (rdL x1.1 0 λx13=>(m (a.1,x13,x7.1,())).bind λx14=>both (some x14) (some x14)) (some (a.1,[119,104,97,116],()))))))) (cond ((Int.ofNat x1.1.length)=3) (cond x6.2.1 (rdL x1.1 2 λx13=>(j (x13,())).bind λx14=>cond (!x14.2.1) (some (a.1,[119,104,97,116],())) ((k (a.1,x6.1,x14.1,())).bind λx15=>some x15)) (cond ((Int.ofNat x1.1.length)=2) j7 (cond x7.2.1 (rdL x1.1 0 λx13=>(m (a.1,x13,x7.1,())).bind λx14=>both (some x14) (some x14)) (some (a.1,[119,104,97,116],()))))) (cond ((Int.ofNat x1.1.length)=2) j7 (cond x7.2.1 (rdL x1.1 0 λx13=>(m (a.1,x13,x7.1,())).bind λx14=>both (some x14) (some x14)) (some (a.1,[119,104,97,116],())))))) (cond x6.2.1 (rdL x1.1 0 λx13=>(l (a.1,x13,x6.1,())).bind λx14=>both (some x14) (some x14)) (cond x7.2.1 (rdL x1.1 0 λx13=>(m (a.1,x13,x7.1,())).bind λx14=>both (some x14) (some x14)) (some (a.1,[119,104,97,116],())))))))))
theorem ok65{h o p q r s u v w y z} :N41 h->N143 o->N144 p->N145 q->N146 r->N148 s->N147 u->N149 v->N150 w->N151 y->N152 z->N65 (F65 h o p q r s u v w y z):=λa b c d e g i j k l m=>fka0 (ann:=λn=>Nat.beq n 2199998 || Nat.beq n 3099998 || Nat.beq n 3299998) (ZUt a b c d e g i j k l m) func65
def p28:List SP:=[.agg [.r .device,.r .cue,.r .gust,.int .i64,.r .place,.int .i64,.int .i64,.int .i64,.int .i64],.one (.str)]
def r28:List SP:=[.agg [.o 0 .device,.o 1 .cue,.o 2 .gust,.int .i64,.o 3 .place,.int .i64,.int .i64,.int .i64,.int .i64],.one (.str)]
abbrev T28:=DkD×Str×Unit->Option (DkD×Str×Unit)
abbrev N28(f:T28):=OKP 28 (mkE p28 r28 false f)
def F28(b:T63)(c:T64)(d:T143):T28:=λa=>
 (b (a.1,())).bind λx1=>(c (a.1,())).bind λx2=>cond (!(!x2.1)) (cond (!(a.2.1=[])) (rdL a.2.1 0 λx3=>cond ((Int.ofNat (UInt8.toNat x3))=35) (some (x1.1,[],())) ((d (x1.1,a.2.1,())).bind λx4=>cond (x4.2.1=[110,111]) (cond (!(a.2.1=[100,114,121])) ((b (a.1,())).bind λx5=>some (x5.1,x4.2.1,())) ((b (x4.1,())).bind λx5=>some (x5.1,x4.2.1,()))) ((b (x4.1,())).bind λx5=>some (x5.1,x4.2.1,())))) (some (x1.1,[],()))) (some (x1.1,[],()))
theorem ok28{d e g} :N63 d->N64 e->N65 g->N28 (F28 d e g):=λa b c=>fk0 (oks3 a b c) func28
end Ev
end
