/- Laid together by program (what the claim does not reach is left out): Rec, Shelf, Lib. -/
import Derived.Test.YtoafhcjocdjkjaaGreatDoorZC04
import Derived.Lib.ItoaNum
import Derived.Shelf.Strings.Builder1
import Derived.Shelf.Strings.Builder2
import Derived.Shelf.Strings.OnBuilder
import Derived.Shelf.Strings.Trim
import Derived.Shelf.Small.Utf8
import Derived.Shelf.Small.Strs
import Derived.Shelf.Strconv.Itoa0
import Derived.Shelf.Strconv.Itoa1
import Derived.Shelf.LaysM
import Derived.Shelf.Strconv.Itoa2
import Derived.Shelf.Strconv.Itoa3
import Derived.Shelf.Strings.Search1
import Derived.Shelf.Strings.Search2
import Derived.Shelf.Strings.Search3
import Derived.Shelf.Strings.Cut
import Derived.Shelf.Strings.Count
import Derived.Shelf.Strings.Shaped
import Derived.Shelf.Strings.Split
import Derived.Shelf.Strings.Runes
import Derived.Shelf.Strings.IndexAny
import Derived.Shelf.Strings.AsciiSet
import Derived.Shelf.Unicode.DecodeSlow
import Derived.Shelf.Unicode.DecodeAny
import Derived.Shelf.Unicode.DecodeLast
import Derived.Test.YtoafhcjocdjkjaaGreatDoorProg
import Derived.Lib.SplitLaws
import Derived.Below
import Derived.Lib.IndexMore
import Derived.Lib.TrimByte
import Derived.Lib.Join
set_option linter.all false
set_option maxRecDepth 100000
open Go.Proofs.Tryz
noncomputable section
namespace Ev
open Go
def ZUw{P:Program}{f:Nat}{ps rs:List SP}{sh:Bool}{G G':ZAL ps->Option (ZAL (muts ps++rs))}(h:OK P f (mkE ps rs sh G'))(hg: ∀a x,G a=some x->G' a=some x):OK P f (mkE ps rs sh G):=by
 refine⟨λR av bs K r hs=>h.ent R av bs K r ?_,h.fn⟩
 simp only[mkE,al_bind_iff]at hs⊢
 obtain⟨a,h1,x,h2,h3⟩:=hs
 exact⟨a,h1,x,hg a x h2,h3⟩
def ZUx{P:Program}{f:Nat}{fn:Func}{ps rs:List SP}{sh:Bool}{G:ZAL ps->Option (ZAL (muts ps++rs))}(hf:P.funcs[f]?=some fn)(hb:fn.body.isNone=false)(hn:fn.name≠ "runtime.NumGoroutine")(hg: ∀a,G a=none):OK P f (mkE ps rs sh G):=by
 refine⟨λR av bs K r hs=> ?_,fn,hf,hb,hn⟩
 simp only[mkE,al_bind_iff]at hs
 obtain⟨a,_,x,h2,_⟩:=hs
 rw[hg a]at h2;cases h2
def ZIp(n:Int):Nat:=2*n.natAbs+if n<0 then 1 else 0
def ZDO(d:Nat)(a:Int×Unit):Option (Str×Unit):=if(-4611686018427387904<a.1/\a.1<4611686018427387904)/\ZIp a.1<d then some (Go.Lib.itoa a.1,())else none
def ZUy(k:Nat): ∀u:Nat,u<10^(k+1)->(Go.Lib.decDigits u).length<=k+1:=by
 induction k with
 | zero=>intro u hu;rw[Go.Lib.decDigits_one (by simpa using hu)];simp
 | succ k ih=>
  intro u hu
  rw[Go.Lib.decDigits]
  split
  ·simp
  ·have:=ih (u/10) (by rw[Nat.div_lt_iff_lt_mul (by omega)];rw[Nat.pow_succ]at hu;exact hu)
   simp only[al_len_append,al_len_cons,al_len_nil];omega
def ZIq{u:Nat}(h:u<4611686018427387904):(Go.Lib.decDigits u).length<=19:=ZUy 18 u (by omega)
def ZGE{n:Int}(h:0<=n):Go.Lib.itoa n=Go.Lib.decDigits n.toNat:=by unfold Go.Lib.itoa;rw[al_if_neg]
def ZPJ{n:Int}(h:n<0):Go.Lib.itoa n=45::Go.Lib.decDigits (-n).toNat:=by
 unfold Go.Lib.itoa;rw[al_if_pos h]
 congr 2
 omega
def ZUz{n:Int}(h0:0<=n)(h1:n<4611686018427387904):IntKind.wrap .u8 (w64 (48+Int.tmod n 10))=((48+n.toNat % 10:Nat):Int):=by
 have e:Int.tmod n 10=((n.toNat % 10:Nat):Int):=by rw[Int.tmod_eq_emod_of_nonneg h0];omega
 rw[e,ZAC]
 have hd:n.toNat % 10<10:=Nat.mod_lt _ (by omega)
 generalize n.toNat % 10=m at hd⊢
 simp[IntKind.wrap,IntKind.signed,IntKind.bits]
 omega
def ZU0(d:Nat)(a:Int×Unit)(x:Str×Unit)(h:ZDO (d+1) a=some x):F78 (ZDO d) a=some x:=by
 obtain⟨n,u⟩:=a
 unfold ZDO at h
 split at h
 ·rename_i hr
  obtain⟨⟨h0,h1⟩,hm⟩:=hr
  cases h
  simp only at h0 h1 hm⊢
  unfold F78
  simp only
  rw[ZAA]
  by_cases hn:n<0
  ·rw[ZA hn,ZAC]
   have hg:ZDO d (0-n,())=some (Go.Lib.decDigits (-n).toNat,()):=by
    unfold ZDO
    rw[al_if_pos ⟨⟨by simp only;omega,by simp only;omega⟩,by
     unfold ZIp at hm⊢
     simp only at hm⊢
     rw[al_if_pos hn]at hm
     rw[al_if_neg]
     omega⟩]
    simp only
    rw[ZGE (by omega)]
    congr 3;omega
   rw[hg,al_bind_some]
   have:=ZIq (u:=(-n).toNat) (by omega)
   rw[ZAB,ZPJ hn]
   rfl
  ·rw[ZAA hn,ZUz (by omega) h1]
   simp only[List.map_cons,List.map_nil,ZAW]
   have hd:=Go.Lib.decDigits.eq_1 n.toNat
   by_cases h9:n>9
   ·rw[ZA h9]
    have e1:w64 (Int.tdiv n 10)=((n.toNat/10:Nat):Int):=by
     have e:Int.tdiv n 10=((n.toNat/10:Nat):Int):=by rw[Int.tdiv_eq_ediv_of_nonneg (by omega)];omega
     rw[e,ZAC]
    have hg:ZDO d (((n.toNat/10:Nat):Int),())=some (Go.Lib.decDigits (n.toNat/10),()):=by
     unfold ZDO
     rw[al_if_pos ⟨⟨by simp only;omega,by simp only;omega⟩,by
      unfold ZIp at hm⊢
      simp only at hm⊢
      rw[al_if_neg hn]at hm
      rw[al_if_neg]
      omega⟩]
     simp only
     rw[ZGE (by omega),ZAW]
    rw[e1,hg,al_bind_some]
    have:=ZIq (u:=n.toNat/10) (by omega)
    rw[ZAB,ZGE (by omega),hd,dif_neg (by omega)]
   ·rw[ZAA h9,ZGE (by omega),hd,dif_pos (by omega)]
    congr 4;omega
 ·cases h
def ZU1(d:Nat):OK prog 78 (mkE p269 p268 false (ZDO d)):=by
 induction d with
 | zero=>exact ZUx func78 (by kernel_rfl) (of_decide_eq_false (by kernel_rfl)) (λa=>by unfold ZDO;rw[al_if_neg];rfl)
 | succ d ih=>exact ZUw (ok78 ih) (ZU0 d)
def G78:Int×Unit->Option (Str×Unit):=ZDO 18446744073709551616
theorem okG78:N78 G78:=ZU1 _
def numS{n:Int}(h0: -4611686018427387904<n)(h1:n<4611686018427387904):G78 (n,())=some (Go.Lib.itoa n,()):=by
 unfold G78 ZDO
 rw[al_if_pos ⟨⟨h0,h1⟩,by
  unfold ZIp
  simp only
  split<;>omega⟩]
end Ev
end
noncomputable section
namespace Go.Proofs
open Go.Shelf
def Tryz.lays156_ren:Go.Shelf.Ren:=⟨λ| 156=>40 | 165=>83 | 166=>84 | 169=>85 | 240=>175 | 241=>176 | 276=>275 | 277=>276 | n=>n,λ| 31=>25 | 9=>9 | 3=>3 | 4=>4 | 0=>0 | 20=>20 | 72=>131 | 76=>135 | 70=>129 | 37=>22 | 75=>134 | 127=>219 | 164=>271 | 5=>5 | 80=>137 | n=>n,λ| n=>n⟩
def Tryz.lays156:Go.Proofs.Lays.n156 Tryz.prog Tryz.lays156_ren:= {
 mixed:=by kernel_rfl
 f156:=Tryz.func40.trans (congrArg some (by kernel_rfl))
 f165:=Tryz.func83.trans (congrArg some (by kernel_rfl))
 f166:=Tryz.func84.trans (congrArg some (by kernel_rfl))
 f169:=Tryz.func85.trans (congrArg some (by kernel_rfl))
 f240:=Tryz.func175.trans (congrArg some (by kernel_rfl))
 f241:=Tryz.func176.trans (congrArg some (by kernel_rfl))
 f276:=Tryz.func275.trans (congrArg some (by kernel_rfl))
 f277:=Tryz.func276.trans (congrArg some (by kernel_rfl))
 t0:=Tryz.underlying0
 a0:=Tryz.isAgg0
 z0:=Tryz.sizeOf0
 v0:=Tryz.zeroValue0
 t3:=Tryz.underlying3
 a3:=Tryz.isAgg3
 z3:=Tryz.sizeOf3
 v3:=Tryz.zeroValue3
 t4:=Tryz.underlying4
 a4:=Tryz.isAgg4
 z4:=Tryz.sizeOf4
 v4:=Tryz.zeroValue4
 t9:=Tryz.underlying9
 a9:=Tryz.isAgg9
 z9:=Tryz.sizeOf9
 v9:=Tryz.zeroValue9
 t20:=Tryz.underlying20
 a20:=Tryz.isAgg20
 z20:=Tryz.sizeOf20
 v20:=Tryz.zeroValue20
 t31:=Tryz.underlying25
 a31:=Tryz.isAgg25
 z31:=Tryz.sizeOf25
 v31:=Tryz.zeroValue25
 t37:=Tryz.underlying22
 a37:=Tryz.isAgg22
 z37:=Tryz.sizeOf22
 v37:=Tryz.zeroValue22
 t70:=Tryz.underlying129
 a70:=Tryz.isAgg129
 z70:=Tryz.sizeOf129
 v70:=Tryz.zeroValue129
 t72:=Tryz.underlying131
 a72:=Tryz.isAgg131
 z72:=Tryz.sizeOf131
 v72:=Tryz.zeroValue131
 t75:=Tryz.underlying134
 a75:=Tryz.isAgg134
 z75:=Tryz.sizeOf134
 v75:=Tryz.zeroValue134
 t76:=Tryz.underlying135
 a76:=Tryz.isAgg135
 z76:=Tryz.sizeOf135
 v76:=Tryz.zeroValue135
 t127:=Tryz.underlying219
 a127:=Tryz.isAgg219
 z127:=Tryz.sizeOf219
 v127:=Tryz.zeroValue219
 t164:=Tryz.underlying271
 a164:=Tryz.isAgg271
 z164:=Tryz.sizeOf271
 v164:=Tryz.zeroValue271}
def Tryz.Builder_Extra_156:Builder.Extra Tryz.prog Tryz.lays156_ren:= {
 sizeBuilder:=by kernel_rfl
 liesBuilder:=by kernel_rfl
 t5:=Tryz.underlying5
 a5:=Tryz.isAgg5
 z5:=Tryz.sizeOf5
 v5:=Tryz.zeroValue5
 infoByte:=by kernel_rfl
 cellsByte:=by kernel_rfl
 sizeByte:=by kernel_rfl
 neB5:=by decide}
open Go.RowKit in
def Tryz.strings_Join_none(a:Option Addr)(c:Nat)(sep:ByteArray)(w:World):
  Calls Tryz.prog 40 #[.slice a 0 c,.string sep] w λe w'=>e= .returned (.string ⟨#[]⟩)/\w'=w:=Any.strings_Join_none Tryz.lays156 Tryz.Builder_Extra_156 a c sep w
open Go.RowKit in
def Tryz.strings_Join(bk o c:Nat)(xs:List ByteArray)(sep:ByteArray)(w:World)(hcells: ∀(j:Nat) x,xs[j]?=some x->w.cell? ⟨bk,o+j,none⟩=some (.string x))(hbk:bk<w.heap.size)(hN:xs.length<=140737488355328)(hcap:xs.length<=c)(hlen:(Lib.join (xs.map (·.data.toList)) sep.data.toList).length<=140737488355328):
  Calls Tryz.prog 40 #[.slice (some ⟨bk,o,none⟩) xs.length c,.string sep] w λe w'=>e= .returned (.string ⟨(Lib.join (xs.map (·.data.toList)) sep.data.toList).toArray⟩)/\Below w.heap.size w w':=Any.strings_Join Tryz.lays156 Tryz.Builder_Extra_156 bk o c xs sep w hcells hbk hN hcap hlen
def Tryz.lays162_ren:Go.Shelf.Ren:=⟨λ| 162=>58 | 232=>131 | 227=>132 | 234=>133 | 236=>134 | 228=>222 | 271=>223 | 151=>224 | 120=>306 | 197=>272 | 152=>277 | 260=>332 | 137=>337 | 119=>338 | 224=>335 | 225=>334 | 217=>333 | 266=>362 | n=>n,λ| 9=>9 | 4=>4 | 3=>3 | 5=>5 | 117=>193 | 116=>192 | 0=>0 | 124=>196 | 21=>21 | 105=>249 | 46=>268 | 119=>312 | 139=>315 | 138=>314 | n=>n,λ| 3=>1 | 4=>2 | n=>n⟩
def Tryz.lays162:Go.Proofs.Lays.n162 Tryz.prog Tryz.lays162_ren:= {
 mixed:=by kernel_rfl
 f119:=Tryz.func338.trans (congrArg some (by kernel_rfl))
 f120:=Tryz.func306.trans (congrArg some (by kernel_rfl))
 f137:=Tryz.func337.trans (congrArg some (by kernel_rfl))
 f151:=Tryz.func224.trans (congrArg some (by kernel_rfl))
 f152:=Tryz.func277.trans (congrArg some (by kernel_rfl))
 f162:=Tryz.func58.trans (congrArg some (by kernel_rfl))
 f197:=Tryz.func272.trans (congrArg some (by kernel_rfl))
 f217:=Tryz.func333.trans (congrArg some (by kernel_rfl))
 f224:=Tryz.func335.trans (congrArg some (by kernel_rfl))
 f225:=Tryz.func334.trans (congrArg some (by kernel_rfl))
 f227:=Tryz.func132.trans (congrArg some (by kernel_rfl))
 f228:=Tryz.func222.trans (congrArg some (by kernel_rfl))
 f232:=Tryz.func131.trans (congrArg some (by kernel_rfl))
 f234:=Tryz.func133.trans (congrArg some (by kernel_rfl))
 f236:=Tryz.func134.trans (congrArg some (by kernel_rfl))
 f260:=Tryz.func332.trans (congrArg some (by kernel_rfl))
 f266:=Tryz.func362.trans (congrArg some (by kernel_rfl))
 f271:=Tryz.func223.trans (congrArg some (by kernel_rfl))
 t0:=Tryz.underlying0
 a0:=Tryz.isAgg0
 z0:=Tryz.sizeOf0
 v0:=Tryz.zeroValue0
 t3:=Tryz.underlying3
 a3:=Tryz.isAgg3
 z3:=Tryz.sizeOf3
 v3:=Tryz.zeroValue3
 t4:=Tryz.underlying4
 a4:=Tryz.isAgg4
 z4:=Tryz.sizeOf4
 v4:=Tryz.zeroValue4
 t5:=Tryz.underlying5
 a5:=Tryz.isAgg5
 z5:=Tryz.sizeOf5
 v5:=Tryz.zeroValue5
 t9:=Tryz.underlying9
 a9:=Tryz.isAgg9
 z9:=Tryz.sizeOf9
 v9:=Tryz.zeroValue9
 t21:=Tryz.underlying21
 a21:=Tryz.isAgg21
 z21:=Tryz.sizeOf21
 v21:=Tryz.zeroValue21
 t46:=Tryz.underlying268
 a46:=Tryz.isAgg268
 z46:=Tryz.sizeOf268
 v46:=Tryz.zeroValue268
 t105:=Tryz.underlying249
 a105:=Tryz.isAgg249
 z105:=Tryz.sizeOf249
 v105:=Tryz.zeroValue249
 t116:=Tryz.underlying192
 a116:=Tryz.isAgg192
 z116:=Tryz.sizeOf192
 t117:=Tryz.underlying193
 a117:=Tryz.isAgg193
 z117:=Tryz.sizeOf193
 v117:=Tryz.zeroValue193
 t119:=Tryz.underlying312
 a119:=Tryz.isAgg312
 z119:=Tryz.sizeOf312
 t124:=Tryz.underlying196
 a124:=Tryz.isAgg196
 z124:=Tryz.sizeOf196
 v124:=Tryz.zeroValue196
 t138:=Tryz.underlying314
 a138:=Tryz.isAgg314
 z138:=Tryz.sizeOf314
 v138:=Tryz.zeroValue314
 t139:=Tryz.underlying315
 a139:=Tryz.isAgg315
 z139:=Tryz.sizeOf315
 v139:=Tryz.zeroValue315
 g3:=by kernel_rfl
 g4:=by kernel_rfl}
open Go.RowKit in
def Tryz.strings_TrimRight_one(s:ByteArray)(c:UInt8)(hc:c.toNat<128)(w:World)(hs:s.size<=9223372036854775807):
  Calls Tryz.prog 58 #[.string s,.string ⟨#[c]⟩] w λe w'=>e= .returned (.string ⟨(Lib.trimRightB s.data.toList c).toArray⟩)/\w'=w:=Any.strings_TrimRight_one Tryz.lays162 s c hc w hs
def Tryz.lays119_ren:Go.Shelf.Ren:=⟨λ| 119=>338 | n=>n,λ| 21=>21 | 4=>4 | n=>n,λ| n=>n⟩
def Tryz.lays119:Go.Proofs.Lays.n119 Tryz.prog Tryz.lays119_ren:= {
 mixed:=by kernel_rfl
 f119:=Tryz.func338.trans (congrArg some (by kernel_rfl))
 t4:=Tryz.underlying4
 a4:=Tryz.isAgg4
 z4:=Tryz.sizeOf4
 v4:=Tryz.zeroValue4
 t21:=Tryz.underlying21
 a21:=Tryz.isAgg21
 z21:=Tryz.sizeOf21
 v21:=Tryz.zeroValue21}
def Tryz.utf8_ValidRune(r:Int)(w:World):
  Calls Tryz.prog 338 #[.int .i32 r] w λe w'=>e= .returned (.bool (Lib.validRune r))/\w'=w:=Any.utf8_ValidRune Tryz.lays119 r w
def Tryz.lays137_ren:Go.Shelf.Ren:=⟨λ| 137=>337 | 217=>333 | 266=>362 | n=>n,λ| 9=>9 | 5=>5 | 3=>3 | n=>n,λ| n=>n⟩
def Tryz.lays137:Go.Proofs.Lays.n137 Tryz.prog Tryz.lays137_ren:= {
 mixed:=by kernel_rfl
 f137:=Tryz.func337.trans (congrArg some (by kernel_rfl))
 f217:=Tryz.func333.trans (congrArg some (by kernel_rfl))
 f266:=Tryz.func362.trans (congrArg some (by kernel_rfl))
 t3:=Tryz.underlying3
 a3:=Tryz.isAgg3
 z3:=Tryz.sizeOf3
 v3:=Tryz.zeroValue3
 t5:=Tryz.underlying5
 a5:=Tryz.isAgg5
 z5:=Tryz.sizeOf5
 v5:=Tryz.zeroValue5
 t9:=Tryz.underlying9
 a9:=Tryz.isAgg9
 z9:=Tryz.sizeOf9
 v9:=Tryz.zeroValue9}
open Go.RowKit in
def Tryz.strings_IndexByte(s:ByteArray)(c:Int)(w:World):
  Calls Tryz.prog 337 #[.string s,.int .u8 c] w λe w'=>e= .returned (.int .i64 (Lib.indexByte s.data.toList c.toNat.toUInt8))/\w'=w:=Any.strings_IndexByte Tryz.lays137 s c w
def Tryz.laysM171_ren:Go.Shelf.Ren:=⟨λ| 171=>129 | 243=>221 | 246=>305 | 283=>344 | 284=>345 | 285=>346 | 286=>347 | 129=>367 | 317=>366 | 318=>368 | 319=>369 | 320=>370 | 337=>377 | 338=>378 | n=>n,λ| 3=>3 | 9=>9 | 2=>2 | 4=>4 | 171=>303 | 0=>0 | 53=>304 | 37=>22 | 5=>5 | 173=>307 | 212=>322 | 51=>316 | 20=>20 | 213=>323 | 46=>268 | 232=>327 | 233=>328 | n=>n,λ| 17=>3 | 18=>4 | 19=>5 | n=>n⟩
def Tryz.laysM171:Go.Proofs.LaysM.n171 Tryz.prog Tryz.laysM171_ren:= {
 mixed:=by kernel_rfl
 f129:=Tryz.func367.trans (congrArg some (by kernel_rfl))
 f171:=Tryz.func129.trans (congrArg some (by kernel_rfl))
 f243:=Tryz.func221.trans (congrArg some (by kernel_rfl))
 f246:=Tryz.func305.trans (congrArg some (by kernel_rfl))
 f283:=Tryz.func344.trans (congrArg some (by kernel_rfl))
 f284:=Tryz.func345.trans (congrArg some (by kernel_rfl))
 f285:=Tryz.func346.trans (congrArg some (by kernel_rfl))
 f286:=Tryz.func347.trans (congrArg some (by kernel_rfl))
 f317:=Tryz.func366.trans (congrArg some (by kernel_rfl))
 f318:=Tryz.func368.trans (congrArg some (by kernel_rfl))
 f319:=Tryz.func369.trans (congrArg some (by kernel_rfl))
 f320:=Tryz.func370.trans (congrArg some (by kernel_rfl))
 f337:=Tryz.func377.trans (congrArg some (by kernel_rfl))
 f338:=Tryz.func378.trans (congrArg some (by kernel_rfl))
 t0:=Tryz.underlying0
 a0:=Tryz.isAgg0
 z0:=Tryz.sizeOf0
 v0:=Tryz.zeroValue0
 t2:=Tryz.underlying2
 a2:=Tryz.isAgg2
 z2:=Tryz.sizeOf2
 v2:=Tryz.zeroValue2
 t3:=Tryz.underlying3
 a3:=Tryz.isAgg3
 z3:=Tryz.sizeOf3
 v3:=Tryz.zeroValue3
 t4:=Tryz.underlying4
 a4:=Tryz.isAgg4
 z4:=Tryz.sizeOf4
 v4:=Tryz.zeroValue4
 t5:=Tryz.underlying5
 a5:=Tryz.isAgg5
 z5:=Tryz.sizeOf5
 v5:=Tryz.zeroValue5
 t9:=Tryz.underlying9
 a9:=Tryz.isAgg9
 z9:=Tryz.sizeOf9
 v9:=Tryz.zeroValue9
 t20:=Tryz.underlying20
 a20:=Tryz.isAgg20
 z20:=Tryz.sizeOf20
 v20:=Tryz.zeroValue20
 t37:=Tryz.underlying22
 a37:=Tryz.isAgg22
 z37:=Tryz.sizeOf22
 v37:=Tryz.zeroValue22
 t46:=Tryz.underlying268
 a46:=Tryz.isAgg268
 z46:=Tryz.sizeOf268
 v46:=Tryz.zeroValue268
 t51:=Tryz.underlying316
 a51:=Tryz.isAgg316
 z51:=Tryz.sizeOf316
 v51:=Tryz.zeroValue316
 t53:=Tryz.underlying304
 a53:=Tryz.isAgg304
 z53:=Tryz.sizeOf304
 v53:=Tryz.zeroValue304
 t171:=Tryz.underlying303
 a171:=Tryz.isAgg303
 z171:=Tryz.sizeOf303
 v171:=Tryz.zeroValue303
 t173:=Tryz.underlying307
 a173:=Tryz.isAgg307
 z173:=Tryz.sizeOf307
 v173:=Tryz.zeroValue307
 t212:=Tryz.underlying322
 a212:=Tryz.isAgg322
 z212:=Tryz.sizeOf322
 v212:=Tryz.zeroValue322
 t213:=Tryz.underlying323
 a213:=Tryz.isAgg323
 z213:=Tryz.sizeOf323
 t232:=Tryz.underlying327
 a232:=Tryz.isAgg327
 z232:=Tryz.sizeOf327
 v232:=Tryz.zeroValue327
 t233:=Tryz.underlying328
 a233:=Tryz.isAgg328
 z233:=Tryz.sizeOf328
 v233:=Tryz.zeroValue328
 g17:=by kernel_rfl
 g18:=by kernel_rfl
 g19:=by kernel_rfl
 i0:=by kernel_rfl
 i2:=by kernel_rfl
 i3:=by kernel_rfl
 i4:=by kernel_rfl
 i5:=by kernel_rfl
 i9:=by kernel_rfl
 i20:=by kernel_rfl
 i37:=by kernel_rfl
 i46:=by kernel_rfl
 i51:=by kernel_rfl
 i53:=by kernel_rfl
 i171:=by kernel_rfl
 i173:=by kernel_rfl
 i212:=by kernel_rfl
 i232:=by kernel_rfl
 i233:=by kernel_rfl
 m17:=by kernel_rfl
 m18:=by kernel_rfl
 m19:=by kernel_rfl}
open Go.RowKit Go.Sort Go.Lib in
def Tryz.strconv_Itoa(n:Int)(h0: -9223372036854775808<=n)(h1:n<=9223372036854775807)(w:World)(htab:Lib.TabIs Tryz.prog w "internal/strconv.uint64pow10" .u64 Lib.pow10Tab):
  Calls Tryz.prog 129 #[.int .i64 n] w λe w'=>e= .returned (.string ⟨(Lib.itoa n).toArray⟩)/\ ∃k os,w'=grow (w.drewN k) os:=Any.strconv_Itoa Tryz.laysM171 n h0 h1 w htab
def Tryz.lays145_ren:Go.Shelf.Ren:=⟨λ| 145=>96 | 220=>187 | 219=>274 | 217=>333 | 225=>334 | 224=>335 | 267=>336 | 266=>362 | 314=>363 | n=>n,λ| 9=>9 | 4=>4 | 59=>145 | 3=>3 | 5=>5 | 46=>268 | 146=>317 | 51=>316 | n=>n,λ| 1=>0 | n=>n⟩
def Tryz.lays145:Go.Proofs.Lays.n145 Tryz.prog Tryz.lays145_ren:= {
 mixed:=by kernel_rfl
 f145:=Tryz.func96.trans (congrArg some (by kernel_rfl))
 f217:=Tryz.func333.trans (congrArg some (by kernel_rfl))
 f219:=Tryz.func274.trans (congrArg some (by kernel_rfl))
 f220:=Tryz.func187.trans (congrArg some (by kernel_rfl))
 f224:=Tryz.func335.trans (congrArg some (by kernel_rfl))
 f225:=Tryz.func334.trans (congrArg some (by kernel_rfl))
 f266:=Tryz.func362.trans (congrArg some (by kernel_rfl))
 f267:=Tryz.func336.trans (congrArg some (by kernel_rfl))
 f314:=Tryz.func363.trans (congrArg some (by kernel_rfl))
 t3:=Tryz.underlying3
 a3:=Tryz.isAgg3
 z3:=Tryz.sizeOf3
 v3:=Tryz.zeroValue3
 t4:=Tryz.underlying4
 a4:=Tryz.isAgg4
 z4:=Tryz.sizeOf4
 v4:=Tryz.zeroValue4
 t5:=Tryz.underlying5
 a5:=Tryz.isAgg5
 z5:=Tryz.sizeOf5
 v5:=Tryz.zeroValue5
 t9:=Tryz.underlying9
 a9:=Tryz.isAgg9
 z9:=Tryz.sizeOf9
 v9:=Tryz.zeroValue9
 t46:=Tryz.underlying268
 a46:=Tryz.isAgg268
 z46:=Tryz.sizeOf268
 v46:=Tryz.zeroValue268
 t51:=Tryz.underlying316
 a51:=Tryz.isAgg316
 z51:=Tryz.sizeOf316
 v51:=Tryz.zeroValue316
 t59:=Tryz.underlying145
 a59:=Tryz.isAgg145
 z59:=Tryz.sizeOf145
 v59:=Tryz.zeroValue145
 t146:=Tryz.underlying317
 a146:=Tryz.isAgg317
 z146:=Tryz.sizeOf317
 v146:=Tryz.zeroValue317
 g1:=by kernel_rfl}
open Go.RowKit Go.Lib in
def Tryz.strings_Cut(s sep:ByteArray)(m:Int)(w:World)(hs:s.size<4294967281)(hm:w.cell? ⟨0,0,none⟩=some (.int .i64 m)):
  Calls Tryz.prog 96 #[.string s,.string sep] w λe w'=>e= .returned (.tuple #[.string ⟨(Lib.cut s.data.toList sep.data.toList).1.toArray⟩,.string ⟨(Lib.cut s.data.toList sep.data.toList).2.1.toArray⟩,.bool (Lib.cut s.data.toList sep.data.toList).2.2])/\ ∃n,w'=w.drewN n:=Any.strings_Cut Tryz.lays145 s sep m w hs hm
def Tryz.lays146_ren:Go.Shelf.Ren:=⟨λ| 146=>38 | 221=>82 | 268=>172 | 138=>173 | 143=>174 | 195=>271 | 197=>272 | 218=>273 | 219=>274 | 260=>332 | 217=>333 | 225=>334 | 224=>335 | 267=>336 | 266=>362 | 314=>363 | n=>n,λ| 9=>9 | 31=>25 | 3=>3 | 4=>4 | 0=>0 | 105=>249 | 21=>21 | 5=>5 | 46=>268 | 119=>312 | 139=>315 | 138=>314 | 146=>317 | 51=>316 | n=>n,λ| 1=>0 | 3=>1 | 4=>2 | n=>n⟩
def Tryz.lays146:Go.Proofs.Lays.n146 Tryz.prog Tryz.lays146_ren:= {
 mixed:=by kernel_rfl
 f138:=Tryz.func173.trans (congrArg some (by kernel_rfl))
 f143:=Tryz.func174.trans (congrArg some (by kernel_rfl))
 f146:=Tryz.func38.trans (congrArg some (by kernel_rfl))
 f195:=Tryz.func271.trans (congrArg some (by kernel_rfl))
 f197:=Tryz.func272.trans (congrArg some (by kernel_rfl))
 f217:=Tryz.func333.trans (congrArg some (by kernel_rfl))
 f218:=Tryz.func273.trans (congrArg some (by kernel_rfl))
 f219:=Tryz.func274.trans (congrArg some (by kernel_rfl))
 f221:=Tryz.func82.trans (congrArg some (by kernel_rfl))
 f224:=Tryz.func335.trans (congrArg some (by kernel_rfl))
 f225:=Tryz.func334.trans (congrArg some (by kernel_rfl))
 f260:=Tryz.func332.trans (congrArg some (by kernel_rfl))
 f266:=Tryz.func362.trans (congrArg some (by kernel_rfl))
 f267:=Tryz.func336.trans (congrArg some (by kernel_rfl))
 f268:=Tryz.func172.trans (congrArg some (by kernel_rfl))
 f314:=Tryz.func363.trans (congrArg some (by kernel_rfl))
 t0:=Tryz.underlying0
 a0:=Tryz.isAgg0
 z0:=Tryz.sizeOf0
 v0:=Tryz.zeroValue0
 t3:=Tryz.underlying3
 a3:=Tryz.isAgg3
 z3:=Tryz.sizeOf3
 v3:=Tryz.zeroValue3
 t4:=Tryz.underlying4
 a4:=Tryz.isAgg4
 z4:=Tryz.sizeOf4
 v4:=Tryz.zeroValue4
 t5:=Tryz.underlying5
 a5:=Tryz.isAgg5
 z5:=Tryz.sizeOf5
 v5:=Tryz.zeroValue5
 t9:=Tryz.underlying9
 a9:=Tryz.isAgg9
 z9:=Tryz.sizeOf9
 v9:=Tryz.zeroValue9
 t21:=Tryz.underlying21
 a21:=Tryz.isAgg21
 z21:=Tryz.sizeOf21
 v21:=Tryz.zeroValue21
 t31:=Tryz.underlying25
 a31:=Tryz.isAgg25
 z31:=Tryz.sizeOf25
 v31:=Tryz.zeroValue25
 t46:=Tryz.underlying268
 a46:=Tryz.isAgg268
 z46:=Tryz.sizeOf268
 v46:=Tryz.zeroValue268
 t51:=Tryz.underlying316
 a51:=Tryz.isAgg316
 z51:=Tryz.sizeOf316
 v51:=Tryz.zeroValue316
 t105:=Tryz.underlying249
 a105:=Tryz.isAgg249
 z105:=Tryz.sizeOf249
 v105:=Tryz.zeroValue249
 t119:=Tryz.underlying312
 a119:=Tryz.isAgg312
 z119:=Tryz.sizeOf312
 t138:=Tryz.underlying314
 a138:=Tryz.isAgg314
 z138:=Tryz.sizeOf314
 v138:=Tryz.zeroValue314
 t139:=Tryz.underlying315
 a139:=Tryz.isAgg315
 z139:=Tryz.sizeOf315
 v139:=Tryz.zeroValue315
 t146:=Tryz.underlying317
 a146:=Tryz.isAgg317
 z146:=Tryz.sizeOf317
 v146:=Tryz.zeroValue317
 g1:=by kernel_rfl
 g3:=by kernel_rfl
 g4:=by kernel_rfl}
open Go.RowKit Go.Lib in
def Tryz.strings_Split(s sep:ByteArray)(m:Int)(w:World)(hs:s.size<4294967281)(hm:w.cell? ⟨0,0,none⟩=some (.int .i64 m))(h1:1<=sep.size):
  Calls Tryz.prog 38 #[.string s,.string sep] w λe w'=>
   e= .returned (.slice (some ⟨w.heap.size,0,none⟩) (Lib.countB s sep+1) (Lib.countB s sep+1))/\w'=w.alloc (.cells ((Lib.splitB sep 0 (Lib.countB s sep) s).map Value.string).toArray 9):=Any.strings_Split Tryz.lays146 (by kernel_rfl) s sep m w hs hm h1
def Tryz.lays152_ren:Go.Shelf.Ren:=⟨λ| 152=>277 | 137=>337 | 119=>338 | 224=>335 | 225=>334 | 217=>333 | 266=>362 | n=>n,λ| 9=>9 | 21=>21 | 3=>3 | 4=>4 | 5=>5 | 0=>0 | 46=>268 | n=>n,λ| n=>n⟩
def Tryz.lays152:Go.Proofs.Lays.n152 Tryz.prog Tryz.lays152_ren:= {
 mixed:=by kernel_rfl
 f119:=Tryz.func338.trans (congrArg some (by kernel_rfl))
 f137:=Tryz.func337.trans (congrArg some (by kernel_rfl))
 f152:=Tryz.func277.trans (congrArg some (by kernel_rfl))
 f217:=Tryz.func333.trans (congrArg some (by kernel_rfl))
 f224:=Tryz.func335.trans (congrArg some (by kernel_rfl))
 f225:=Tryz.func334.trans (congrArg some (by kernel_rfl))
 f266:=Tryz.func362.trans (congrArg some (by kernel_rfl))
 t0:=Tryz.underlying0
 a0:=Tryz.isAgg0
 z0:=Tryz.sizeOf0
 v0:=Tryz.zeroValue0
 t3:=Tryz.underlying3
 a3:=Tryz.isAgg3
 z3:=Tryz.sizeOf3
 v3:=Tryz.zeroValue3
 t4:=Tryz.underlying4
 a4:=Tryz.isAgg4
 z4:=Tryz.sizeOf4
 v4:=Tryz.zeroValue4
 t5:=Tryz.underlying5
 a5:=Tryz.isAgg5
 z5:=Tryz.sizeOf5
 v5:=Tryz.zeroValue5
 t9:=Tryz.underlying9
 a9:=Tryz.isAgg9
 z9:=Tryz.sizeOf9
 v9:=Tryz.zeroValue9
 t21:=Tryz.underlying21
 a21:=Tryz.isAgg21
 z21:=Tryz.sizeOf21
 v21:=Tryz.zeroValue21
 t46:=Tryz.underlying268
 a46:=Tryz.isAgg268
 z46:=Tryz.sizeOf268
 v46:=Tryz.zeroValue268}
open Go.RowKit Go.Lib in
def Tryz.strings_IndexRune_ascii(s:ByteArray)(r:Int)(w:World)(h0:0<=r)(h1:r<128):
  Calls Tryz.prog 277 #[.string s,.int .i32 r] w λe w'=>e= .returned (.int .i64 (Lib.indexByte s.data.toList r.toNat.toUInt8))/\w'=w:=Any.strings_IndexRune_ascii Tryz.lays152 s r w h0 h1
def Tryz.lays226_ren:Go.Shelf.Ren:=⟨λ| 226=>278 | n=>n,λ| 3=>3 | 4=>4 | n=>n,λ| n=>n⟩
def Tryz.lays226:Go.Proofs.Lays.n226 Tryz.prog Tryz.lays226_ren:= {
 mixed:=by kernel_rfl
 f226:=Tryz.func278.trans (congrArg some (by kernel_rfl))
 t3:=Tryz.underlying3
 a3:=Tryz.isAgg3
 z3:=Tryz.sizeOf3
 v3:=Tryz.zeroValue3
 t4:=Tryz.underlying4
 a4:=Tryz.isAgg4
 z4:=Tryz.sizeOf4
 v4:=Tryz.zeroValue4}
open Go.RowKit Go.Lib in
def Tryz.strings_shouldUseASCIISet(n:Int)(w:World):
  Calls Tryz.prog 278 #[.int .i64 n] w λe w'=>e= .returned (.bool (decide (8<n)))/\w'=w:=Any.strings_shouldUseASCIISet Tryz.lays226 n w
def Tryz.lays227_ren:Go.Shelf.Ren:=⟨λ| 227=>132 | n=>n,λ| 9=>9 | 116=>192 | 4=>4 | 0=>0 | 3=>3 | 5=>5 | n=>n,λ| n=>n⟩
def Tryz.lays227:Go.Proofs.Lays.n227 Tryz.prog Tryz.lays227_ren:= {
 mixed:=by kernel_rfl
 f227:=Tryz.func132.trans (congrArg some (by kernel_rfl))
 t0:=Tryz.underlying0
 a0:=Tryz.isAgg0
 z0:=Tryz.sizeOf0
 v0:=Tryz.zeroValue0
 t3:=Tryz.underlying3
 a3:=Tryz.isAgg3
 z3:=Tryz.sizeOf3
 v3:=Tryz.zeroValue3
 t4:=Tryz.underlying4
 a4:=Tryz.isAgg4
 z4:=Tryz.sizeOf4
 v4:=Tryz.zeroValue4
 t5:=Tryz.underlying5
 a5:=Tryz.isAgg5
 z5:=Tryz.sizeOf5
 v5:=Tryz.zeroValue5
 t9:=Tryz.underlying9
 a9:=Tryz.isAgg9
 z9:=Tryz.sizeOf9
 v9:=Tryz.zeroValue9
 t116:=Tryz.underlying192
 a116:=Tryz.isAgg192
 z116:=Tryz.sizeOf192}
open Go.RowKit Go.Lib in
def Tryz.strings_makeASCIISet(hv116: ∀w,(zeroValue 192).run Tryz.prog w= .ok (.agg (Array.replicate 256 (.bool false))) w)(chars:ByteArray)(w:World)(hs:chars.size<4294967281)(hascii: ∀(j:Nat) b,chars.data.toList[j]?=some b->b.toNat<128):
  Calls Tryz.prog 132 #[.string chars] w λe w'=>e= .returned (.tuple #[.agg (Lib.setCells chars.data.toList),.bool true])/\w'=w.alloc (.cells (Lib.setCells chars.data.toList) 192):=Any.strings_makeASCIISet Tryz.lays227 hv116 (by kernel_rfl) chars w hs hascii
def Tryz.lays228_ren:Go.Shelf.Ren:=⟨λ| 228=>222 | n=>n,λ| 124=>196 | 5=>5 | 4=>4 | 0=>0 | 116=>192 | n=>n,λ| n=>n⟩
def Tryz.lays228:Go.Proofs.Lays.n228 Tryz.prog Tryz.lays228_ren:= {
 mixed:=by kernel_rfl
 f228:=Tryz.func222.trans (congrArg some (by kernel_rfl))
 t0:=Tryz.underlying0
 a0:=Tryz.isAgg0
 z0:=Tryz.sizeOf0
 v0:=Tryz.zeroValue0
 t4:=Tryz.underlying4
 a4:=Tryz.isAgg4
 z4:=Tryz.sizeOf4
 v4:=Tryz.zeroValue4
 t5:=Tryz.underlying5
 a5:=Tryz.isAgg5
 z5:=Tryz.sizeOf5
 v5:=Tryz.zeroValue5
 t116:=Tryz.underlying192
 a116:=Tryz.isAgg192
 z116:=Tryz.sizeOf192
 t124:=Tryz.underlying196
 a124:=Tryz.isAgg196
 z124:=Tryz.sizeOf196
 v124:=Tryz.zeroValue196}
open Go.RowKit Go.Lib in
def Tryz.asciiSet_contains(b:Nat)(x:UInt8)(v:Bool)(w:World)(hc:w.cell? ⟨b,x.toNat,none⟩=some (.bool v)):
  Calls Tryz.prog 222 #[.pointer (some ⟨b,0,none⟩),.int .u8 x.toNat] w λe w'=>e= .returned (.bool v)/\w'=w:=Any.asciiSet_contains Tryz.lays228 b x v w hc
def Tryz.lays271_ren:Go.Shelf.Ren:=⟨λ| 271=>223 | 120=>306 | 197=>272 | 260=>332 | n=>n,λ| 9=>9 | 21=>21 | 3=>3 | 4=>4 | 5=>5 | 105=>249 | 119=>312 | 0=>0 | 46=>268 | 139=>315 | 138=>314 | n=>n,λ| 3=>1 | 4=>2 | n=>n⟩
def Tryz.lays271:Go.Proofs.Lays.n271 Tryz.prog Tryz.lays271_ren:= {
 mixed:=by kernel_rfl
 f120:=Tryz.func306.trans (congrArg some (by kernel_rfl))
 f197:=Tryz.func272.trans (congrArg some (by kernel_rfl))
 f260:=Tryz.func332.trans (congrArg some (by kernel_rfl))
 f271:=Tryz.func223.trans (congrArg some (by kernel_rfl))
 t0:=Tryz.underlying0
 a0:=Tryz.isAgg0
 z0:=Tryz.sizeOf0
 v0:=Tryz.zeroValue0
 t3:=Tryz.underlying3
 a3:=Tryz.isAgg3
 z3:=Tryz.sizeOf3
 v3:=Tryz.zeroValue3
 t4:=Tryz.underlying4
 a4:=Tryz.isAgg4
 z4:=Tryz.sizeOf4
 v4:=Tryz.zeroValue4
 t5:=Tryz.underlying5
 a5:=Tryz.isAgg5
 z5:=Tryz.sizeOf5
 v5:=Tryz.zeroValue5
 t9:=Tryz.underlying9
 a9:=Tryz.isAgg9
 z9:=Tryz.sizeOf9
 v9:=Tryz.zeroValue9
 t21:=Tryz.underlying21
 a21:=Tryz.isAgg21
 z21:=Tryz.sizeOf21
 v21:=Tryz.zeroValue21
 t46:=Tryz.underlying268
 a46:=Tryz.isAgg268
 z46:=Tryz.sizeOf268
 v46:=Tryz.zeroValue268
 t105:=Tryz.underlying249
 a105:=Tryz.isAgg249
 z105:=Tryz.sizeOf249
 v105:=Tryz.zeroValue249
 t119:=Tryz.underlying312
 a119:=Tryz.isAgg312
 z119:=Tryz.sizeOf312
 t138:=Tryz.underlying314
 a138:=Tryz.isAgg314
 z138:=Tryz.sizeOf314
 v138:=Tryz.zeroValue314
 t139:=Tryz.underlying315
 a139:=Tryz.isAgg315
 z139:=Tryz.sizeOf315
 v139:=Tryz.zeroValue315
 g3:=by kernel_rfl
 g4:=by kernel_rfl}
open Go.RowKit Go.Lib in
def Tryz.utf8_DecodeLastRuneInString(s:ByteArray)(w:World)(hs:s.size<=9223372036854775807)(hT:Lib.Utf8Tabs 1 2 w):
  Calls Tryz.prog 223 #[.string s] w λe w'=>e= .returned (.tuple #[.int .i32 (Lib.decodeLastL s.data.toList).1,.int .i64 (Lib.decodeLastL s.data.toList).2])/\Below w.heap.size w w':=Any.utf8_DecodeLastRuneInString Tryz.lays271 s w hs hT
end Go.Proofs
end
noncomputable section
namespace Ev
open Go
def ZPK{F:Nat->Prop}{w:World}(h:Glob F w): ∃m,w.cell? ⟨0,0,none⟩=some (.int .i64 m):=by
 obtain⟨_,cs,e,r,h1,m,h2⟩:=h (0,λcs=> ∃m,cs= #[Value.int .i64 m]) (by unfold GP;simp)
 subst h2
 refine⟨m,?_⟩
 simp only at h1
 unfold World.cell?
 rw[h1]
 rfl
def ZU2(w:World)(k:Nat):Chg (λ_=>False) w (w.drewN k):=⟨rfl,rfl,rfl,Nat.le_refl _,λ_ _ _=>rfl,DR.add _ _⟩
def ZHO{w w':World}(k:Go.RowKit.Below w.heap.size w w'):Chg (λ_=>False) w w':=⟨k.os,k.tape,k.output,k.size,λb hb _=>k.block b hb,.inr trivial⟩
def ZLG: ∀l:List Str,flat .str l=l.map λs=>Value.string ⟨⟨s⟩⟩
 | []=>rfl
 | s::l=>by rw[ZCP,ZLG l];rfl
def ZIr(a:Str×Str×Unit):Option (List Str×Unit):=if a.1.length<4294967281/\1<=a.2.1.length then some (Go.Lib.split a.1 a.2.1,())else none
def p38:List SP:=[.one (.str),.one (.str)]
def r38:List SP:=[.one (.o 0 .str)]
abbrev T38:=Str×Str×Unit->Option (List Str×Unit)
abbrev N38(f:T38):=OKP 38 (mkE p38 r38 false f)
def F38:ZAL p38->Option (ZAL (muts p38++r38)):=ZIr
theorem ok38:N38 F38:=by
 refine ZGD func38 (by kernel_rfl) (of_decide_eq_false (by kernel_rfl)) (λa=>rfl) λa x hx w F hg hs ca hsz hv=> ?_
 obtain⟨s,t,u⟩:=a
 unfold F38 ZIr at hx
 split at hx
 ·rename_i hr
  cases hx
  rw[ZPC hsz rfl hv]
  obtain⟨m,hm⟩:=ZPK hg
  have hr2:1<=ByteArray.size ⟨⟨t⟩⟩:=by simpa[ByteArray.size]using hr.2
  refine(strings_Split ⟨⟨s⟩⟩ ⟨⟨t⟩⟩ m w (by simpa[ByteArray.size]using hr.1) hm hr2).mono ?_
  rintro e w' ⟨rfl,rfl⟩
  have e1:Go.Lib.split s t=(Go.Lib.splitB ⟨⟨t⟩⟩ 0 (Go.Lib.countB ⟨⟨s⟩⟩ ⟨⟨t⟩⟩) ⟨⟨s⟩⟩).map (·.data.toList):=by rw[Go.Lib.splitB_data];rfl
  have e2:=Go.Lib.splitB_all ⟨⟨t⟩⟩ hr2 0 _ ⟨⟨s⟩⟩ rfl
  generalize Go.Lib.splitB ⟨⟨t⟩⟩ 0 (Go.Lib.countB ⟨⟨s⟩⟩ ⟨⟨t⟩⟩) ⟨⟨s⟩⟩=L at e1 e2⊢
  generalize Go.Lib.countB ⟨⟨s⟩⟩ ⟨⟨t⟩⟩=n at e2⊢
  have e3:(Go.Lib.split s t).length=n+1:=by rw[e1,List.length_map,e2]
  have e4:flat .str (Go.Lib.split s t)=L.map Value.string:=by rw[e1,ZLG,List.map_map];rfl
  rw[<-e3]
  have k:=ZB4 w (.cells (L.map Value.string).toArray 9)
  have hrow:=ZCw w (L.map Value.string).toArray 9
  have H:Fresh .str w (w.alloc (.cells (L.map Value.string).toArray 9)) (Go.Lib.split s t) (some ⟨w.heap.size,0,none⟩) (Go.Lib.split s t).length:=by
   refine⟨Nat.le_refl _,.inr ⟨_,0,_,rfl,Nat.le_refl _,hrow,?_,λi v hv=> ?_⟩⟩
   ·rw[e3];simp[e2,Ty.width]
   ·rw[e4]at hv
    rw[ZAs hrow,Nat.zero_add]
    simpa using hv
  obtain⟨q1,q2,q3,q4,q5⟩:=H.core hs hg k
  exact⟨_,_,rfl,q1,q2,q3,k,q5⟩
 ·cases hx
def cutF(a:Str×Str×Unit):Option (Str×Str×Bool×Unit):=if a.1.length<4294967281 then some ((Go.Lib.cut a.1 a.2.1).1,(Go.Lib.cut a.1 a.2.1).2.1,(Go.Lib.cut a.1 a.2.1).2.2,())else none
def r96:List SP:=[.one (.str),.one (.str),.one (.bool)]
abbrev T96:=Str×Str×Unit->Option (Str×Str×Bool×Unit)
abbrev N96(f:T96):=OKP 96 (mkE p41 r96 false f)
def F96:ZAL p41->Option (ZAL (muts p41++r96)):=cutF
theorem ok96:N96 F96:=by
 refine ZIo func96 (by kernel_rfl) (of_decide_eq_false (by kernel_rfl)) (λa=>rfl) (λa=>rfl) (λx=>⟨rfl,rfl⟩) λa x hx w F hg hs=> ?_
 unfold F96 cutF at hx
 split at hx
 ·rename_i hr
  cases hx
  obtain⟨m,hm⟩:=ZPK hg
  refine(strings_Cut ⟨⟨a.1⟩⟩ ⟨⟨a.2.1⟩⟩ m w (by simpa[ByteArray.size]using hr) hm).mono ?_
  rintro e w' ⟨rfl,n,rfl⟩
  exact⟨rfl,ZU2 w n⟩
 ·cases hx
abbrev T188:=Str×Str×Unit->Option (Int×Unit)
abbrev N188(f:T188):=OKP 188 (mkE p41 p269 false f)
def ZIs(a:Int×Unit):Option (Str×Unit):=if-9223372036854775808<=a.1/\a.1<=9223372036854775807 then some (Go.Lib.itoa a.1,())else none
def ZU3(w:World)(k:Nat)(os:Array Obj):Chg (λ_=>False) w (Go.Sort.grow (w.drewN k) os):=
 ⟨rfl,rfl,rfl,by simp[Go.Sort.grow,World.drewN],λb hb _=>by simp only[Go.Sort.grow,World.drewN];rw[Array.getElem?_append_left hb],DR.add _ _⟩
def ZU4{F:Nat->Prop}{w:World}(h:Glob F w):Go.Lib.TabIs prog w "internal/strconv.uint64pow10" .u64 Go.Lib.pow10Tab:=by
 obtain⟨_,cs,e,r,h1,h2⟩:=h (3,λcs=>cs=(Go.Lib.pow10Tab.map λz=>Value.int .u64 z).toArray) (by unfold GP;simp)
 have hg:prog.globalNamed "internal/strconv.uint64pow10" =some 3:=by kernel_rfl
 simp only at h1 h2
 unfold Go.Lib.TabIs World.var?
 rw[hg,al_bind_some,h1,h2]
abbrev N129(f:T78):=OKP 129 (mkE p269 p268 false f)
def F129:ZAL p269->Option (ZAL (muts p269++p268)):=ZIs
theorem ok129:N129 F129:=by
 refine ZIo func129 (by kernel_rfl) (of_decide_eq_false (by kernel_rfl)) (λa=>rfl) (λa=>rfl) (λx=>⟨rfl,rfl⟩) λa x hx w F hg hs=> ?_
 unfold F129 ZIs at hx
 split at hx
 ·rename_i hr
  cases hx
  refine(strconv_Itoa a.1 hr.1 hr.2 w (ZU4 hg)).mono ?_
  rintro e w' ⟨rfl,k,os,rfl⟩
  exact⟨rfl,ZU3 w k os⟩
 ·cases hx
def ZIt(a:Str×Str×Unit):Option (Str×Unit):=match a.2.1 with
 | [c]=>if c.toNat<128/\a.1.length<=9223372036854775807 then some (Go.Lib.trimRightB a.1 c,())else none
 | _=>none
def p58:List SP:=[.one (.str),.one (.str)]
def r58:List SP:=[.one (.str)]
abbrev T58:=Str×Str×Unit->Option (Str×Unit)
abbrev N58(f:T58):=OKP 58 (mkE p58 r58 false f)
def F58:ZAL p58->Option (ZAL (muts p58++r58)):=ZIt
theorem ok58:N58 F58:=by
 refine ZIo func58 (by kernel_rfl) (of_decide_eq_false (by kernel_rfl)) (λa=>rfl) (λa=>rfl) (λx=>⟨rfl,rfl⟩) λa x hx w F hg hs=> ?_
 obtain⟨s,t,u⟩:=a
 unfold F58 ZIt at hx
 split at hx
 ·rename_i c hc
  simp only at hc
  subst hc
  split at hx
  ·rename_i hr
   cases hx
   refine(strings_TrimRight_one ⟨⟨s⟩⟩ c hr.1 w (by simpa[ByteArray.size]using hr.2)).mono ?_
   rintro e w' ⟨rfl,rfl⟩
   exact⟨rfl,Chg.refl _ _⟩
  ·cases hx
 ·cases hx
abbrev N102(f:T167):=OKP 102 (mkE p266 r167 false f)
abbrev N103(f:T244):=OKP 103 (mkE p265 r167 false f)
abbrev N105(f:T322):=OKP 105 (mkE p322 r322 false f)
def ZIu(a:List Str×Str×Unit):Option (Str×Unit):=if a.1.length<=140737488355328/\(Go.Lib.join a.1 a.2.1).length<=140737488355328 then some (Go.Lib.join a.1 a.2.1,())else none
def p40:List SP:=[.one (.r .str),.one (.str)]
def r40:List SP:=[.one (.str)]
abbrev T40:=List Str×Str×Unit->Option (Str×Unit)
abbrev N40(f:T40):=OKP 40 (mkE p40 r40 false f)
def F40:ZAL p40->Option (ZAL (muts p40++r40)):=ZIu
theorem ok40:N40 F40:=by
 refine ZGD func40 (by kernel_rfl) (of_decide_eq_false (by kernel_rfl)) (λa=>rfl) λa x hx w F hg hs ca hsz hv=> ?_
 obtain⟨l,t,u⟩:=a
 unfold F40 ZIu at hx
 split at hx
 ·rename_i hr
  cases hx
  obtain⟨c1,hc1,r1⟩:=hv 0 _ rfl
  obtain⟨c2,hc2,r2⟩:=hv 1 _ rfl
  have hsz2:ca.size=2:=hsz
  obtain rfl:ca= #[c1,c2]:=by
   apply Array.ext_getElem?
   intro i
   match i with
   | 0=>simpa using hc1
   | 1=>simpa using hc2
   | i+2=>rw[Array.getElem?_eq_none (by omega),Array.getElem?_eq_none (by simp)]
  cases (show c2= .string ⟨⟨t⟩⟩from r2)
  obtain⟨a,cap,rfl,hl,h⟩:=(show RelB (λ_=>none) F w (.lst .str l) c1 from r1)
  by_cases h0:l=[]
  ·subst h0
   refine(strings_Join_none a cap ⟨⟨t⟩⟩ w).mono ?_
   rintro e w' ⟨rfl,rfl⟩
   exact⟨_,λ_=>none,rfl,ZLD hs hg (ZHO (Go.RowKit.Below.refl _ _)),λid l h=>(by cases h),rfl,ZHO (Go.RowKit.Below.refl _ _),λb hb=>(no_M b hb).elim⟩
  ·rcases h with h | ⟨b,o,rfl,hb,hat⟩
   ·exact absurd h h0
   ·have em:(l.map λs=>(⟨⟨s⟩⟩:ByteArray)).map (·.data.toList)=l:=by rw[List.map_map];exact List.map_id' l
    have:=strings_Join b o cap (l.map λs=>⟨⟨s⟩⟩) ⟨⟨t⟩⟩ w (λj x hx=>hat j _ (by
     rw[ZLG]
     rw[List.getElem?_map]at hx⊢
     obtain⟨s,e1,rfl⟩:=Option.map_eq_some_iff.mp hx
     rw[e1];rfl)) (hs b hb) (by rw[List.length_map];exact hr.1) (by rw[List.length_map];exact hl) (by rw[em];exact hr.2)
    rw[em,List.length_map]at this
    refine this.mono ?_
    rintro e w' ⟨rfl,hb⟩
    exact⟨_,λ_=>none,rfl,ZLD hs hg (ZHO hb),λid l h=>(by cases h),rfl,ZHO hb,λb hb=>(no_M b hb).elim⟩
 ·cases hx
end Ev
end
