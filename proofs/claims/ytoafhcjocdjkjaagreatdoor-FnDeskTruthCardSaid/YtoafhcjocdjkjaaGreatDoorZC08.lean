/- Laid together by program (what the claim does not reach is left out): Last2, Last3, Last4, Last5, Last6, Fn3, Abb. -/
import Derived.Test.YtoafhcjocdjkjaaGreatDoorZC07
set_option linter.all false
set_option maxRecDepth 1000000
open Go.Proofs.Tryz
noncomputable section
namespace Ev
open Go Go.Proofs Go.RowKit Go.Lib
set_option maxHeartbeats 8000000 in
def ZVb(r:Nat)(h:128<=r)(hv:Lib.validRune (r:Int)=true)(hne:r≠65533)(L:ByteArray)(h3:3<=L.size)(h4:L.size<=4)(w:World)(hcv: ∀w,(convert 21 9 (.int .i32 (r:Int))).run prog w= .ok (.string L) w):Calls prog 277 #[.string ⟨#[43,45]⟩,.int .i32 r] w λe w'=>e= .returned (.int .i64 (-1))/\Below w.heap.size w w':=by
 have mixed:prog.follows .mixedOrders=true:=by kernel_rfl
 have c1: ¬((r:Int)<128):=by omega
 have c2: ¬((r:Int)=65533):=by omega
 have c2':((r:Int)==65533)=false:=beq_eq_false_iff_ne.2 c2
 have c3: ¬((L.size:Int) -1<2):=by omega
 have c4:decide ((L.size:Int) -1<2)=false:=ZAE c3
 go_enter func277,ntmps277
 go_wp2_with (first | (go_at_call 338;refine(utf8_ValidRune _ _).mono ?_;rintro e w' ⟨rfl,hw⟩;rw[hw,hv]) | fail)
 refine wp_scope_straight ?_
 go_wp2
 refine wp_loop_rounds 1 ?_
 rw[rounds_succ]
 go_wp2
 try simp only[Exit.noGoto,Exit.inBlock,Exit.then]
 go_ret
 exact⟨rfl,Below.refl _ _⟩
def ZLR(r:Nat)(hr:r<128\/(128<=r/\Lib.validRune (r:Int)=true))(w:World):Calls prog 277 #[.string ⟨#[43,45]⟩,.int .i32 r] w λe w'=> ∃z:Int,e= .returned (.int .i64 z)/\decide (0<=z)=(decide (r<128) && isPM r.toUInt8)/\Below w.heap.size w w':=by
 rcases hr with hr | ⟨hr,hv⟩
 ·refine(strings_IndexRune_ascii ⟨#[43,45]⟩ r w (by omega) (by omega)).mono ?_
  rintro e w' ⟨rfl,rfl⟩
  refine⟨_,rfl,?_,Below.refl _ _⟩
  rw[ZAH hr,Bool.true_and]
  exact ZVT _
 ·have hd:(decide (r<128) && isPM r.toUInt8)=decide (0<=(-1:Int)):=by rw[ZAE (by omega: ¬r<128)];rfl
  have fin: ∀ {e:Ending} {w':World},(e= .returned (.int .i64 (-1))/\Below w.heap.size w w')-> ∃z:Int,e= .returned (.int .i64 z)/\decide (0<=z)=(decide (r<128) && isPM r.toUInt8)/\Below w.heap.size w w':=
   λ⟨h1,h2⟩=>⟨-1,h1,hd.symm,h2⟩
  by_cases he:r=65533
  ·subst he
   exact(ZVY w).mono λe w' h=>fin h
  ·have hv':Utf8.valid (r:Int)=true:=by
    unfold Lib.validRune at hv
    unfold Utf8.valid
    simp at hv⊢
    omega
   obtain⟨h2,h4,hb⟩:=encode_facts (r:Int) hv' (by omega)
   have hcv:=λw=>run_convert_int_string (P:=prog) w 21 9 .i32 (r:Int) (by kernel_rfl) underlying9
   generalize Utf8.encode (r:Int)=L at h2 h4 hb hcv
   by_cases h3:3<=L.size
   ·exact(ZVb r hr hv he L h3 h4 w hcv).mono λe w' h=>fin h
   ·obtain⟨y,x,rfl⟩:=ZVZ (L:=L) (by omega)
    exact(ZVa r hr hv he y x (hb (show 2-1<2 by decide)) w hcv).mono λe w' h=>fin h
end Ev
end
noncomputable section
namespace Ev
open Go Go.Proofs Go.RowKit Go.Lib
def ZVc(b:UInt8):isPM b.toNat.toUInt8=isPM b:=by simp
set_option maxHeartbeats 400000 in
def ZVd(b:UInt8)(w:World)(hb:b.toNat<128):Calls prog 188 #[.string ⟨#[b]⟩,.string ⟨#[43,45]⟩] w λe w'=>e= .returned (.int .i64 (ZAV [b]))/\Below w.heap.size w w':=by
 have mixed:prog.follows .mixedOrders=true:=by kernel_rfl
 have hl:ZAV [b]=if isPM b=true then 0 else-1:=rfl
 have c1: ¬((128:Int)<=(((⟨#[b]⟩:ByteArray)[0]'(show 0<1 by decide)).toNat:Int)):=by
   show¬((128:Int)<=(b.toNat:Int))
   omega
 go_enter func188,ntmps188
 go_wp2_with fail
 have key: ∀(z:Int),decide (0<=z)=isPM b->ZAV [b]=if 0<=z then 0 else-1:=by
  intro z hz
  rw[hl,<-hz]
  by_cases h:0<=z<;>simp[h]
 refine(ZLR b.toNat (.inl hb) w).mono ?_
 rintro e w1 ⟨z,rfl,hz,hB⟩
 rw[ZAH hb,Bool.true_and,ZVc]at hz
 have hk:=key z hz
 clear key hz hl
 simp only
 by_cases h0:0<=z
 ·rw[al_if_pos h0]at hk
  have HK:=(show Hid _ from hk)
  clear hk
  have HB:=(show Hid _ from hB)
  clear hB
  have h0':decide (0<=z)=true:=ZAH h0
  go_wp2
  go_ret
  exact⟨by rw[HK.out];rfl,HB.out⟩
 ·rw[al_if_neg h0]at hk
  have HK:=(show Hid _ from hk)
  clear hk
  have HB:=(show Hid _ from hB)
  clear hB
  have h0':decide (0<=z)=false:=ZAE h0
  go_wp2
  go_ret
  exact⟨by rw[HK.out];rfl,HB.out⟩
set_option maxHeartbeats 400000 in
def ZVe(b:UInt8)(w:World)(hb: ¬b.toNat<128):Calls prog 188 #[.string ⟨#[b]⟩,.string ⟨#[43,45]⟩] w λe w'=>e= .returned (.int .i64 (ZAV [b]))/\Below w.heap.size w w':=by
 have mixed:prog.follows .mixedOrders=true:=by kernel_rfl
 have hl:ZAV [b]= -1:=by
  show(if isPM b=true then(0:Int)else-1)= -1
  rw[ZPc (by omega)];rfl
 have c1:(128:Int)<=(((⟨#[b]⟩:ByteArray)[0]'(show 0<1 by decide)).toNat:Int):=by
   show(128:Int)<=(b.toNat:Int)
   omega
 have c2:(((⟨#[b]⟩:ByteArray)[0]'(show 0<1 by decide)).toNat:Int)<256:=by
   show(b.toNat:Int)<256
   have:=b.toNat_lt
   omega
 have HL:=(show Hid _ from hl)
 clear hl
 go_enter func188,ntmps188
 go_wp2_with fail
 refine(ZLR 65533 (.inr ⟨by decide,by decide⟩) w).mono ?_
 rintro e w1 ⟨z,rfl,hz,hB⟩
 have h0: ¬(0<=z):=of_decide_eq_false hz
 clear hz
 simp only
 have HB:=(show Hid _ from hB)
 clear hB
 have h0':decide (0<=z)=false:=ZAE h0
 go_wp2
 go_ret
 exact⟨by rw[HL.out];rfl,HB.out⟩
def ZVf(b:UInt8)(w:World):Calls prog 188 #[.string ⟨#[b]⟩,.string ⟨#[43,45]⟩] w λe w'=>e= .returned (.int .i64 (ZAV [b]))/\Below w.heap.size w w':=by
 by_cases hb:b.toNat<128
 ·exact ZVd b w hb
 ·exact ZVe b w hb
end Ev
end
noncomputable section
namespace Ev
open Go Go.Proofs Go.RowKit Go.Lib
def ZVg(x:UInt8):([43,45]:List UInt8).contains x=isPM x:=by
 unfold isPM
 simp only[List.contains_cons,List.contains_nil,Bool.or_false]
set_option maxHeartbeats 800000 in
def ZVh(s:ByteArray)(w:World)(h8:8<s.size)(hs:s.size<4294967281):Calls prog 188 #[.string s,.string ⟨#[43,45]⟩] w λe w'=>e= .returned (.int .i64 (ZAV s.data.toList))/\Below w.heap.size w w':=by
 have mixed:prog.follows .mixedOrders=true:=by kernel_rfl
 have hn1:((s.size:Int)==1)=false:=beq_eq_false_iff_ne.2 (by omega)
 have hn1': ¬((s.size:Int)=1):=by omega
 have h8z:decide ((8:Int)<(s.size:Int))=true:=ZAH (by omega)
 go_enter func188,ntmps188
 go_wp2_with fail
 refine(strings_shouldUseASCIISet _ _).mono ?_
 rintro e w' ⟨rfl,hw⟩
 rw[hw,h8z]
 clear hw
 simp only
 go_wp2_with fail
 have hv192: ∀w,(zeroValue 192).run prog w= .ok (.agg (Array.replicate 256 (.bool false))) w:=λw=>zeroValue192 w
 refine(strings_makeASCIISet hv192 ⟨#[43,45]⟩ w (by decide) (by
  intro j b hj
  match j,hj with
  | 0,hj=>cases hj;decide
  | 1,hj=>cases hj;decide
  | j+2,hj=>simp at hj)).mono ?_
 rintro e w' ⟨rfl,hw⟩
 rw[hw]
 clear hw
 simp only
 have hi116:(prog.info? 192).map (·.size)=some 256:=by kernel_rfl
 have hsz:=Lib.setCells_size [43,45]
 have hsc:(storeCells ⟨w.heap.size+1,0,none⟩ (Lib.setCells [43,45]).toList 0).run prog ((w.alloc (.cells (Lib.setCells [43,45]) 192)).alloc (.cells (Array.replicate 256 (.bool false)) 192))= .ok () ((w.alloc (.cells (Lib.setCells [43,45]) 192)).alloc (.cells (Lib.setCells [43,45]) 192)):=by
  have:=run_storeCells_new (P:=prog) (w.alloc (.cells (Lib.setCells [43,45]) 192)) 192 (Array.replicate 256 (.bool false)) (Lib.setCells [43,45]) (by rw[Lib.setCells_size];exact hi116) (by rw[Lib.setCells_size,Array.size_replicate]) (Lib.setCells_one _)
  simpa using this
 go_wp2_with fail
 have hcellAt: ∀x:UInt8,((w.alloc (.cells (Lib.setCells [43,45]) 192)).alloc (.cells (Lib.setCells [43,45]) 192)).cell? ⟨w.heap.size+1,x.toNat,none⟩=some (.bool (([43,45]:List UInt8).contains x)):=λx=>by
  rw[World.cell?_alloc_at _ _ _ _ (by simp),Lib.setCells_at]
 have HC:=(show Hid _ from hcellAt)
 clear hcellAt hsc
 go_loopg [8] s.size (λg s8 wx=>g<=s.size/\s8= .int .i64 ((g:Int) -1)/\wx=((w.alloc (.cells (Lib.setCells [43,45]) 192)).alloc (.cells (Lib.setCells [43,45]) 192))/\Hid (ZAV s.data.toList=ZAV (s.data.toList.take g)))
 case atStart=>exact⟨Nat.le_refl _,rfl,rfl,by unfold Hid;rw[List.take_of_length_le (Nat.le_of_eq (Lib.size_eq s).symm)]⟩
 case round=>
  obtain⟨hle,rfl,rfl,hL⟩:=hrel
  cases gk with
  | zero=>
   go_wp2
   go_ret
   exact⟨by rw[hL.out];rfl,((Below.refl _ _).alloc (Nat.le_refl _) _).alloc (by simp) _⟩
  | succ g=>
   have hi:g<s.size:=by omega
   have hg:((g+1:Nat):Int) -1=(g:Int):=by omega
   rw[hg]
   have hgz:(g:Int)<(s.size:Int):=by omega
   have hx:s.data.toList[g]?=some (s[g]'hi):=Lib.data_getElem? s g hi
   have hcx:=HC.out (s[g]'hi)
   have hpm:([43,45]:List UInt8).contains (s[g]'hi)=isPM (s[g]'hi):=ZVg _
   have hst:Hid (ZAV s.data.toList=if isPM (s[g]'hi)=true then(g:Int)else ZAV (s.data.toList.take g)):=by
    show ZAV s.data.toList=_
    rw[hL.out,List.take_add_one,hx]
    show ZAV (s.data.toList.take g++[s[g]'hi])=_
    rw[ZIw,al_len_take,<-Lib.size_eq,Nat.min_eq_left (Nat.le_of_lt hi)]
   rw[hpm]at hcx
   clear hL hpm hx
   cases hb:isPM (s[g]'hi)
   ·rw[hb]at hcx
    have hr:Hid (ZAV s.data.toList=ZAV (s.data.toList.take g)):=by
     show ZAV s.data.toList=_
     rw[hst.out,al_if_neg (by rw[hb];simp)]
    clear hb hst
    go_wp2_with (go_at_call 222;refine(asciiSet_contains _ (s[g]'hi) _ _ hcx).mono ?_;rintro e w' ⟨rfl,hw⟩;rw[hw])
    go_roundg g
    case measure=>omega
    case rel=>exact⟨by omega,rfl,rfl,hr⟩
   ·rw[hb]at hcx
    have hr:Hid (ZAV s.data.toList=(g:Int)):=by
     show ZAV s.data.toList=_
     rw[hst.out,al_if_pos hb]
    clear hb hst
    go_wp2_with (go_at_call 222;refine(asciiSet_contains _ (s[g]'hi) _ _ hcx).mono ?_;rintro e w' ⟨rfl,hw⟩;rw[hw])
    go_ret
    exact⟨by rw[hr.out];rfl,((Below.refl _ _).alloc (Nat.le_refl _) _).alloc (by simp) _⟩
end Ev
end
noncomputable section
namespace Ev
open Go Go.Proofs Go.RowKit Go.Lib
def ZVi{w w':World}(h:Lib.Utf8Tabs 1 2 w)(k:Below w.heap.size w w'):Lib.Utf8Tabs 1 2 w':=by
 have keep: ∀b o v,w.cell? ⟨b,o,none⟩=some v->w'.cell? ⟨b,o,none⟩=some v:=by
  intro b o v hv
  have hb:b<w.heap.size:=by
   unfold World.cell? at hv
   rcases Nat.lt_or_ge b w.heap.size with hb | hb
   ·exact hb
   ·rw[Array.getElem?_eq_none hb]at hv;cases hv
  rw[<-hv]
  unfold World.cell?
  rw[k.block b hb]
 exact⟨λc hc=>keep _ _ _ (h.1 c hc),λi hi=>⟨keep _ _ _ (h.2 i hi).1,keep _ _ _ (h.2 i hi).2⟩⟩
def ZPe{w w1 w2:World}(h:Below w.heap.size w w1)(k:Below w1.heap.size w1 w2):Below w.heap.size w w2:=
 ⟨k.os.trans h.os,k.tape.trans h.tape,k.output.trans h.output,Nat.le_trans h.size k.size,λb hb=>(k.block b (Nat.lt_of_lt_of_le hb h.size)).trans (h.block b hb)⟩
set_option maxHeartbeats 400000 in
def ZVj(s:ByteArray)(w:World)(h1:s.size≠1)(h8:s.size<=8)(hT:Lib.Utf8Tabs 1 2 w):Calls prog 188 #[.string s,.string ⟨#[43,45]⟩] w λe w'=>e= .returned (.int .i64 (ZAV s.data.toList))/\Below w.heap.size w w':=by
 have mixed:prog.follows .mixedOrders=true:=by kernel_rfl
 have hn1:((s.size:Int)==1)=false:=beq_eq_false_iff_ne.2 (by omega)
 have hn1': ¬((s.size:Int)=1):=by omega
 have h8z:decide ((8:Int)<(s.size:Int))=false:=ZAE (by omega)
 have HT:=(show Hid _ from hT)
 clear hT
 go_enter func188,ntmps188
 go_wp2_with fail
 refine(strings_shouldUseASCIISet _ _).mono ?_
 rintro e w' ⟨rfl,hw⟩
 rw[hw,h8z]
 clear hw
 simp only
 go_wp2
 go_loopg [13,14,15] s.size (λg s13 _ _ wx=>g<=s.size/\s13= .int .i64 g/\Hid (Below w.heap.size w wx)/\Hid (ZAV s.data.toList=ZAV (s.data.toList.take g)))
 case atStart=>exact⟨Nat.le_refl _,rfl,Below.refl _ _,by unfold Hid;rw[List.take_of_length_le (Nat.le_of_eq (Lib.size_eq s).symm)]⟩
 case round=>
  obtain⟨hle,rfl,hB,hL⟩:=hrel
  cases gk with
  | zero=>
   go_wp2
   go_ret
   exact⟨by rw[hL.out];rfl,hB.out⟩
  | succ g=>
   go_wp2_with fail
   have hd:(s.extract 0 (g+1)).data.toList=s.data.toList.take (g+1):=Lib.extract_from_zero s (g+1)
   have hlen:(s.data.toList.take (g+1)).length=g+1:=by rw[al_len_take,<-Lib.size_eq];omega
   have hne:s.data.toList.take (g+1)≠[]:=by intro e;rw[e]at hlen;simp at hlen
   have hD:=utf8_DecodeLastRuneInString (s.extract 0 (g+1)) wr (by rw[Lib.size_eq,hd,hlen];omega) (ZVi HT.out hB.out)
   rw[hd]at hD
   obtain⟨⟨a1,a2⟩,hst⟩:=ZVX _ hne
   rw[hlen]at a2 hst
   have hR:(decodeLastL (s.data.toList.take (g+1))).1<128\/(128<=(decodeLastL (s.data.toList.take (g+1))).1/\Lib.validRune ((decodeLastL (s.data.toList.take (g+1))).1:Int)=true):=by
    rcases hst with h | h
    ·exact .inl h.1
    ·exact .inr ⟨h.1,h.2.1⟩
   have HS:=(show Hid _ from hst)
   have HL2:=hL
   clear hst hL hd hlen hne
   generalize decodeLastL (s.data.toList.take (g+1))=d at a1 a2 hR HS hD
   obtain⟨r,k⟩:=d
   simp only at a1 a2 hR hD
   refine hD.mono ?_
   rintro e w2 ⟨rfl,hB2⟩
   have HB2:=(show Hid _ from ZPe hB.out hB2)
   have HR:=(show Hid _ from hR)
   clear hB hB2 hR hD
   simp only
   have b1:(k:Int)<=(g:Int)+1:=by omega
   have b2:(1:Int)<=(k:Int):=by omega
   go_wp2_with fail
   refine(ZLR r HR.out w2).mono ?_
   rintro e w3 ⟨z,rfl,hz,hB3⟩
   have HB3:=(show Hid _ from ZPe HB2.out hB3)
   have HZ:=(show Hid _ from hz)
   clear hB3 hz
   simp only
   by_cases h0:0<=z
   ·have hres:Hid (ZAV s.data.toList=(g:Int)+1-(k:Int)):=by
     show ZAV s.data.toList=(g:Int)+1-(k:Int)
     have hz:=HZ.out
     rw[ZAH h0]at hz
     have hz':=Bool.and_eq_true_iff.mp hz.symm
     rcases HS.out with ⟨_,e1,e2⟩ | ⟨e1,_⟩
     ·rw[HL2.out,e2,al_if_pos hz'.2,e1]
      omega
     ·have:=of_decide_eq_true hz'.1
      omega
    have h0':decide (0<=z)=true:=ZAH h0
    go_wp2
    go_ret
    exact⟨by rw[hres.out];rfl,HB3.out⟩
   ·have hres:Hid (ZAV s.data.toList=ZAV (s.data.toList.take (g+1-k))):=by
     show ZAV s.data.toList=ZAV (s.data.toList.take (g+1-k))
     have hz:=HZ.out
     rw[ZAE h0]at hz
     rcases HS.out with ⟨e0,e1,e2⟩ | ⟨e1,_,e2⟩
     ·have hp: ¬isPM r.toUInt8=true:=by
       intro hp
       rw[ZAH e0,hp]at hz
       cases hz
      rw[HL2.out,e2,al_if_neg hp,List.take_take,e1]
      congr 2
      omega
     ·rw[HL2.out,e2,List.take_take]
      congr 2
      omega
    have h0':decide (0<=z)=false:=ZAE h0
    go_wp2
    go_roundg (g+1-k)
    case measure=>omega
    case rel=>exact⟨by omega,by congr 1;omega,HB3,hres⟩
end Ev
end
noncomputable section
namespace Ev
open Go Go.Proofs Go.RowKit
def ZVk{F:Nat->Prop}{w:World}(h:Glob F w):Lib.Utf8Tabs 1 2 w:=by
 refine⟨λc hc=> ?_,λi hi=> ?_⟩
 ·obtain⟨_,cs,e,r,h1,h2⟩:=h (1,λcs=> ∀c,c<256->cs[c]?=some (.int .u8 (Go.Lib.firstT c))) (by unfold GP;simp)
  simp only at h1 h2
  unfold World.cell?
  rw[h1]
  exact h2 c hc
 ·obtain⟨_,cs,e,r,h1,h2⟩:=h (2,λcs=> ∀i,i<16->cs[2*i]?=some (.int .u8 (Go.Lib.accLo i))/\cs[2*i+1]?=some (.int .u8 (Go.Lib.accHi i))) (by unfold GP;simp)
  simp only at h1 h2
  unfold World.cell?
  rw[h1]
  exact h2 i hi
def ZVl(s:ByteArray)(w:World)(hs:s.size<4294967281)(hT:Lib.Utf8Tabs 1 2 w):Calls prog 188 #[.string s,.string ⟨#[43,45]⟩] w λe w'=>e= .returned (.int .i64 (ZAV s.data.toList))/\Below w.heap.size w w':=by
 by_cases h8:8<s.size
 ·exact ZVh s w h8 hs
 ·by_cases h1:s.size=1
  ·obtain⟨⟨l⟩⟩:=s
   match l,h1 with
   | [b],_=>exact ZVf b w
   | [],h1=>simp[ByteArray.size]at h1
   | _::_::_,h1=>simp[ByteArray.size]at h1
  ·exact ZVj s w h1 (by omega) hT
def ZIx(a:Str×Str×Unit):Option (Int×Unit):=if a.2.1=[43,45]/\a.1.length<4294967281 then some (ZAV a.1,())else none
def G188:T188:=ZIx
theorem okG188:N188 G188:=by
 refine ZIo func188 (by kernel_rfl) (of_decide_eq_false (by kernel_rfl)) (λa=>rfl) (λa=>rfl) (λx=>⟨rfl,rfl⟩) λa x hx w F hg hs=> ?_
 obtain⟨s,t,u⟩:=a
 unfold G188 ZIx at hx
 split at hx
 ·rename_i hr
  obtain⟨ht,hl⟩:=hr
  simp only at ht hl
  subst ht
  cases hx
  refine(ZVl ⟨⟨s⟩⟩ w (by simpa[ByteArray.size]using hl) (ZVk hg)).mono ?_
  rintro e w' ⟨rfl,k⟩
  exact⟨rfl,ZHO k⟩
 ·cases hx
end Ev
end
noncomputable section
namespace Ev
open Go
def Zau:ZBW prog tab:=ZIl (by kernel_rfl) (by kernel_rfl)
def p42:List SP:=[]
def r42:List SP:=[.agg [.o 0 .device,.o 1 .cue,.o 2 .gust,.int .i64,.o 3 .place,.int .i64,.int .i64,.int .i64,.int .i64]]
abbrev T42:=Unit->Option (DkD×Unit)
abbrev N42(f:T42):=OKP 42 (mkE p42 r42 false f)
def F42:T42:=λa=>
 some (([],[],[],0,([(⟨0,0⟩:Place)]:List Place),0,0,0,0,()),())
theorem ok42:N42 (F42):=fk0 .nil func42
def p39:List SP:=[]
def r39:List SP:=[.agg [.o 0 .device,.o 1 .cue,.o 2 .gust,.int .i64,.o 3 .place,.int .i64,.int .i64,.int .i64,.int .i64]]
abbrev T39:=Unit->Option (DkD×Unit)
abbrev N39(f:T39):=OKP 39 (mkE p39 r39 false f)
def F39:T39:=λa=>
 some (([],[],[],0,([(⟨0,0⟩:Place)]:List Place),0,0,0,0,()),())
theorem ok39:N39 (F39):=fk0 .nil func39
def p11:List SP:=[.one (.str)]
def r11:List SP:=[.one (.o 0 .str)]
abbrev T11:=Str×Unit->Option (List Str×Unit)
abbrev N11(f:T11):=OKP 11 (mkE p11 r11 false f)
def q11_0:List SP:=pat 40 0 [(3,.one (.o 5000001 .str)),(5,.box 5000002 [.o 5000003 .device,.o 5000004 .cue,.o 5000005 .gust,.int .i64,.o 5000006 .place,.int .i64,.int .i64,.int .i64,.int .i64]),(22,.one (.o 5000007 .str)),(23,.one (.int .i64)),(24,.one (.int .i64))]
def s11_0(b:T10)(c:T39)(d:T18):Lp (List Str×DkD×List Str×Int×Int×Unit) (List Str×Unit):=λt3 rec K=>
 cond (t3.2.2.2.2.1<t3.2.2.2.1) (rdL t3.2.2.1 t3.2.2.2.2.1 λ_=>(t3.2.2.1[(Int.toNat t3.2.2.2.2.1)]?).bind λx1=>(d (t3.2.1,x1,())).bind λx2=>capK (t3.1.length+List.length ([x2.2.1]:List Str)) (rec ((t3.1++([x2.2.1]:List Str)),x2.1,t3.2.2.1,t3.2.2.2.1,(w64 (t3.2.2.2.2.1+1)),()))) (K t3)
def F11(b:T10)(c:T39)(d:T18):T11:=λa=>
 (b (a.1,[10],())).bind λx1=>cond (!((Int.ofNat a.1.length)>4000)) (cond ((Int.ofNat x1.1.length)>40) (some (([]:List Str),())) ((c (())).bind λx2=>ZAD (s11_0 b c d) fuel (([]:List Str),x2.1,x1.1,(Int.ofNat x1.1.length),0,()) λx3=>some (x3.1,()))) (some (([]:List Str),()))
theorem ok11{d e g} :N10 d->N39 e->N18 g->N11 (F11 d e g):=λa b c=>fk1 p11 r11 q11_0 (s11_0 d e g) (oks3 a b c) func11
def p8:List SP:=[.one (.r .u8)]
def r8:List SP:=[.one (.bool)]
abbrev T8:=List Int×Unit->Option (Bool×Unit)
abbrev N8(f:T8):=OKP 8 (mkE p8 r8 false f)
def F8:T8:=λa=>
 some ((decide ((Int.ofNat a.1.length)>4096)),())
theorem ok8:N8 (F8):=fk0 .nil func8
def p33:List SP:=[.one (.r .u8)]
def r33:List SP:=[.box 0 [.r .u8,.int .i64,.int .i64]]
abbrev T33:=List Int×Unit->Option (CuD×Unit)
abbrev N33(f:T33):=OKP 33 (mkE p33 r33 true f)
def q33_0:List SP:=pat 33 0 [(0,.one (.r .u8)),(3,.one (.int .i64)),(4,.one (.int .i64))]
def s33_0:Lp (List Int×Int×Int×Unit) (CuD×Unit):=λt1 rec K=>
 cond (t1.2.2.1<(Int.ofNat t1.1.length)) (cond (t1.2.2.1<4000) (rdL t1.1 t1.2.2.1 λx1=>rec (t1.1,(ZCZ .and .i64 (w64 ((w64 ((w64 (t1.2.1*167))+(w64 x1)))+29)) 1073741823),(w64 (t1.2.2.1+1)),())) (K t1)) (K t1)
def F33:T33:=λa=>
 ZAD (s33_0) fuel (a.1,(w64 (620033+(w64 (3*(Int.ofNat a.1.length))))),0,()) λx1=>some ((x1.1,0,x1.2.1,()),())
theorem ok33:N33 (F33):=fk1 p33 r33 q33_0 s33_0 .nil func33
abbrev T170:=CuD×Unit->Option (CuD×Int×Unit)
abbrev N170(f:T170):=OKP 170 (mkE r33 p269 true f)
def F170:T170:=λa=>
 cond (a.1.2.1<(Int.ofNat a.1.1.length)) (rdL a.1.1 a.1.2.1 λx1=>some ((a.1.1,(w64 (a.1.2.1+1)),(w64 ((w64 (a.1.2.2.1*6364136223846793005))+1442695040888963407)),()),(ZCZ .and .i64 (w64 ((ZCZ .and .i64 (ZCZ .xor .i64 (ZFo .i64 (w64 ((w64 (a.1.2.2.1*6364136223846793005))+1442695040888963407)) 35) (ZFo .i64 (w64 ((w64 (a.1.2.2.1*6364136223846793005))+1442695040888963407)) 45)) 255)+(w64 x1))) 255),())) (some ((a.1.1,a.1.2.1,(w64 ((w64 (a.1.2.2.1*6364136223846793005))+1442695040888963407)),()),(ZCZ .and .i64 (ZCZ .xor .i64 (ZFo .i64 (w64 ((w64 (a.1.2.2.1*6364136223846793005))+1442695040888963407)) 35) (ZFo .i64 (w64 ((w64 (a.1.2.2.1*6364136223846793005))+1442695040888963407)) 45)) 255),()))
theorem ok170:N170 (F170):=fk0 .nil func170
def p79:List SP:=[.box 0 [.r .u8,.int .i64,.int .i64],.one (.int .i64)]
abbrev T79:=CuD×Int×Unit->Option (CuD×Int×Unit)
abbrev N79(f:T79):=OKP 79 (mkE p79 p269 true f)
def F79(b:T170):T79:=λa=>
 cond (a.2.1<=0) (some (a.1,0,())) (cond (a.2.1<=256) ((b (a.1,())).bind λx1=>cond (a.2.1=0) none (some (x1.1,(Int.tmod x1.2.1 a.2.1),()))) ((b (a.1,())).bind λx1=>(b (x1.1,())).bind λx2=>(b (x2.1,())).bind λx3=>cond (a.2.1=0) none (some (x3.1,(Int.tmod (w64 ((w64 ((w64 (x1.2.1*65536))+(w64 (x2.2.1*256))))+x3.2.1)) a.2.1),()))))
theorem ok79{b} :N170 b->N79 (F79 b):=λa=>fk0 (.cons a .nil) func79
def p90:List SP:=[.box 0 [.r .u8,.int .i64,.int .i64],.one (.r .str)]
abbrev T90:=CuD×List Str×Unit->Option (CuD×Str×Unit)
abbrev N90(f:T90):=OKP 90 (mkE p90 p268 true f)
def F90(b:T79):T90:=λa=>
 (b (a.1,(Int.ofNat a.2.1.length),())).bind λx1=>rdL a.2.1 x1.2.1 λx2=>some (x1.1,x2,())
theorem ok90{b} :N79 b->N90 (F90 b):=λa=>fk0 (.cons a .nil) func90
def p182:List SP:=[.box 0 [.r .u8,.int .i64,.int .i64],.one (.int .i64),.one (.int .i64)]
abbrev T182:=CuD×Int×Int×Unit->Option (CuD×Int×Unit)
abbrev N182(f:T182):=OKP 182 (mkE p182 p269 true f)
def F182(b:T79):T182:=λa=>
 (b (a.1,(w64 ((w64 (a.2.2.1-a.2.1))+1)),())).bind λx1=>some (x1.1,(w64 (a.2.1+x1.2.1)),())
theorem ok182{b} :N79 b->N182 (F182 b):=λa=>fk0 (.cons a .nil) func182
abbrev T92:=CuD×Unit->Option (CuD×Place×Unit)
abbrev N92(f:T92):=OKP 92 (mkE r33 p181 true f)
def F92(b:T182):T92:=λa=>
 (b (a.1,(-64),64,())).bind λx1=>(b (x1.1,(-64),64,())).bind λx2=>some (x2.1,(⟨x1.2.1,x2.2.1⟩:Place),())
theorem ok92{b} :N182 b->N92 (F92 b):=λa=>fk0 (.cons a .nil) func92
abbrev T267:=CuD×Unit->Option (CuD×Jet×Unit)
abbrev N267(f:T267):=OKP 267 (mkE r33 p331 true f)
def F267(b:T92)(c:T79)(d:T182):T267:=λa=>
 (b (a.1,())).bind λx1=>(c (x1.1,4,())).bind λx2=>(c (x2.1,17,())).bind λx3=>(d (x3.1,1,32,())).bind λx4=>some (x4.1,(⟨⟨x1.2.1.X,x1.2.1.Y⟩,x2.2.1,x3.2.1,x4.2.1⟩:Jet),())
theorem ok267{d e g} :N92 d->N79 e->N182 g->N267 (F267 d e g):=λa b c=>fk0 (oks3 a b c) func267
def p168:List SP:=[.box 0 [.r .u8,.int .i64,.int .i64],.one (.str),.one (.str)]
abbrev T168:=CuD×Str×Str×Unit->Option (CuD×Device×Unit)
abbrev N168(f:T168):=OKP 168 (mkE p168 p270 true f)
def F168(b:T267)(c:T182):T168:=λa=>
 (b (a.1,())).bind λx1=>(c (x1.1,0,32,())).bind λx2=>some (x2.1,(⟨a.2.1,2,a.2.2.1,⟨x1.2.1.At.X,x1.2.1.At.Y⟩,x1.2.1.Heading,x1.2.1.Tilt,x2.2.1⟩:Device),())
theorem ok168{c d} :N267 c->N182 d->N168 (F168 c d):=λa b=>fka0 (ann:=λn=>Nat.beq n 1200000 || Nat.beq n 1299999) (oks2 a b) func168
def p35:List SP:=[.box 0 [.r .u8,.int .i64,.int .i64],.one (.int .i64)]
def r35:List SP:=[.one (.bool)]
abbrev T35:=CuD×Int×Unit->Option (CuD×Bool×Unit)
abbrev N35(f:T35):=OKP 35 (mkE p35 r35 true f)
def F35(b:T79):T35:=λa=>
 (b a).bind λx1=>some (x1.1,(decide (x1.2.1=0)),())
theorem ok35{b} :N79 b->N35 (F35 b):=λa=>fk0 (.cons a .nil) func35
def r76:List SP:=[.one (.o 1 .device)]
abbrev T76:=CuD×Unit->Option (CuD×List Device×Unit)
abbrev N76(f:T76):=OKP 76 (mkE r33 r76 true f)
def q76_0:List SP:=pat 76 0 [(0,.box 0 [.r .u8,.int .i64,.int .i64]),(3,.one (.o 5000001 .device)),(4,.one (.r .str)),(16,.one (.r .str)),(17,.one (.int .i64)),(18,.one (.int .i64))]
def s76_0(b:T79)(c:T167)(d:T90)(e:T168)(g:T35)(h:T92):Lp (CuD×List Device×List Str×List Str×Int×Int×Unit) (CuD×List Device×Unit):=λt2 rec K=>
 cond (t2.2.2.2.2.2.1<t2.2.2.2.2.1) (rdL t2.2.2.2.1 t2.2.2.2.2.2.1 λx1=>(b (t2.1,80,())).bind λx2=>(c (t2.2.1,(⟨x1,1,[],⟨0,0⟩,0,0,x2.2.1⟩:Device),())).bind λx3=>rec (x2.1,x3.1,t2.2.2.1,t2.2.2.2.1,t2.2.2.2.2.1,(w64 (t2.2.2.2.2.2.1+1)),())) (K t2)
def q76_2:List SP:=pat 76 0 [(0,.box 0 [.r .u8,.int .i64,.int .i64]),(3,.one (.o 5002001 .device)),(4,.one (.r .str)),(7,.one (.r .str)),(36,.one (.r .str)),(37,.one (.int .i64)),(38,.one (.int .i64))]
def s76_2(b:T79)(c:T167)(d:T90)(e:T168)(g:T35)(h:T92):Lp (CuD×List Device×List Str×List Str×List Str×Int×Int×Unit) (CuD×List Device×Unit):=λt8 rec K=>
 cond (t8.2.2.2.2.2.2.1<t8.2.2.2.2.2.1) (rdL t8.2.2.2.2.1 t8.2.2.2.2.2.2.1 λx1=>(d (t8.1,t8.2.2.1,())).bind λx2=>(e (x2.1,x1,x2.2.1,())).bind λx3=>(c (t8.2.1,x3.2.1,())).bind λx4=>rec (x3.1,x4.1,t8.2.2.1,t8.2.2.2.1,t8.2.2.2.2.1,t8.2.2.2.2.2.1,(w64 (t8.2.2.2.2.2.2.1+1)),())) (K t8)
def F76(b:T79)(c:T167)(d:T90)(e:T168)(g:T35)(h:T92):T76:=λa=>
 (b (a.1,2,())).bind λx1=>okIf ((0:Int)<=(w64 (1+x1.2.1))/\((w64 (1+x1.2.1)):Int)<=List.length ([[112],[113]]:List Str)) (ZAD (s76_0 b c d e g h) fuel (x1.1,([]:List Device),(List.drop 0 (List.take (Int.toNat (w64 (1+x1.2.1))) ([[112],[113]]:List Str))),(List.drop 0 (List.take (Int.toNat (w64 (1+x1.2.1))) ([[112],[113]]:List Str))),(Int.ofNat ((Int.toNat (w64 (1+x1.2.1))) -0)),0,()) λx2=>(b (x2.1,5,())).bind λx3=>okIf ((0:Int)<=x3.2.1/\(x3.2.1:Int)<=List.length ([[97],[98],[99],[114]]:List Str)) (ZAD (s76_2 b c d e g h) fuel (x3.1,x2.2.1,x2.2.2.1,(List.drop 0 (List.take (Int.toNat x3.2.1) ([[97],[98],[99],[114]]:List Str))),(List.drop 0 (List.take (Int.toNat x3.2.1) ([[97],[98],[99],[114]]:List Str))),(Int.ofNat ((Int.toNat x3.2.1) -0)),0,()) λx4=>cond ((Int.ofNat x4.2.2.2.1.length)>0) ((g (x4.1,2,())).bind λx5=>cond x5.2.1 ((d (x5.1,([[108,97,109,112],[122]]:List Str),())).bind λx6=>(d (x6.1,x4.2.2.2.1,())).bind λx7=>(h (x7.1,())).bind λx8=>(c (x4.2.1,(⟨x6.2.1,3,x7.2.1,⟨x8.2.1.X,x8.2.1.Y⟩,0,0,0⟩:Device),())).bind λx9=>some (x8.1,x9.1,())) (some (x5.1,x4.2.1,()))) (some (x4.1,x4.2.1,()))))
theorem ok76{h i j k l m} :N79 h->N167 i->N90 j->N168 k->N35 l->N92 m->N76 (F76 h i j k l m):=λa b c d e g=>fk (ps:=r33) (rs:=r76) (L:=lenv [(0,ZA2 q76_0 (s76_0 h i j k l m)),(2,ZA2 q76_2 (s76_2 h i j k l m))]) (ls:=[(0,ZBB f76 0),(2,ZBB f76 1)]) (oks6 a b c d e g) func76 (.cons q76_0 (s76_0 h i j k l m) rfl (λ_ _ _ _=>by kernel_rfl) (.cons q76_2 (s76_2 h i j k l m) rfl (λ_ _ _ _=>by kernel_rfl) .nil))
abbrev T81:=CuD×Unit->Option (CuD×Str×Unit)
abbrev N81(f:T81):=OKP 81 (mkE r33 p268 true f)
def F81(b:T90):T81:=λa=>
 (b (a.1,([[97],[97],[98],[99],[114],[110,111]]:List Str),())).bind λx1=>some x1
theorem ok81{b} :N90 b->N81 (F81 b):=λa=>fk0 (.cons a .nil) func81
abbrev N93(f:T81):=OKP 93 (mkE r33 p268 true f)
def F93(b:T90):T81:=λa=>
 (b (a.1,([[97],[98],[99],[114],[112],[113],[108,97,109,112],[122],[110,111]]:List Str),())).bind λx1=>some x1
theorem ok93{b} :N90 b->N93 (F93 b):=λa=>fk0 (.cons a .nil) func93
abbrev N179(f:T81):=OKP 179 (mkE r33 p268 true f)
def F179(b:T90):T81:=λa=>
 (b (a.1,([[97],[98],[106,101,116,49],[112],[122,122,57],[108,97,109,112],[97,98,99,100,101,102,103,104],[97,98,99,100,101,102,103,104,105],[],[57,97],[65],[97,32,98],[97,45,98]]:List Str),())).bind λx1=>some x1
theorem ok179{b} :N90 b->N179 (F179 b):=λa=>fk0 (.cons a .nil) func179
def p36:List SP:=[.box 0 [.r .u8,.int .i64,.int .i64],.one (.r .int)]
def r36:List SP:=[.one (.int .i64)]
abbrev T36:=CuD×List Int×Unit->Option (CuD×Int×Unit)
abbrev N36(f:T36):=OKP 36 (mkE p36 r36 true f)
def F36(b:T79):T36:=λa=>
 (b (a.1,(Int.ofNat a.2.1.length),())).bind λx1=>rdL a.2.1 x1.2.1 λx2=>some (x1.1,x2,())
theorem ok36{b} :N79 b->N36 (F36 b):=λa=>fk0 (.cons a .nil) func36
abbrev N178(f:T170):=OKP 178 (mkE r33 p269 true f)
def F178(b:T36):T170:=λa=>
 (b (a.1,([(-1),0,1,2,3,7,8,9,15,16,17,63,64,65,999,1000,4096,4097,9223372036854775807,(-9223372036854775808)]:List Int),())).bind λx1=>some x1
theorem ok178{b} :N36 b->N178 (F178 b):=λa=>fk0 (.cons a .nil) func178
abbrev N177(f:T92):=OKP 177 (mkE r33 p181 true f)
def F177(b:T92)(c:T35)(d:T170)(e:T36):T92:=λa=>
 (b (a.1,())).bind λx1=>(c (x1.1,9,())).bind λx2=>cond x2.2.1 ((d (x2.1,())).bind λx3=>(c (x3.1,9,())).bind λx4=>cond x4.2.1 ((e (x4.1,([4096,(-4096),4097,(-4097),4090]:List Int),())).bind λx5=>some (x5.1,(⟨x3.2.1,x5.2.1⟩:Place),())) (some (x4.1,(⟨x3.2.1,x1.2.1.Y⟩:Place),()))) ((c (x2.1,9,())).bind λx3=>cond x3.2.1 ((e (x3.1,([4096,(-4096),4097,(-4097),4090]:List Int),())).bind λx4=>some (x4.1,(⟨x1.2.1.X,x4.2.1⟩:Place),())) (some (x3.1,x1.2.1,())))
theorem ok177{e g h i} :N92 e->N35 g->N178 h->N36 i->N177 (F177 e g h i):=λa b c d=>fk0 (oks4 a b c d) func177
abbrev N180(f:T267):=OKP 180 (mkE r33 p331 true f)
def F180(b:T267)(c:T79)(d:T92)(e:T170)(g:T36):T267:=λa=>
 (b (a.1,())).bind λx1=>(c (x1.1,12,())).bind λx2=>cond (x2.2.1=0) ((d (x2.1,())).bind λx3=>some (x3.1,(⟨⟨x3.2.1.X,x3.2.1.Y⟩,x1.2.1.Heading,x1.2.1.Tilt,x1.2.1.Lift⟩:Jet),())) (cond (x2.2.1=1) ((e (x2.1,())).bind λx3=>some (x3.1,(⟨⟨x1.2.1.At.X,x1.2.1.At.Y⟩,x3.2.1,x1.2.1.Tilt,x1.2.1.Lift⟩:Jet),())) (cond (x2.2.1=2) ((g (x2.1,([(-1),17,16,1000,9223372036854775807]:List Int),())).bind λx3=>some (x3.1,(⟨⟨x1.2.1.At.X,x1.2.1.At.Y⟩,x1.2.1.Heading,x3.2.1,x1.2.1.Lift⟩:Jet),())) (cond (x2.2.1=3) ((g (x2.1,([0,(-1),33,32,9223372036854775807,(-9223372036854775808)]:List Int),())).bind λx3=>some (x3.1,(⟨⟨x1.2.1.At.X,x1.2.1.At.Y⟩,x1.2.1.Heading,x1.2.1.Tilt,x3.2.1⟩:Jet),())) (cond (x2.2.1=4) ((g (x2.1,([1024,1025,(-1024),(-1025)]:List Int),())).bind λx3=>(g (x3.1,([0,1024,(-1025)]:List Int),())).bind λx4=>some (x4.1,(⟨⟨x3.2.1,x4.2.1⟩,x1.2.1.Heading,x1.2.1.Tilt,x1.2.1.Lift⟩:Jet),())) (some (x2.1,x1.2.1,()))))))
theorem ok180{g h i j k} :N267 g->N79 h->N177 i->N178 j->N36 k->N180 (F180 g h i j k):=λa b c d e=>fk0 (oks5 a b c d e) func180
abbrev T86:=CuD×Unit->Option (CuD×Device×Unit)
abbrev N86(f:T86):=OKP 86 (mkE r33 p270 true f)
def F86(b:T81)(c:T168)(d:T79)(e:T81)(g:T170)(h:T267)(i:T92):T86:=λa=>
 (b (a.1,())).bind λx1=>(b (x1.1,())).bind λx2=>(c (x2.1,x1.2.1,x2.2.1,())).bind λx3=>(d (x3.1,9,())).bind λx4=>(λj1:Option (CuD×Device×Unit)=>(λj2:Option (CuD×Device×Unit)=>(λj3:Option (CuD×Device×Unit)=>cond (x4.2.1=0) (cond (x4.2.1=0) j3 (cond (x4.2.1=2) (cond (x4.2.1=2) j2 j1) (cond (x4.2.1=3) j2 j1))) (cond (x4.2.1=1) j3 (cond (x4.2.1=2) (cond (x4.2.1=2) j2 j1) (cond (x4.2.1=3) j2 j1)))) ((b (x4.1,())).bind λx5=>(d (x5.1,600,())).bind λx6=>(d (x6.1,12,())).bind λx7=>cond (x7.2.1=0) ((e (x7.1,())).bind λx8=>some (x8.1,(⟨x8.2.1,1,[],⟨0,0⟩,0,0,x6.2.1⟩:Device),())) (cond (x7.2.1=1) ((g (x7.1,())).bind λx8=>some (x8.1,(⟨x5.2.1,1,[],⟨0,0⟩,0,x8.2.1,x6.2.1⟩:Device),())) (cond (x7.2.1=2) ((h (x7.1,())).bind λx8=>some (x8.1,(⟨x5.2.1,1,[],⟨x8.2.1.At.X,x8.2.1.At.Y⟩,0,0,x6.2.1⟩:Device),())) (some (x7.1,(⟨x5.2.1,1,[],⟨0,0⟩,0,0,x6.2.1⟩:Device),())))))) ((b (x4.1,())).bind λx5=>(b (x5.1,())).bind λx6=>(i (x6.1,())).bind λx7=>(d (x7.1,12,())).bind λx8=>cond (x8.2.1=0) ((e (x8.1,())).bind λx9=>some (x9.1,(⟨x9.2.1,3,x6.2.1,⟨x7.2.1.X,x7.2.1.Y⟩,0,0,0⟩:Device),())) (cond (x8.2.1=1) ((g (x8.1,())).bind λx9=>some (x9.1,(⟨x5.2.1,3,x6.2.1,⟨x7.2.1.X,x7.2.1.Y⟩,0,x9.2.1,0⟩:Device),())) (cond (x8.2.1=2) ((h (x8.1,())).bind λx9=>some (x9.1,(⟨x5.2.1,3,x6.2.1,⟨x9.2.1.At.X,x9.2.1.At.Y⟩,0,0,0⟩:Device),())) (some (x8.1,(⟨x5.2.1,3,x6.2.1,⟨x7.2.1.X,x7.2.1.Y⟩,0,0,0⟩:Device),())))))) (cond (x4.2.1=4) ((g (x4.1,())).bind λx5=>(d (x5.1,12,())).bind λx6=>cond (x6.2.1=0) ((e (x6.1,())).bind λx7=>some (x7.1,(⟨x7.2.1,x3.2.1.Kind,x3.2.1.Line,⟨x3.2.1.At.X,x3.2.1.At.Y⟩,x3.2.1.Heading,x3.2.1.Tilt,x5.2.1⟩:Device),())) (cond (x6.2.1=1) ((g (x6.1,())).bind λx7=>some (x7.1,(⟨x3.2.1.Name,x3.2.1.Kind,x3.2.1.Line,⟨x3.2.1.At.X,x3.2.1.At.Y⟩,x3.2.1.Heading,x7.2.1,x5.2.1⟩:Device),())) (cond (x6.2.1=2) ((h (x6.1,())).bind λx7=>some (x7.1,(⟨x3.2.1.Name,x3.2.1.Kind,x3.2.1.Line,⟨x7.2.1.At.X,x7.2.1.At.Y⟩,x3.2.1.Heading,x3.2.1.Tilt,x5.2.1⟩:Device),())) (some (x6.1,(⟨x3.2.1.Name,x3.2.1.Kind,x3.2.1.Line,⟨x3.2.1.At.X,x3.2.1.At.Y⟩,x3.2.1.Heading,x3.2.1.Tilt,x5.2.1⟩:Device),()))))) (cond (x4.2.1=5) ((g (x4.1,())).bind λx5=>(d (x5.1,12,())).bind λx6=>cond (x6.2.1=0) ((e (x6.1,())).bind λx7=>some (x7.1,(⟨x7.2.1,x5.2.1,x3.2.1.Line,⟨x3.2.1.At.X,x3.2.1.At.Y⟩,x3.2.1.Heading,x3.2.1.Tilt,x3.2.1.Most⟩:Device),())) (cond (x6.2.1=1) ((g (x6.1,())).bind λx7=>some (x7.1,(⟨x3.2.1.Name,x5.2.1,x3.2.1.Line,⟨x3.2.1.At.X,x3.2.1.At.Y⟩,x3.2.1.Heading,x7.2.1,x3.2.1.Most⟩:Device),())) (cond (x6.2.1=2) ((h (x6.1,())).bind λx7=>some (x7.1,(⟨x3.2.1.Name,x5.2.1,x3.2.1.Line,⟨x7.2.1.At.X,x7.2.1.At.Y⟩,x3.2.1.Heading,x3.2.1.Tilt,x3.2.1.Most⟩:Device),())) (some (x6.1,(⟨x3.2.1.Name,x5.2.1,x3.2.1.Line,⟨x3.2.1.At.X,x3.2.1.At.Y⟩,x3.2.1.Heading,x3.2.1.Tilt,x3.2.1.Most⟩:Device),()))))) ((d (x4.1,12,())).bind λx5=>cond (x5.2.1=0) ((e (x5.1,())).bind λx6=>some (x6.1,(⟨x6.2.1,x3.2.1.Kind,x3.2.1.Line,⟨x3.2.1.At.X,x3.2.1.At.Y⟩,x3.2.1.Heading,x3.2.1.Tilt,x3.2.1.Most⟩:Device),())) (cond (x5.2.1=1) ((g (x5.1,())).bind λx6=>some (x6.1,(⟨x3.2.1.Name,x3.2.1.Kind,x3.2.1.Line,⟨x3.2.1.At.X,x3.2.1.At.Y⟩,x3.2.1.Heading,x6.2.1,x3.2.1.Most⟩:Device),())) (cond (x5.2.1=2) ((h (x5.1,())).bind λx6=>some (x6.1,(⟨x3.2.1.Name,x3.2.1.Kind,x3.2.1.Line,⟨x6.2.1.At.X,x6.2.1.At.Y⟩,x3.2.1.Heading,x3.2.1.Tilt,x3.2.1.Most⟩:Device),())) (some (x5.1,x3.2.1,())))))))
theorem ok86{h j k l m n o} :N93 h->N168 j->N79 k->N179 l->N178 m->N180 n->N177 o->N86 (F86 h j k l m n o):=λa b c d e g i=>fk0 (oks7 a b c d e g i) func86
abbrev T87:=CuD×Unit->Option (CuD×Cue×Unit)
abbrev N87(f:T87):=OKP 87 (mkE r33 p171 true f)
def F87(b:T79)(c:T81)(d:T36):T87:=λa=>
 (b (a.1,14,())).bind λx1=>(c (x1.1,())).bind λx2=>(b (x2.1,33,())).bind λx3=>(d (x3.1,([0,0,1,2,3,5,8,16]:List Int),())).bind λx4=>some (x4.1,(⟨x1.2.1,x2.2.1,x3.2.1,x4.2.1⟩:Cue),())
theorem ok87{d e g} :N79 d->N81 e->N36 g->N87 (F87 d e g):=λa b c=>fk0 (oks3 a b c) func87
abbrev N89(f:T92):=OKP 89 (mkE r33 p181 true f)
def F89(b:T182):T92:=λa=>
 (b (a.1,(-3),3,())).bind λx1=>(b (x1.1,(-3),3,())).bind λx2=>some (x2.1,(⟨x1.2.1,x2.2.1⟩:Place),())
theorem ok89{b} :N182 b->N89 (F89 b):=λa=>fk0 (.cons a .nil) func89
abbrev T183:=CuD×Unit->Option (CuD×Box×Unit)
abbrev N183(f:T183):=OKP 183 (mkE r33 p142 true f)
def F183(b:T92)(c:T79)(d:T92):T183:=λa=>
 (b (a.1,())).bind λx1=>(c (x1.1,90,())).bind λx2=>both ((c (x2.1,90,())).bind λx3=>(c (x3.1,14,())).bind λx4=>cond (x4.2.1=0) ((d (x4.1,())).bind λx5=>some (x5.1,(⟨⟨x1.2.1.X,x1.2.1.Y⟩,⟨x5.2.1.X,x5.2.1.Y⟩⟩:Box),())) (cond (x4.2.1=1) ((d (x4.1,())).bind λx5=>some (x5.1,(⟨⟨x5.2.1.X,x5.2.1.Y⟩,⟨(w64 (x1.2.1.X+x2.2.1)),(w64 (x1.2.1.Y+x3.2.1))⟩⟩:Box),())) (some (x4.1,(⟨⟨x1.2.1.X,x1.2.1.Y⟩,⟨(w64 (x1.2.1.X+x2.2.1)),(w64 (x1.2.1.Y+x3.2.1))⟩⟩:Box),())))) ((c (x2.1,90,())).bind λx3=>both ((c (x3.1,14,())).bind λx4=>cond (x4.2.1=0) ((d (x4.1,())).bind λx5=>some (x5.1,(⟨⟨x1.2.1.X,x1.2.1.Y⟩,⟨x5.2.1.X,x5.2.1.Y⟩⟩:Box),())) (cond (x4.2.1=1) ((d (x4.1,())).bind λx5=>some (x5.1,(⟨⟨x5.2.1.X,x5.2.1.Y⟩,⟨(w64 (x1.2.1.X+x2.2.1)),(w64 (x1.2.1.Y+x3.2.1))⟩⟩:Box),())) (some (x4.1,(⟨⟨x1.2.1.X,x1.2.1.Y⟩,⟨(w64 (x1.2.1.X+x2.2.1)),(w64 (x1.2.1.Y+x3.2.1))⟩⟩:Box),())))) ((c (x3.1,14,())).bind λx4=>cond (x4.2.1=0) ((d (x4.1,())).bind λx5=>some (x5.1,(⟨⟨x1.2.1.X,x1.2.1.Y⟩,⟨x5.2.1.X,x5.2.1.Y⟩⟩:Box),())) (cond (x4.2.1=1) ((d (x4.1,())).bind λx5=>some (x5.1,(⟨⟨x5.2.1.X,x5.2.1.Y⟩,⟨(w64 (x1.2.1.X+x2.2.1)),(w64 (x1.2.1.Y+x3.2.1))⟩⟩:Box),())) (some (x4.1,(⟨⟨x1.2.1.X,x1.2.1.Y⟩,⟨(w64 (x1.2.1.X+x2.2.1)),(w64 (x1.2.1.Y+x3.2.1))⟩⟩:Box),())))))
theorem ok183{d e g} :N92 d->N79 e->N177 g->N183 (F183 d e g):=λa b c=>fka0 (ann:=λn=>Nat.beq n 1200000 || Nat.beq n 1299998) (oks3 a b c) func183
abbrev N91(f:T183):=OKP 91 (mkE r33 p142 true f)
def F91(b:T79)(c:T183):T183:=λa=>
 (b (a.1,400,())).bind λx1=>(b (x1.1,400,())).bind λx2=>(b (x2.1,400,())).bind λx3=>(b (x3.1,400,())).bind λx4=>(b (x4.1,12,())).bind λx5=>cond (x5.2.1=0) ((c (x5.1,())).bind λx6=>some x6) (cond (x5.2.1=1) (some (x5.1,(⟨⟨(-1900),(-1900)⟩,⟨1900,1900⟩⟩:Box),())) (some (x5.1,(⟨⟨(w64 (0-x1.2.1)),(w64 (0-x2.2.1))⟩,⟨x3.2.1,x4.2.1⟩⟩:Box),())))
theorem ok91{c d} :N79 c->N183 d->N91 (F91 c d):=λa b=>fk0 (oks2 a b) func91
def p45:List SP:=[.box 0 [.r .u8,.int .i64,.int .i64]]
def r45:List SP:=[.one (.str)]
abbrev T45:=CuD×Unit->Option (CuD×Str×Unit)
abbrev N45(f:T45):=OKP 45 (mkE p45 r45 true f)
def F45(b:T79)(c:T78)(d:T86)(e:T77)(g:T87)(h:T80)(i:T92)(j:T88)(k:T90)(l:T183)(m:T92)(n:T81)(o:T81):T45:=λa=>
 (b (a.1,20,())).bind λx1=>(c (x1.2.1,())).bind λx2=>(b (x1.1,16,())).bind λx3=>(λj1:Option (CuD×Str×Unit)=>(λj3:Option (CuD×Str×Unit)=>(λj5:Option (CuD×Str×Unit)=>cond (x3.2.1=0) (cond (x3.2.1=0) j5 (cond (x3.2.1=2) (cond (x3.2.1=2) j3 j1) (cond (x3.2.1=3) (cond (x3.2.1=3) j3 j1) (cond (x3.2.1=4) j3 j1)))) (cond (x3.2.1=1) j5 (cond (x3.2.1=2) (cond (x3.2.1=2) j3 j1) (cond (x3.2.1=3) (cond (x3.2.1=3) j3 j1) (cond (x3.2.1=4) j3 j1))))) ((d (x3.1,())).bind λx4=>(e (x4.2.1,())).bind λx5=>capK (List.length [100,101,118,105,99,101,32]+x5.1.length) (some (x4.1,([100,101,118,105,99,101,32]++x5.1),())))) ((g (x3.1,())).bind λx4=>(h (x4.2.1,())).bind λx5=>capK (List.length [99,117,101,32]+x5.1.length) (some (x4.1,([99,117,101,32]++x5.1),())))) (cond (x3.2.1=5) (capK (List.length [103,117,115,116,32]+x2.1.length) (capK (List.length ([103,117,115,116,32]++x2.1)+List.length [32]) ((i (x3.1,())).bind λx4=>(j (x4.2.1,())).bind λx5=>capK (List.length (([103,117,115,116,32]++x2.1)++[32])+x5.1.length) (some (x4.1,((([103,117,115,116,32]++x2.1)++[32])++x5.1),()))))) (cond (x3.2.1=6) ((k (x3.1,([[116,105,99,107,115,32],[116,117,114,110,32],[99,111,117,110,116,32],[108,105,102,116,115,32],[100,114,111,112,115,32]]:List Str),())).bind λx4=>capK (x4.2.1.length+x2.1.length) (some (x4.1,(x4.2.1++x2.1),()))) (cond (x3.2.1=7) ((i (x3.1,())).bind λx4=>(j (x4.2.1,())).bind λx5=>capK (List.length [114,111,115,101,32]+x5.1.length) (capK (List.length ([114,111,115,101,32]++x5.1)+List.length [32]) ((i (x4.1,())).bind λx6=>(j (x6.2.1,())).bind λx7=>capK (List.length (([114,111,115,101,32]++x5.1)++[32])+x7.1.length) (some (x6.1,((([114,111,115,101,32]++x5.1)++[32])++x7.1),()))))) (cond (x3.2.1=8) ((l (x3.1,())).bind λx4=>(j (x4.2.1.Low,())).bind λx5=>capK (List.length [98,97,115,105,110,32]+x5.1.length) (capK (List.length ([98,97,115,105,110,32]++x5.1)+List.length [32]) ((j (x4.2.1.High,())).bind λx6=>capK (List.length (([98,97,115,105,110,32]++x5.1)++[32])+x6.1.length) (some (x4.1,((([98,97,115,105,110,32]++x5.1)++[32])++x6.1),()))))) (cond (x3.2.1=9) ((m (x3.1,())).bind λx4=>(j (x4.2.1,())).bind λx5=>capK (List.length [115,104,105,102,116,32]+x5.1.length) (some (x4.1,([115,104,105,102,116,32]++x5.1),()))) (cond (x3.2.1=10) ((n (x3.1,())).bind λx4=>capK (List.length [108,101,118,101,108,32]+x4.2.1.length) (capK (List.length ([108,101,118,101,108,32]++x4.2.1)+List.length [32]) (capK (List.length (([108,101,118,101,108,32]++x4.2.1)++[32])+x2.1.length) (some (x4.1,((([108,101,118,101,108,32]++x4.2.1)++[32])++x2.1),()))))) (cond (x3.2.1=11) ((o (x3.1,())).bind λx4=>capK (List.length [114,101,109,111,118,101,32]+x4.2.1.length) (some (x4.1,([114,101,109,111,118,101,32]++x4.2.1),()))) ((λj2:Option (CuD×Str×Unit)=>(λj4:Option (CuD×Str×Unit)=>cond (x3.2.1=12) (cond (x3.2.1=12) j4 j2) (cond (x3.2.1=13) (cond (x3.2.1=13) j4 j2) (cond (x3.2.1=14) j4 j2))) ((k (x3.1,([[108,105,109,105,116],[108,97,110,100,105,110,103,115],[104,105,103,104],[115,97,102,101],[108,101,97,115,116],[100,114,121],[100,114,111,112,115,32,53],[108,105,102,116,115,32,51],[99,111,117,110,116,32,57]]:List Str),())).bind λx4=>some x4)) ((k (x3.1,([[],[35,32,97],[119,104,97,116],[100,101,118,105,99,101],[99,117,101,32,120],[103,117,115,116,32,49],[103,117,115,116,32,55,48,32,48,43,48,105],[103,117,115,116,32,49,32,50,43,48,105],[116,105,99,107,115,32,54,53],[116,105,99,107,115,32,45,49],[114,111,115,101],[114,111,115,101,32,48,43,48,105,32,48,43,48,105],[98,97,115,105,110,32,49,43,48,105,32,48,43,48,105],[116,117,114,110],[108,101,118,101,108,32,97],[108,101,118,101,108,32,32,97,32,49],[100,114,111,112,115,32,120],[100,114,121,32],[115,104,105,102,116,32,54,48,48,43,48,105],[114,101,109,111,118,101,32,112,32,113],[114,111,115,101,32,120]]:List Str),())).bind λx4=>some x4)))))))))
theorem ok45{h n p q r s v w y z A B C} :N79 h->N78 n->N86 p->N77 q->N87 r->N80 s->N89 v->N88 w->N90 y->N91 z->N92 A->N81 B->N93 C->N45 (F45 h n p q r s v w y z A B C):=λa b c d e g i j k l m o u=>fk0 (ZUu a b c d e g i j k l m o u) func45
def p34:List SP:=[.box 0 [.r .u8,.int .i64,.int .i64],.one (.int .i64)]
def r34:List SP:=[.one (.o 1 .str)]
abbrev T34:=CuD×Int×Unit->Option (CuD×List Str×Unit)
abbrev N34(f:T34):=OKP 34 (mkE p34 r34 true f)
def q34_2:List SP:=pat 77 0 [(0,.box 0 [.r .u8,.int .i64,.int .i64]),(1,.one (.int .i64)),(5,.one (.o 5002001 .str)),(6,.one (.o 5002002 .device)),(7,.one (.int .i64)),(19,.one (.al 5002002 .device)),(20,.one (.int .i64)),(21,.one (.int .i64))]
def s34_2(b:T76)(c:T77)(d:T79)(e:T78)(g:T81)(h:T80)(i:T45):Lp (CuD×Int×List Str×List Device×Int×Unit×Int×Int×Unit) (CuD×List Str×Unit):=λt3 rec K=>
 cond (t3.2.2.2.2.2.2.2.1<t3.2.2.2.2.2.2.1) (rdL t3.2.2.2.1 t3.2.2.2.2.2.2.2.1 λ_=>(t3.2.2.2.1[(Int.toNat t3.2.2.2.2.2.2.2.1)]?).bind λx1=>cond (x1.Kind=t3.2.2.2.2.1) ((c (x1,())).bind λx2=>capK (List.length [100,101,118,105,99,101,32]+x2.1.length) (capK (t3.2.2.1.length+List.length ([([100,101,118,105,99,101,32]++x2.1)]:List Str)) (rec (t3.1,t3.2.1,(t3.2.2.1++([([100,101,118,105,99,101,32]++x2.1)]:List Str)),t3.2.2.2.1,t3.2.2.2.2.1,(),t3.2.2.2.2.2.2.1,(w64 (t3.2.2.2.2.2.2.2.1+1)),())))) (rec (t3.1,t3.2.1,t3.2.2.1,t3.2.2.2.1,t3.2.2.2.2.1,(),t3.2.2.2.2.2.2.1,(w64 (t3.2.2.2.2.2.2.2.1+1)),()))) (K (t3.1,t3.2.1,t3.2.2.1,t3.2.2.2.1,t3.2.2.2.2.1,(),t3.2.2.2.2.2.2.1,t3.2.2.2.2.2.2.2.1,()))
def q34_0:List SP:=pat 77 0 [(0,.box 0 [.r .u8,.int .i64,.int .i64]),(1,.one (.int .i64)),(5,.one (.o 5000001 .str)),(6,.one (.o 5000002 .device)),(7,.one (.int .i64))]
def s34_0(b:T76)(c:T77)(d:T79)(e:T78)(g:T81)(h:T80)(i:T45):Lp (CuD×Int×List Str×List Device×Int×Unit) (CuD×List Str×Unit):=λt2 rec K=>
 cond (t2.2.2.2.2.1<=3) (ZAD (s34_2 b c d e g h i) fuel (t2.1,t2.2.1,t2.2.2.1,t2.2.2.2.1,t2.2.2.2.2.1,(),(Int.ofNat t2.2.2.2.1.length),0,()) λx1=>rec (x1.1,x1.2.1,x1.2.2.1,x1.2.2.2.1,(w64 (x1.2.2.2.2.1+1)),())) (K t2)
def q34_4:List SP:=pat 77 0 [(0,.box 0 [.r .u8,.int .i64,.int .i64]),(1,.one (.int .i64)),(5,.one (.o 5004001 .str)),(10,.one (.int .i64))]
def s34_4(b:T76)(c:T77)(d:T79)(e:T78)(g:T81)(h:T80)(i:T45):Lp (CuD×Int×List Str×Int×Unit) (CuD×List Str×Unit):=λt11 rec K=>
 cond (t11.2.2.2.1>0) ((d (t11.1,4,())).bind λx1=>(g (x1.1,())).bind λx2=>(d (x2.1,33,())).bind λx3=>(d (x3.1,4,())).bind λx4=>(h ((⟨x1.2.1,x2.2.1,x3.2.1,x4.2.1⟩:Cue),())).bind λx5=>capK (List.length [99,117,101,32]+x5.1.length) (capK (t11.2.2.1.length+List.length ([([99,117,101,32]++x5.1)]:List Str)) (rec (x4.1,t11.2.1,(t11.2.2.1++([([99,117,101,32]++x5.1)]:List Str)),(w64 (t11.2.2.2.1-1)),())))) (K t11)
def q34_6:List SP:=pat 77 0 [(0,.box 0 [.r .u8,.int .i64,.int .i64]),(5,.one (.o 5006001 .str)),(11,.one (.int .i64))]
def s34_6(b:T76)(c:T77)(d:T79)(e:T78)(g:T81)(h:T80)(i:T45):Lp (CuD×List Str×Int×Unit) (CuD×List Str×Unit):=λt19 rec K=>
 cond (t19.2.2.1>0) ((i (t19.1,())).bind λx1=>capK (t19.2.1.length+List.length ([x1.2.1]:List Str)) (rec (x1.1,(t19.2.1++([x1.2.1]:List Str)),(w64 (t19.2.2.1-1)),()))) (K t19)
def F34(b:T76)(c:T77)(d:T79)(e:T78)(g:T81)(h:T80)(i:T45):T34:=λa=>
 (b (a.1,())).bind λx1=>ZAD (s34_0 b c d e g h i) fuel (x1.1,a.2.1,([]:List Str),x1.2.1,1,()) λx2=>(d (x2.1,9,())).bind λx3=>(e (x3.2.1,())).bind λx4=>capK (List.length [116,105,99,107,115,32]+x4.1.length) (capK (x2.2.2.1.length+List.length ([([116,105,99,107,115,32]++x4.1)]:List Str)) ((d (x3.1,4,())).bind λx5=>ZAD (s34_4 b c d e g h i) fuel (x5.1,x2.2.1,(x2.2.2.1++([([116,105,99,107,115,32]++x4.1)]:List Str)),x5.2.1,()) λx6=>(d (x6.1,(w64 (x6.2.1+1)),())).bind λx7=>ZAD (s34_6 b c d e g h i) fuel (x7.1,x6.2.2.1,x7.2.1,()) λx8=>some (x8.1,x8.2.1,())))
theorem ok34{h j k l m n o} :N76 h->N77 j->N79 k->N78 l->N81 m->N80 n->N45 o->N34 (F34 h j k l m n o):=λa b c d e g i=>fk (ps:=p34) (rs:=r34) (L:=lenv [(0,ZA2 q34_0 (s34_0 h j k l m n o)),(2,ZA2 q34_2 (s34_2 h j k l m n o)),(4,ZA2 q34_4 (s34_4 h j k l m n o)),(6,ZA2 q34_6 (s34_6 h j k l m n o))]) (ls:=[(0,ZBB f34 0),(2,ZBB f34 1),(4,ZBB f34 2),(6,ZBB f34 3)]) (oks7 a b c d e g i) func34 (.cons q34_0 (s34_0 h j k l m n o) rfl (λ_ _ _ _=>by kernel_rfl) (.cons q34_2 (s34_2 h j k l m n o) rfl (λ_ _ _ _=>by kernel_rfl) (.cons q34_4 (s34_4 h j k l m n o) rfl (λ_ _ _ _=>by kernel_rfl) (.cons q34_6 (s34_6 h j k l m n o) rfl (λ_ _ _ _=>by kernel_rfl) .nil))))
def p9:List SP:=[.one (.r .u8)]
def r9:List SP:=[.one (.str)]
abbrev T9:=List Int×Unit->Option (Str×Unit)
abbrev N9(f:T9):=OKP 9 (mkE p9 r9 false f)
def q9_0:List SP:=pat 30 0 [(3,.box 5000001 [.r .u8,.int .i64,.int .i64]),(4,.one (.o 5000002 .str))]
def s9_0(b:T33)(c:T34)(d:T35)(e:T36)(g:T37):Lp (CuD×List Str×Unit) (Str×Unit):=λt4 rec K=>
 cond ((Int.ofNat t4.2.1.length)<41) (capK (t4.2.1.length+List.length ([[104,105,103,104]]:List Str)) (rec (t4.1,(t4.2.1++([[104,105,103,104]]:List Str)),()))) (K t4)
def F9(b:T33)(c:T34)(d:T35)(e:T36)(g:T37):T9:=λa=>
 (b (a.1,())).bind λx1=>(c (x1.1,10,())).bind λx2=>(d (x2.1,12,())).bind λx3=>cond x3.2.1 (ZAD (s9_0 b c d e g) fuel (x3.1,x2.2.1,()) λx4=>(e (x4.1,([40,41]:List Int),())).bind λx5=>okIf ((0:Int)<=x5.2.1/\(x5.2.1:Int)<=x4.2.1.length) ((g ((List.drop 0 (List.take (Int.toNat x5.2.1) x4.2.1)),[10],())).bind λx6=>(d (x5.1,5,())).bind λx7=>cond x7.2.1 (capK (x6.1.length+List.length [10]) (some ((x6.1++[10]),()))) (some (x6.1,())))) ((g (x2.2.1,[10],())).bind λx4=>(d (x3.1,5,())).bind λx5=>cond x5.2.1 (capK (x4.1.length+List.length [10]) (some ((x4.1++[10]),()))) (some (x4.1,())))
theorem ok9{g h i j k} :N33 g->N34 h->N35 i->N36 j->N37 k->N9 (F9 g h i j k):=λa b c d e=>fk1 p9 r9 q9_0 (s9_0 g h i j k) (oks5 a b c d e) func9
def p3:List SP:=[.one (.r .u8)]
def r3:List SP:=[.one (.bool)]
abbrev T3:=List Int×Unit->Option (Bool×Unit)
abbrev N3(f:T3):=OKP 3 (mkE p3 r3 false f)
def q3_0:List SP:=pat 72 0 [(5,.one (.o 5000001 .str)),(6,.one (.int .i64)),(7,.one (.o 5000002 .str)),(8,.one (.int .i64))]
def s3_0(b:T8)(c:T9)(d:T10)(e:T11)(g:T12):Lp (List Str×Int×List Str×Int×Unit) (Bool×Unit):=λt8 rec K=>
 cond (t8.2.2.2.1<t8.2.1) (rdL t8.1 t8.2.2.2.1 λ_=>(t8.1[(Int.toNat t8.2.2.2.1)]?).bind λx1=>rdL t8.2.2.1 t8.2.2.2.1 λ_=>(t8.2.2.1[(Int.toNat t8.2.2.2.1)]?).bind λx2=>cond (!(x1=x2)) (some (false,())) (rec (t8.1,t8.2.1,t8.2.2.1,(w64 (t8.2.2.2.1+1)),()))) (K t8)
def F3(b:T8)(c:T9)(d:T10)(e:T11)(g:T12):T3:=λa=>
 (b (a.1,())).bind λx1=>cond x1.1 (some (true,())) ((c (a.1,())).bind λx2=>(d (x2.1,[10],())).bind λx3=>(e (x2.1,())).bind λx4=>cond (!((Int.ofNat x4.1.length)=(Int.ofNat x3.1.length))) (cond ((Int.ofNat x4.1.length)=0) (cond (!((Int.ofNat x3.1.length)>40)) (some ((decide ((Int.ofNat x2.1.length)>4000)),())) (some (true,()))) (some (false,()))) (okIf ((0:Int)<=(w64 (Int.tdiv (Int.ofNat x3.1.length) 2))/\((w64 (Int.tdiv (Int.ofNat x3.1.length) 2)):Int)<=x3.1.length) ((g ((List.drop 0 (List.take (Int.toNat (w64 (Int.tdiv (Int.ofNat x3.1.length) 2))) x3.1)),[10],())).bind λx5=>(e (x5.1,())).bind λx6=>cond ((w64 (Int.tdiv (Int.ofNat x3.1.length) 2))=0) (cond ((Int.ofNat x6.1.length)=1) (rdL x6.1 0 λ_=>(x6.1[(Int.toNat 0)]?).bind λx7=>some ((decide (x7=[])),())) (some (false,()))) (cond (!((Int.ofNat x6.1.length)=(w64 (Int.tdiv (Int.ofNat x3.1.length) 2)))) (some (false,())) (ZAD (s3_0 b c d e g) fuel (x4.1,(w64 (Int.tdiv (Int.ofNat x3.1.length) 2)),x6.1,0,()) λx7=>some (true,()))))))
theorem ok3{g h i j k} :N8 g->N9 h->N10 i->N11 j->N12 k->N3 (F3 g h i j k):=λa b c d e=>fk1 p3 r3 q3_0 (s3_0 g h i j k) (oks5 a b c d e) func3
def p44:List SP:=[.box 0 [.r .u8,.int .i64,.int .i64]]
def r44:List SP:=[.agg [.o 1 .device,.o 2 .cue,.o 3 .gust,.int .i64,.o 4 .place,.int .i64,.int .i64,.int .i64,.int .i64]]
abbrev T44:=CuD×Unit->Option (CuD×DkD×Unit)
abbrev N44(f:T44):=OKP 44 (mkE p44 r44 true f)
def q44_0:List SP:=pat 22 0 [(0,.box 0 [.r .u8,.int .i64,.int .i64]),(2,.box 5000001 [.o 5000002 .device,.o 5000003 .cue,.o 5000004 .gust,.int .i64,.o 5000005 .place,.int .i64,.int .i64,.int .i64,.int .i64]),(3,.box 5000006 [.o 5000007 .device,.o 5000008 .cue,.o 5000009 .gust,.int .i64,.o 5000010 .place,.int .i64,.int .i64,.int .i64,.int .i64]),(8,.one (.o 5000011 .str)),(9,.one (.int .i64)),(10,.one (.int .i64))]
def s44_0(b:T42)(c:T34)(d:T28):Lp (CuD×DkD×DkD×List Str×Int×Int×Unit) (CuD×DkD×Unit):=λt3 rec K=>
 cond (t3.2.2.2.2.2.1<t3.2.2.2.2.1) (rdL t3.2.2.2.1 t3.2.2.2.2.2.1 λ_=>(t3.2.2.2.1[(Int.toNat t3.2.2.2.2.2.1)]?).bind λx1=>(d (t3.2.2.1,x1,())).bind λx2=>rec (t3.1,t3.2.1,x2.1,t3.2.2.2.1,t3.2.2.2.2.1,(w64 (t3.2.2.2.2.2.1+1)),())) (K t3)
def F44(b:T42)(c:T34)(d:T28):T44:=λa=>
 (b (())).bind λx1=>(c (a.1,5,())).bind λx2=>ZAD (s44_0 b c d) fuel (x2.1,([],[],[],0,[],0,0,0,0,()),x1.1,x2.2.1,(Int.ofNat x2.2.1.length),0,()) λx3=>some (x3.1,x3.2.2.1,())
theorem ok44{d e g} :N42 d->N34 e->N28 g->N44 (F44 d e g):=λa b c=>fk1 p44 r44 q44_0 (s44_0 d e g) (oks3 a b c) func44
def p17:List SP:=[.one (.r .u8)]
def r17:List SP:=[.agg [.o 0 .device,.o 1 .cue,.o 2 .gust,.int .i64,.o 3 .place,.int .i64,.int .i64,.int .i64,.int .i64],.one (.str)]
abbrev T17:=List Int×Unit->Option (DkD×Str×Unit)
abbrev N17(f:T17):=OKP 17 (mkE p17 r17 false f)
def F17(b:T33)(c:T44)(d:T45):T17:=λa=>
 (b (a.1,())).bind λx1=>(c (x1.1,())).bind λx2=>(d (x2.1,())).bind λx3=>some (x2.2.1,x3.2.1,())
theorem ok17{d e g} :N33 d->N44 e->N45 g->N17 (F17 d e g):=λa b c=>fka0 (ann:=λn=>Nat.beq n 1300107 || Nat.beq n 1399999) (oks3 a b c) func17
def p23:List SP:=[.one (.r .device),.one (.r .device)]
def r23:List SP:=[.one (.bool)]
abbrev T23:=List Device×List Device×Unit->Option (Bool×Unit)
abbrev N23(f:T23):=OKP 23 (mkE p23 r23 false f)
def q23_0:List SP:=pat 26 0 [(0,.one (.r .device)),(1,.one (.r .device)),(5,.one (.int .i64))]
def s23_0:Lp (List Device×List Device×Int×Unit) (Bool×Unit):=λt1 rec K=>
 cond (t1.2.2.1<(Int.ofNat t1.1.length)) (rdL t1.1 t1.2.2.1 λx1=>rdL t1.2.1 t1.2.2.1 λx2=>cond (!(decide (x1.Name=x2.Name) && (decide (x1.Kind=x2.Kind) && (decide (x1.Line=x2.Line) && (decide (x1.At.X=x2.At.X) && (decide (x1.At.Y=x2.At.Y) && (decide (x1.Heading=x2.Heading) && (decide (x1.Tilt=x2.Tilt) && (decide (x1.Most=x2.Most) && true))))))))) (some (false,())) (rec (t1.1,t1.2.1,(w64 (t1.2.2.1+1)),()))) (K t1)
def F23:T23:=λa=>
 cond (!((Int.ofNat a.1.length)=(Int.ofNat a.2.1.length))) (some (false,())) (ZAD (s23_0) fuel (a.1,a.2.1,0,()) λx1=>some (true,()))
theorem ok23:N23 (F23):=fk1 p23 r23 q23_0 s23_0 .nil func23
def p24:List SP:=[.one (.r .gust),.one (.r .gust)]
def r24:List SP:=[.one (.bool)]
abbrev T24:=List Gust×List Gust×Unit->Option (Bool×Unit)
abbrev N24(f:T24):=OKP 24 (mkE p24 r24 false f)
def q24_0:List SP:=pat 26 0 [(0,.one (.r .gust)),(1,.one (.r .gust)),(5,.one (.int .i64))]
def s24_0:Lp (List Gust×List Gust×Int×Unit) (Bool×Unit):=λt1 rec K=>
 cond (t1.2.2.1<(Int.ofNat t1.1.length)) (rdL t1.1 t1.2.2.1 λx1=>rdL t1.2.1 t1.2.2.1 λx2=>cond (!(decide (x1.From=x2.From) && (decide (x1.Drift.X=x2.Drift.X) && (decide (x1.Drift.Y=x2.Drift.Y) && true)))) (some (false,())) (rec (t1.1,t1.2.1,(w64 (t1.2.2.1+1)),()))) (K t1)
def F24:T24:=λa=>
 cond (!((Int.ofNat a.1.length)=(Int.ofNat a.2.1.length))) (some (false,())) (ZAD (s24_0) fuel (a.1,a.2.1,0,()) λx1=>some (true,()))
theorem ok24:N24 (F24):=fk1 p24 r24 q24_0 s24_0 .nil func24
def p5:List SP:=[.one (.r .u8)]
def r5:List SP:=[.one (.bool)]
abbrev T5:=List Int×Unit->Option (Bool×Unit)
abbrev N5(f:T5):=OKP 5 (mkE p5 r5 false f)
def F5(b:T8)(c:T17)(d:T18)(e:T19)(g:T20)(h:T22)(i:T21)(j:T23)(k:T24):T5:=λa=>
 (b (a.1,())).bind λx1=>cond x1.1 (some (true,())) ((c (a.1,())).bind λx2=>(d x2).bind λx3=>(d (x3.1,[115,97,102,101],())).bind λx4=>(d (x3.1,[100,114,121],())).bind λx5=>(d (x3.1,[104,105,103,104],())).bind λx6=>(d (x3.1,[116,117,114,110,32,52],())).bind λx7=>(d (x3.1,[108,105,109,105,116],())).bind λx8=>(d (x8.1,[115,97,102,101],())).bind λx9=>(e ((x3.1.1,x3.1.2.1,x3.1.2.2.1,x3.1.2.2.2.1,()),x3.1.2.2.2.2.1,(⟨⟨x3.1.2.2.2.2.2.1,x3.1.2.2.2.2.2.2.1⟩,⟨x3.1.2.2.2.2.2.2.2.1,x3.1.2.2.2.2.2.2.2.2.1⟩⟩:Box),())).bind λx10=>cond (x4.2.1=x10.1) ((g ((x3.1.1,x3.1.2.1,x3.1.2.2.1,x3.1.2.2.2.1,()),(⟨⟨x3.1.2.2.2.2.2.1,x3.1.2.2.2.2.2.2.1⟩,⟨x3.1.2.2.2.2.2.2.2.1,x3.1.2.2.2.2.2.2.2.2.1⟩⟩:Box),())).bind λx11=>cond ((decide (x5.2.1=[121,101,115]))=x11.1) ((h ((x3.1.1,x3.1.2.1,x3.1.2.2.1,x3.1.2.2.2.1,()),())).bind λx12=>(i (x12.1,())).bind λx13=>cond (x6.2.1=x13.1) ((j (x7.1.1,x3.1.1,())).bind λx14=>cond x14.1 ((k (x7.1.2.2.1,x3.1.2.2.1,())).bind λx15=>cond x15.1 (some ((decide (x9.2.1=[115,97,102,101])),())) (some (false,()))) (some (false,()))) (some (false,()))) (some (false,()))) (some (false,())))
theorem ok5{h l m n o p q r s} :N8 h->N17 l->N18 m->N19 n->N20 o->N22 p->N21 q->N23 r->N24 s->N5 (F5 h l m n o p q r s):=λa b c d e g i j k=>fk0 (oks9 a b c d e g i j k) func5
def p26:List SP:=[.one (.r .cue),.one (.r .cue)]
def r26:List SP:=[.one (.bool)]
abbrev T26:=List Cue×List Cue×Unit->Option (Bool×Unit)
abbrev N26(f:T26):=OKP 26 (mkE p26 r26 false f)
def q26_0:List SP:=pat 26 0 [(0,.one (.r .cue)),(1,.one (.r .cue)),(5,.one (.int .i64))]
def s26_0:Lp (List Cue×List Cue×Int×Unit) (Bool×Unit):=λt1 rec K=>
 cond (t1.2.2.1<(Int.ofNat t1.1.length)) (rdL t1.1 t1.2.2.1 λx1=>rdL t1.2.1 t1.2.2.1 λx2=>cond (!(decide (x1.Tick=x2.Tick) && (decide (x1.Name=x2.Name) && (decide (x1.Level=x2.Level) && (decide (x1.Ramp=x2.Ramp) && true))))) (some (false,())) (rec (t1.1,t1.2.1,(w64 (t1.2.2.1+1)),()))) (K t1)
def F26:T26:=λa=>
 cond (!((Int.ofNat a.1.length)=(Int.ofNat a.2.1.length))) (some (false,())) (ZAD (s26_0) fuel (a.1,a.2.1,0,()) λx1=>some (true,()))
theorem ok26:N26 (F26):=fk1 p26 r26 q26_0 s26_0 .nil func26
def p6:List SP:=[.one (.r .u8)]
def r6:List SP:=[.one (.bool)]
abbrev T6:=List Int×Unit->Option (Bool×Unit)
abbrev N6(f:T6):=OKP 6 (mkE p6 r6 false f)
def F6(b:T8)(c:T17)(d:T18)(e:T25)(g:T23)(h:T26)(i:T24):T6:=λa=>
 (b (a.1,())).bind λx1=>cond x1.1 (some (true,())) ((c (a.1,())).bind λx2=>(d x2).bind λx3=>(d (x3.1,[115,97,102,101],())).bind λx4=>(d (x4.1,[100,114,111,112,115,32,51],())).bind λx5=>(e (x2.1,())).bind λx6=>cond (!(!x6.1)) ((e (x3.1,())).bind λx7=>cond (!(!x7.1)) (cond (!(x4.2.1=[119,104,97,116])) (cond (x5.2.1=[119,104,97,116]) (some (false,())) ((g (x3.1.1,x5.1.1,())).bind λx8=>cond x8.1 ((h (x3.1.2.1,x5.1.2.1,())).bind λx9=>cond x9.1 ((i (x3.1.2.2.1,x5.1.2.2.1,())).bind λx10=>cond x10.1 (cond (x3.1.2.2.2.1=x5.1.2.2.2.1) (cond (decide (x3.1.2.2.2.2.2.1=x5.1.2.2.2.2.2.1) && (decide (x3.1.2.2.2.2.2.2.1=x5.1.2.2.2.2.2.2.1) && (decide (x3.1.2.2.2.2.2.2.2.1=x5.1.2.2.2.2.2.2.2.1) && (decide (x3.1.2.2.2.2.2.2.2.2.1=x5.1.2.2.2.2.2.2.2.2.1) && true)))) (some ((decide ((Int.ofNat x3.1.2.2.2.2.1.length)=(Int.ofNat x5.1.2.2.2.2.1.length))),())) (some (false,()))) (some (false,()))) (some (false,()))) (some (false,()))) (some (false,())))) (some (false,()))) (some (false,()))) (some (false,())))
theorem ok6{h j k l m n o} :N8 h->N17 j->N18 k->N25 l->N23 m->N26 n->N24 o->N6 (F6 h j k l m n o):=λa b c d e g i=>fk0 (oks7 a b c d e g i) func6
end Ev
end
noncomputable section
namespace Ev
open Go
abbrev G8:=F8
theorem okG8:N8 G8:=ok8
abbrev G33:=F33
theorem okG33:N33 G33:=ok33
abbrev G170:=F170
theorem okG170:N170 G170:=ok170
abbrev G79:=F79 G170
theorem okG79:N79 G79:=ok79 okG170
abbrev G268:=F268
theorem okG268:N268 G268:=ok268
abbrev G233:=F233
theorem okG233:N233 G233:=ok233
abbrev G269:=F269 G233
theorem okG269:N269 G269:=ok269 okG233
abbrev G354:=F354
theorem okG354:N354 G354:=ok354
abbrev G331:=F331 G233 G354
theorem okG331:N331 G331:=ok331 okG233 okG354
abbrev G270:=F270 G331
theorem okG270:N270 G270:=ok270 okG331
abbrev G248:=F248
theorem okG248:N248 G248:=ok248
abbrev G181:=F181 G248
theorem okG181:N181 G181:=ok181 okG248
abbrev G169:=F169 G268 G269 G270 G233 G181
theorem okG169:N169 G169:=ok169 okG268 okG269 okG270 okG233 okG181
abbrev G265:=F265
theorem okG265:N265 G265:=ok265
abbrev G266:=F266 G265
theorem okG266:N266 G266:=ok266 okG265
abbrev G230:=F230 G169 G266
theorem okG230:N230 G230:=ok230 okG169 okG266
abbrev G228:=F228
theorem okG228:N228 G228:=ok228
abbrev G167:=F167 G230 G169 G265 G266 G228
theorem okG167:N167 G167:=ok167 okG230 okG169 okG265 okG266 okG228
abbrev G90:=F90 G79
theorem okG90:N90 G90:=ok90 okG79
abbrev G182:=F182 G79
theorem okG182:N182 G182:=ok182 okG79
abbrev G92:=F92 G182
theorem okG92:N92 G92:=ok92 okG182
abbrev G267:=F267 G92 G79 G182
theorem okG267:N267 G267:=ok267 okG92 okG79 okG182
abbrev G168:=F168 G267 G182
theorem okG168:N168 G168:=ok168 okG267 okG182
abbrev G35:=F35 G79
theorem okG35:N35 G35:=ok35 okG79
abbrev G76:=F76 G79 G167 G90 G168 G35 G92
theorem okG76:N76 G76:=ok76 okG79 okG167 okG90 okG168 okG35 okG92
abbrev G147:=F147 G248 G78
theorem okG147:N147 G147:=ok147 okG248 okG78
abbrev G88:=F88 G181 G147
theorem okG88:N88 G88:=ok88 okG181 okG147
abbrev G77:=F77 G169 G147 G88 G78
theorem okG77:N77 G77:=ok77 okG169 okG147 okG88 okG78
abbrev G81:=F81 G90
theorem okG81:N81 G81:=ok81 okG90
abbrev G171:=F171 G233 G268
theorem okG171:N171 G171:=ok171 okG233 okG268
abbrev G80:=F80 G171 G78 G147
theorem okG80:N80 G80:=ok80 okG171 okG78 okG147
abbrev G93:=F93 G90
theorem okG93:N93 G93:=ok93 okG90
abbrev G179:=F179 G90
theorem okG179:N179 G179:=ok179 okG90
abbrev G36:=F36 G79
theorem okG36:N36 G36:=ok36 okG79
abbrev G178:=F178 G36
theorem okG178:N178 G178:=ok178 okG36
abbrev G177:=F177 G92 G35 G178 G36
theorem okG177:N177 G177:=ok177 okG92 okG35 okG178 okG36
abbrev G180:=F180 G267 G79 G177 G178 G36
theorem okG180:N180 G180:=ok180 okG267 okG79 okG177 okG178 okG36
abbrev G86:=F86 G93 G168 G79 G179 G178 G180 G177
theorem okG86:N86 G86:=ok86 okG93 okG168 okG79 okG179 okG178 okG180 okG177
abbrev G87:=F87 G79 G81 G36
theorem okG87:N87 G87:=ok87 okG79 okG81 okG36
abbrev G89:=F89 G182
theorem okG89:N89 G89:=ok89 okG182
abbrev G183:=F183 G92 G79 G177
theorem okG183:N183 G183:=ok183 okG92 okG79 okG177
abbrev G91:=F91 G79 G183
theorem okG91:N91 G91:=ok91 okG79 okG183
abbrev G45:=F45 G79 G78 G86 G77 G87 G80 G89 G88 G90 G91 G92 G81 G93
theorem okG45:N45 G45:=ok45 okG79 okG78 okG86 okG77 okG87 okG80 okG89 okG88 okG90 okG91 okG92 okG81 okG93
abbrev G34:=F34 G76 G77 G79 G78 G81 G80 G45
theorem okG34:N34 G34:=ok34 okG76 okG77 okG79 okG78 okG81 okG80 okG45
abbrev G37:=F37
theorem okG37:N37 G37:=ok37
abbrev G9:=F9 G33 G34 G35 G36 G37
theorem okG9:N9 G9:=ok9 okG33 okG34 okG35 okG36 okG37
abbrev G38:=F38
theorem okG38:N38 G38:=ok38
abbrev G10:=F10 G38
theorem okG10:N10 G10:=ok10 okG38
abbrev G39:=F39
theorem okG39:N39 G39:=ok39
abbrev G122:=F122 G121
theorem okG122:N122 G122:=ok122 okG121
abbrev G120:=F120 G121 G122
theorem okG120:N120 G120:=ok120 okG121 okG122
abbrev G50:=F50 G118 G119 G120 G121
theorem okG50:N50 G50:=ok50 okG118 okG119 okG120 okG121
abbrev G123:=F123 G216 G215
theorem okG123:N123 G123:=ok123 okG216 okG215
abbrev G51:=F51 G122 G123 G121
theorem okG51:N51 G51:=ok51 okG122 okG123 okG121
abbrev G52:=F52 G124
theorem okG52:N52 G52:=ok52 okG124
abbrev G25:=F25 G50 G51 G52
theorem okG25:N25 G25:=ok25 okG50 okG51 okG52
abbrev G186:=F186
theorem okG186:N186 G186:=ok186
abbrev G94:=F94 G184 G185 G186
theorem okG94:N94 G94:=ok94 okG184 okG185 okG186
abbrev G95:=F95
theorem okG95:N95 G95:=ok95
abbrev G46:=F46 G94 G95
theorem okG46:N46 G46:=ok46 okG94 okG95
abbrev G96:=F96
theorem okG96:N96 G96:=ok96
abbrev G97:=F97
theorem okG97:N97 G97:=ok97
abbrev G339:=F339
theorem okG339:N339 G339:=ok339
abbrev G279:=F279 G339
theorem okG279:N279 G279:=ok279 okG339
abbrev G190:=F190 G279
theorem okG190:N190 G190:=ok190 okG279
abbrev G99:=F99
theorem okG99:N99 G99:=ok99
abbrev G129:=F129
theorem okG129:N129 G129:=ok129
abbrev G54:=F54 G129
theorem okG54:N54 G54:=ok54 okG129
abbrev G58:=F58
theorem okG58:N58 G58:=ok58
abbrev G21:=F21 G57 G54 G58
theorem okG21:N21 G21:=ok21 okG57 okG54 okG58
abbrev G189:=F189 G190 G96 G99 G21
theorem okG189:N189 G189:=ok189 okG190 okG96 okG99 okG21
abbrev G55:=F55 G124 G21
theorem okG55:N55 G55:=ok55 okG124 okG21
abbrev G100:=F100 G188 G189 G190 G55
theorem okG100:N100 G100:=ok100 okG188 okG189 okG190 okG55
abbrev G98:=F98 G100
theorem okG98:N98 G98:=ok98 okG100
abbrev G47:=F47 G96 G97 G10 G98 G99 G100
theorem okG47:N47 G47:=ok47 okG96 okG97 okG10 okG98 okG99 okG100
abbrev G191:=F191 G192 G21 G55 G54
theorem okG191:N191 G191:=ok191 okG192 okG21 okG55 okG54
abbrev G101:=F101 G10 G189 G191 G100 G99
theorem okG101:N101 G101:=ok101 okG10 okG189 okG191 okG100 okG99
abbrev G198:=F198 G199 G54 G21
theorem okG198:N198 G198:=ok198 okG199 okG54 okG21
abbrev G104:=F104 G10 G99 G189 G198
theorem okG104:N104 G104:=ok104 okG10 okG99 okG189 okG198
abbrev G291:=F291 G120
theorem okG291:N291 G291:=ok291 okG120
abbrev G204:=F204 G291
theorem okG204:N204 G204:=ok204 okG291
abbrev G203:=F203
theorem okG203:N203 G203:=ok203
abbrev G106:=F106 G120 G121 G204 G203
theorem okG106:N106 G106:=ok106 okG120 okG121 okG204 okG203
abbrev G304:=F304
theorem okG304:N304 G304:=ok304
abbrev G220:=F220 G304
theorem okG220:N220 G220:=ok220 okG304
abbrev G292:=F292 G219 G304
theorem okG292:N292 G292:=ok292 okG219 okG304
abbrev G205:=F205 G118 G220 G292
theorem okG205:N205 G205:=ok205 okG118 okG220 okG292
abbrev G206:=F206 G120 G220
theorem okG206:N206 G206:=ok206 okG120 okG220
abbrev G107:=F107 G50 G205 G185 G206
theorem okG107:N107 G107:=ok107 okG50 okG205 okG185 okG206
abbrev G343:=F343 G124
theorem okG343:N343 G343:=ok343 okG124
abbrev G293:=F293 G124 G343
theorem okG293:N293 G293:=ok293 okG124 okG343
abbrev G207:=F207 G118 G124 G184 G293 G192
theorem okG207:N207 G207:=ok207 okG118 okG124 okG184 okG293 okG192
abbrev G108:=F108 G207 G50 G94
theorem okG108:N108 G108:=ok108 okG207 okG50 okG94
abbrev G126:=F126 G218
theorem okG126:N126 G126:=ok126 okG218
abbrev G225:=F225 G218 G126 G121
theorem okG225:N225 G225:=ok225 okG218 okG126 okG121
abbrev G303:=F303 G124 G219 G57 G220 G343
theorem okG303:N303 G303:=ok303 okG124 okG219 okG57 okG220 okG343
abbrev G217:=F217 G225 G303
theorem okG217:N217 G217:=ok217 okG225 okG303
abbrev G125:=F125 G126 G217
theorem okG125:N125 G125:=ok125 okG126 okG217
abbrev G214:=F214 G124
theorem okG214:N214 G214:=ok214 okG124
abbrev G301:=F301 G51 G121 G214
theorem okG301:N301 G301:=ok301 okG51 okG121 okG214
abbrev G213:=F213 G125 G126 G301
theorem okG213:N213 G213:=ok213 okG125 okG126 okG301
abbrev G130:=F130 G52 G121
theorem okG130:N130 G130:=ok130 okG52 okG121
abbrev G294:=F294 G130
theorem okG294:N294 G294:=ok294 okG130
abbrev G208:=F208 G192 G213 G294
theorem okG208:N208 G208:=ok208 okG192 okG213 okG294
abbrev G109:=F109 G50 G51 G52 G94 G208
theorem okG109:N109 G109:=ok109 okG50 okG51 okG52 okG94 okG208
abbrev G48:=F48 G46 G101 G102 G103 G104 G105 G106 G51 G52 G107 G108 G109
theorem okG48:OK prog 48 (N48 G48):=ok48 okG46 okG101 okG102 okG103 okG104 okG105 okG106 okG51 okG52 okG107 okG108 okG109
abbrev G295:=F295
theorem okG295:N295 G295:=ok295
abbrev G209:=F209 G57 G295
theorem okG209:N209 G209:=ok209 okG57 okG295
abbrev G110:=F110 G119 G209
theorem okG110:N110 G110:=ok110 okG119 okG209
abbrev G296:=F296 G121
theorem okG296:N296 G296:=ok296 okG121
abbrev G298:=F298 G296
theorem okG298:N298 G298:=ok298 okG296
abbrev G299:=F299
theorem okG299:N299 G299:=ok299
abbrev G297:=F297 G296 G281 G298 G299
theorem okG297:N297 G297:=ok297 okG296 okG281 okG298 okG299
abbrev G210:=F210 G296 G281 G297 G298 G299
theorem okG210:N210 G210:=ok210 okG296 okG281 okG297 okG298 okG299
abbrev G111:=F111 G50 G121 G110 G210
theorem okG111:N111 G111:=ok111 okG50 okG121 okG110 okG210
abbrev G40:=F40
theorem okG40:N40 G40:=ok40
abbrev G12:=F12 G40
theorem okG12:N12 G12:=ok12 okG40
abbrev G112:=F112 G12
theorem okG112:N112 G112:=ok112 okG12
abbrev G59:=F59 G50 G111
theorem okG59:N59 G59:=ok59 okG50 okG111
abbrev G211:=F211 G126
theorem okG211:N211 G211:=ok211 okG126
abbrev G300:=F300 G120 G291
theorem okG300:N300 G300:=ok300 okG120 okG291
abbrev G135:=F135 G225
theorem okG135:N135 G135:=ok135 okG225
abbrev G212:=F212 G217 G300 G135
theorem okG212:N212 G212:=ok212 okG217 okG300 okG135
abbrev G113:=F113 G59 G211 G212
theorem okG113:N113 G113:=ok113 okG59 okG211 okG212
abbrev G114:=F114 G59 G211 G212
theorem okG114:N114 G114:=ok114 okG59 okG211 okG212
abbrev G115:=F115 G59
theorem okG115:N115 G115:=ok115 okG59
abbrev G116:=F116 G59 G211
theorem okG116:N116 G116:=ok116 okG59 okG211
abbrev G60:=F60 G126 G135
theorem okG60:N60 G60:=ok60 okG126 okG135
abbrev G22:=F22 G59 G60
theorem okG22:N22 G22:=ok22 okG59 okG60
abbrev G127:=F127 G51 G219 G220
theorem okG127:N127 G127:=ok127 okG51 okG219 okG220
abbrev G128:=F128
theorem okG128:N128 G128:=ok128
abbrev G53:=F53 G51 G52 G59 G125 G126 G127 G128
theorem okG53:N53 G53:=ok53 okG51 okG52 okG59 okG125 okG126 okG127 okG128
abbrev G19:=F19 G50 G51 G52 G53 G54 G55
theorem okG19:N19 G19:=ok19 okG50 okG51 okG52 okG53 okG54 okG55
abbrev G117:=F117 G51 G59 G213 G214
theorem okG117:N117 G117:=ok117 okG51 okG59 okG213 okG214
abbrev G56:=F56 G52 G114 G130
theorem okG56:N56 G56:=ok56 okG52 okG114 okG130
abbrev G20:=F20 G50 G52 G56
theorem okG20:N20 G20:=ok20 okG50 okG52 okG56
abbrev G49:=F49 G110 G21 G111 G112 G113 G54 G55 G114 G115 G116 G22 G19 G117 G20
theorem okG49:N49 G49:=ok49 okG110 okG21 okG111 okG112 okG113 okG54 okG55 okG114 okG115 okG116 okG22 okG19 okG117 okG20
abbrev G18:=F18 G25 G46 G47 G48 G49
theorem okG18:N18 G18:=ok18 okG25 okG46 okG47 okG48 okG49
abbrev G11:=F11 G10 G39 G18
theorem okG11:N11 G11:=ok11 okG10 okG39 okG18
abbrev G3:=F3 G8 G9 G10 G11 G12
theorem okG3:N3 G3:=ok3 okG8 okG9 okG10 okG11 okG12
abbrev G41:=F41
theorem okG41:N41 G41:=ok41
abbrev G42:=F42
theorem okG42:N42 G42:=ok42
abbrev G229:=F229
theorem okG229:N229 G229:=ok229
abbrev G139:=F139 G228 G229
theorem okG139:N139 G139:=ok139 okG228 okG229
abbrev G63:=F63 G139
theorem okG63:N63 G63:=ok63 okG139
abbrev G307:=F307
theorem okG307:N307 G307:=ok307
abbrev G231:=F231 G171 G307
theorem okG231:N231 G231:=ok231 okG171 okG307
abbrev G234:=F234 G233
theorem okG234:N234 G234:=ok234 okG233
abbrev G232:=F232 G233 G234
theorem okG232:N232 G232:=ok232 okG233 okG234
abbrev G140:=F140 G230 G231 G232 G233
theorem okG140:N140 G140:=ok140 okG230 okG231 okG232 okG233
abbrev G235:=F235
theorem okG235:N235 G235:=ok235
abbrev G141:=F141 G234 G235
theorem okG141:N141 G141:=ok141 okG234 okG235
abbrev G142:=F142 G181
theorem okG142:N142 G142:=ok142 okG181
abbrev G64:=F64 G140 G141 G142
theorem okG64:N64 G64:=ok64 okG140 okG141 okG142
abbrev G348:=F348
theorem okG348:N348 G348:=ok348
abbrev G311:=F311 G331
theorem okG311:N311 G311:=ok311 okG331
abbrev G371:=F371
theorem okG371:N371 G371:=ok371
abbrev G355:=F355 G371
theorem okG355:N355 G355:=ok355 okG371
abbrev G317:=F317
theorem okG317:N317 G317:=ok317
abbrev G351:=F351 G355 G317
theorem okG351:N351 G351:=ok351 okG355 okG317
abbrev G356:=F356 G331 G311 G351
theorem okG356:N356 G356:=ok356 okG331 okG311 okG351
abbrev G316:=F316 G311 G356
theorem okG316:N316 G316:=ok316 okG311 okG356
abbrev G358:=F358
theorem okG358:N358 G358:=ok358
abbrev G313:=F313
theorem okG313:N313 G313:=ok313
abbrev G319:=F319 G181 G358 G313
theorem okG319:N319 G319:=ok319 okG181 okG358 okG313
abbrev G357:=F357 G319 G141
theorem okG357:N357 G357:=ok357 okG319 okG141
abbrev G318:=F318 G316 G311 G357 G317
theorem okG318:N318 G318:=ok318 okG316 okG311 okG357 okG317
abbrev G320:=F320 G142
theorem okG320:N320 G320:=ok320 okG142
abbrev G349:=F349 G320
theorem okG349:N349 G349:=ok349 okG320
abbrev G308:=F308 G169 G142 G348 G318 G349
theorem okG308:N308 G308:=ok308 okG169 okG142 okG348 okG318 okG349
abbrev G236:=F236 G140 G141 G142 G139 G308
theorem okG236:N236 G236:=ok236 okG140 okG141 okG142 okG139 okG308
abbrev G359:=F359
theorem okG359:N359 G359:=ok359
abbrev G323:=F323 G248 G359
theorem okG323:N323 G323:=ok323 okG248 okG359
abbrev G249:=F249 G323
theorem okG249:N249 G249:=ok249 okG323
abbrev G373:=F373 G233
theorem okG373:N373 G373:=ok373 okG233
abbrev G375:=F375 G358
theorem okG375:N375 G375:=ok375 okG358
abbrev G376:=F376
theorem okG376:N376 G376:=ok376
abbrev G374:=F374 G373 G269 G375 G376
theorem okG374:N374 G374:=ok374 okG373 okG269 okG375 okG376
abbrev G361:=F361 G373 G269 G374 G375 G376
theorem okG361:N361 G361:=ok361 okG373 okG269 okG374 okG375 okG376
abbrev G329:=F329 G233 G249 G358 G361
theorem okG329:N329 G329:=ok329 okG233 okG249 okG358 okG361
abbrev G309:=F309 G329 G348
theorem okG309:N309 G309:=ok309 okG329 okG348
abbrev G325:=F325
theorem okG325:N325 G325:=ok325
abbrev G350:=F350 G232 G325 G317
theorem okG350:N350 G350:=ok350 okG232 okG325 okG317
abbrev G352:=F352 G311
theorem okG352:N352 G352:=ok352 okG311
abbrev G310:=F310 G350 G351 G317 G352
theorem okG310:N310 G310:=ok310 okG350 okG351 okG317 okG352
abbrev G238:=F238 G140 G309 G311 G310
theorem okG238:N238 G238:=ok238 okG140 okG309 okG311 okG310
abbrev G254:=F254 G37
theorem okG254:N254 G254:=ok254 okG37
abbrev G237:=F237 G78 G88 G147 G254
theorem okG237:N237 G237:=ok237 okG78 okG88 okG147 okG254
abbrev G312:=F312 G311 G352
theorem okG312:N312 G312:=ok312 okG311 okG352
abbrev G239:=F239 G140 G309 G312 G313
theorem okG239:N239 G239:=ok239 okG140 okG309 okG312 okG313
abbrev G315:=F315 G141 G354 G355
theorem okG315:N315 G315:=ok315 okG141 okG354 okG355
abbrev G353:=F353
theorem okG353:N353 G353:=ok353
abbrev G314:=F314 G309 G316 G315 G311 G317 G353
theorem okG314:N314 G314:=ok314 okG309 okG316 okG315 okG311 okG317 okG353
abbrev G240:=F240 G140 G141 G142 G314 G315 G316 G311 G78 G317 G88
theorem okG240:N240 G240:=ok240 okG140 okG141 okG142 okG314 okG315 okG316 okG311 okG78 okG317 okG88
abbrev G241:=F241 G140 G141 G309 G318 G319
theorem okG241:N241 G241:=ok241 okG140 okG141 okG309 okG318 okG319
abbrev G242:=F242 G140 G142 G238 G320
theorem okG242:N242 G242:=ok242 okG140 okG142 okG238 okG320
abbrev G143:=F143 G236 G238 G237 G239 G147 G240 G241 G88 G242
theorem okG143:N143 G143:=ok143 okG236 okG238 okG237 okG239 okG147 okG240 okG241 okG88 okG242
abbrev G144:=F144 G78
theorem okG144:N144 G144:=ok144 okG78
abbrev G250:=F250 G41 G144 G147
theorem okG250:N250 G250:=ok250 okG41 okG144 okG147
abbrev G149:=F149 G250 G88
theorem okG149:N149 G149:=ok149 okG250 okG88
abbrev G145:=F145 G149
theorem okG145:N145 G145:=ok145 okG149
abbrev G243:=F243 G41 G250 G149 G77 G144
theorem okG243:N243 G243:=ok243 okG41 okG250 okG149 okG77 okG144
abbrev G247:=F247
theorem okG247:N247 G247:=ok247
abbrev G321:=F321 G230
theorem okG321:N321 G321:=ok321 okG230
abbrev G244:=F244 G265 G230 G321 G228
theorem okG244:N244 G244:=ok244 okG265 okG230 okG321 okG228
abbrev G245:=F245 G41 G144 G250 G80
theorem okG245:N245 G245:=ok245 okG41 okG144 okG250 okG80
abbrev G322:=F322 G307 G229
theorem okG322:N322 G322:=ok322 okG307 okG229
abbrev G246:=F246 G322 G231 G171 G229
theorem okG246:N246 G246:=ok246 okG322 okG231 okG171 okG229
abbrev G146:=F146 G243 G167 G247 G244 G245 G246
theorem okG146:N146 G146:=ok146 okG243 okG167 okG247 okG244 okG245 okG246
abbrev G148:=F148 G231 G249
theorem okG148:N148 G148:=ok148 okG231 okG249
abbrev G324:=F324 G325
theorem okG324:N324 G324:=ok324 okG325
abbrev G326:=F326
theorem okG326:N326 G326:=ok326
abbrev G251:=F251 G232 G324 G325 G326
theorem okG251:N251 G251:=ok251 okG232 okG324 okG325 okG326
abbrev G150:=F150 G251 G247
theorem okG150:N150 G150:=ok150 okG251 okG247
abbrev G372:=F372 G354 G371
theorem okG372:N372 G372:=ok372 okG354 okG371
abbrev G360:=F360 G355 G317 G372 G169
theorem okG360:N360 G360:=ok360 okG355 okG317 okG372 okG169
abbrev G327:=F327 G230 G360
theorem okG327:N327 G327:=ok327 okG230 okG360
abbrev G328:=F328 G232 G355
theorem okG328:N328 G328:=ok328 okG232 okG355
abbrev G252:=F252 G140 G327 G229 G328
theorem okG252:N252 G252:=ok252 okG140 okG327 okG229 okG328
abbrev G253:=F253 G140 G329
theorem okG253:N253 G253:=ok253 okG140 okG329
abbrev G255:=F255 G140 G309 G311 G310
theorem okG255:N255 G255:=ok255 okG140 okG309 okG311 okG310
abbrev G256:=F256 G140 G309
theorem okG256:N256 G256:=ok256 okG140 okG309
abbrev G257:=F257 G140 G309 G311
theorem okG257:N257 G257:=ok257 okG140 okG309 okG311
abbrev G151:=F151 G247 G252 G253 G147 G254 G255 G237 G256 G78 G257
theorem okG151:N151 G151:=ok151 okG247 okG252 okG253 okG147 okG254 okG255 okG237 okG256 okG78 okG257
abbrev G330:=F330 G230 G181 G360
theorem okG330:N330 G330:=ok330 okG230 okG181 okG360
abbrev G258:=F258 G330 G140 G139
theorem okG258:N258 G258:=ok258 okG330 okG140 okG139
abbrev G152:=F152 G141 G247 G142 G258
theorem okG152:N152 G152:=ok152 okG141 okG247 okG142 okG258
abbrev G65:=F65 G41 G143 G144 G145 G146 G148 G147 G149 G150 G151 G152
theorem okG65:N65 G65:=ok65 okG41 okG143 okG144 okG145 okG146 okG148 okG147 okG149 okG150 okG151 okG152
abbrev G28:=F28 G63 G64 G65
theorem okG28:N28 G28:=ok28 okG63 okG64 okG65
abbrev G44:=F44 G42 G34 G28
theorem okG44:N44 G44:=ok44 okG42 okG34 okG28
abbrev G17:=F17 G33 G44 G45
theorem okG17:N17 G17:=ok17 okG33 okG44 okG45
abbrev G23:=F23
theorem okG23:N23 G23:=ok23
abbrev G24:=F24
theorem okG24:N24 G24:=ok24
abbrev G5:=F5 G8 G17 G18 G19 G20 G22 G21 G23 G24
theorem okG5:N5 G5:=ok5 okG8 okG17 okG18 okG19 okG20 okG22 okG21 okG23 okG24
abbrev G26:=F26
theorem okG26:N26 G26:=ok26
abbrev G6:=F6 G8 G17 G18 G25 G23 G26 G24
theorem okG6:N6 G6:=ok6 okG8 okG17 okG18 okG25 okG23 okG26 okG24
end Ev
end
