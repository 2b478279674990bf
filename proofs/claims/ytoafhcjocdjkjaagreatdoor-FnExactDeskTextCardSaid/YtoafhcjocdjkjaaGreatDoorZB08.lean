/- Laid together by program (what the claim does not reach is left out): Last, Last2, Last3, Last4, Last5, Last6, Fn3, Abb. -/
import Derived.Test.YtoafhcjocdjkjaaGreatDoorZB07
import Derived.WalkKit
import Derived.ProofKit
import Derived.LoopN
import Derived.Shelf.Strings.IndexAnyAll
import Derived.Lib.SpaceUEq
import Derived.Laws.Runes
import Derived.Scope
import Derived.RegionTactic
import Derived.Deep.QuietTactic
import Derived.BigQuiet
import Derived.WalkMore
set_option linter.all false
set_option maxRecDepth 1000000
open Go.Proofs.Tryz
noncomputable section
namespace Ev
open Go Go.Proofs Go.RowKit Go.Lib
def ZUN(w:World):Calls prog 277 #[.string ⟨#[43,45]⟩,.int .i32 65533] w λe w'=>e= .returned (.int .i64 (-1))/\Below w.heap.size w w':=by
 have n0:=λty=>run_next_ascii (P:=prog) w ⟨#[43,45]⟩ 0 ty (by decide) (by decide)
 have n1:=λty=>run_next_ascii (P:=prog) w ⟨#[43,45]⟩ 1 ty (by decide) (by decide)
 have n2:=λty=>run_next_end (P:=prog) w ⟨#[43,45]⟩ 2 ty (by decide)
 go_enter func277,ntmps277
 go_wp2
 refine wp_loop_rounds 3 ?_
 rw[rounds_succ]
 go_wp2
 rw[rounds_succ]
 go_wp2
 rw[rounds_succ]
 go_wp2
 go_ret
 exact⟨rfl,(Below.refl _ _).alloc (Nat.le_refl _) _⟩
def ZUO{L:ByteArray}(h:L.size=2): ∃y x,L=⟨#[y,x]⟩:=by
 obtain⟨⟨l⟩⟩:=L
 match l,h with
 | [y,x],_=>exact⟨y,x,rfl⟩
set_option maxHeartbeats 8000000 in
def ZUP(r:Nat)(h:128<=r)(hv:Lib.validRune (r:Int)=true)(hne:r≠65533)(y x:UInt8)(hx:128<=x.toNat)(w:World)(hcv: ∀w,(convert 21 9 (.int .i32 (r:Int))).run prog w= .ok (.string ⟨#[y,x]⟩) w):Calls prog 277 #[.string ⟨#[43,45]⟩,.int .i32 r] w λe w'=>e= .returned (.int .i64 (-1))/\Below w.heap.size w w':=by
 have mixed:prog.follows .mixedOrders=true:=by kernel_rfl
 have c1: ¬((r:Int)<128):=by omega
 have c2: ¬((r:Int)=65533):=by omega
 have c2':((r:Int)==65533)=false:=beq_eq_false_iff_ne.2 c2
 have c5: ¬((45:Int)=(x.toNat:Int)):=by omega
 have c6:((45:Int)==(x.toNat:Int))=false:=beq_eq_false_iff_ne.2 c5
 have c7:((((⟨#[43,45]⟩:ByteArray)[1]'(by decide)).toNat:Int) !=(((⟨#[y,x]⟩:ByteArray)[1]'(show 1<2 by decide)).toNat:Int))=true:=by
  show((45:Int) !=(x.toNat:Int))=true
  simpa using c5
 go_enter func277,ntmps277
 go_wp2_with (first | (go_at_call 338;refine(utf8_ValidRune _ _).mono ?_;rintro e w' ⟨rfl,hw⟩;rw[hw,hv]) | fail)
 refine wp_scope_straight ?_
 go_wp2
 refine wp_loop_rounds 1 ?_
 rw[rounds_succ]
 go_wp2_with (first | (go_at_call 337;refine(strings_IndexByte _ _ _).mono ?_;rintro e w' ⟨rfl,hw⟩;rw[hw]) | fail)
 refine wp_scope_straight ?_
 go_wp2
 go_quiet (fail)
 obtain⟨w1,hw1⟩: ∃w1,w.drewN nq=w1:=⟨_,rfl⟩
 have hB1:Hid (Below w.heap.size w w1):=by rw[<-hw1];exact⟨rfl,rfl,rfl,Nat.le_refl _,λ_ _=>rfl⟩
 rw[hw1]
 clear hw1
 go_wp2
 go_quiet ((go_at_call 337;refine Calls.quiet_of_same (strings_IndexByte _ _ _)))
 go_wp2
 simp only[Exit.noGoto,Exit.inBlock,Exit.then]
 go_ret
 exact⟨rfl,by rename_i n _;exact hB1.out.trans ⟨rfl,rfl,rfl,Nat.le_refl _,λ_ _=>rfl⟩⟩
end Ev
end
noncomputable section
namespace Ev
open Go Go.Proofs Go.RowKit Go.Lib
set_option maxHeartbeats 8000000 in
def ZUQ(r:Nat)(h:128<=r)(hv:Lib.validRune (r:Int)=true)(hne:r≠65533)(L:ByteArray)(h3:3<=L.size)(h4:L.size<=4)(w:World)(hcv: ∀w,(convert 21 9 (.int .i32 (r:Int))).run prog w= .ok (.string L) w):Calls prog 277 #[.string ⟨#[43,45]⟩,.int .i32 r] w λe w'=>e= .returned (.int .i64 (-1))/\Below w.heap.size w w':=by
 have mixed:prog.follows .mixedOrders=true:=by kernel_rfl
 have c1: ¬((r:Int)<128):=by omega
 have c2: ¬((r:Int)=65533):=by omega
 have c2':((r:Int)==65533)=false:=beq_eq_false_iff_ne.2 c2
 have c3: ¬((L.size:Int) -1<2):=by omega
 have c4:decide ((L.size:Int) -1<2)=false:=ZAG c3
 go_enter func277,ntmps277
 go_wp2_with (first | (go_at_call 338;refine(utf8_ValidRune _ _).mono ?_;rintro e w' ⟨rfl,hw⟩;rw[hw,hv]) | fail)
 refine wp_scope_straight ?_
 go_wp2
 refine wp_loop_rounds 1 ?_
 rw[rounds_succ]
 go_wp2
 try simp only[Exit.noGoto,Exit.inBlock,Exit.then]
 go_ret
 exact⟨rfl,Below.refl _ _⟩
def ZKp(r:Nat)(hr:r<128\/(128<=r/\Lib.validRune (r:Int)=true))(w:World):Calls prog 277 #[.string ⟨#[43,45]⟩,.int .i32 r] w λe w'=> ∃z:Int,e= .returned (.int .i64 z)/\decide (0<=z)=(decide (r<128) && isPM r.toUInt8)/\Below w.heap.size w w':=by
 rcases hr with hr | ⟨hr,hv⟩
 ·refine(strings_IndexRune_ascii ⟨#[43,45]⟩ r w (by omega) (by omega)).mono ?_
  rintro e w' ⟨rfl,rfl⟩
  refine⟨_,rfl,?_,Below.refl _ _⟩
  rw[ZAL hr,Bool.true_and]
  exact ZUI _
 ·have hd:(decide (r<128) && isPM r.toUInt8)=decide (0<=(-1:Int)):=by rw[ZAG (by omega: ¬r<128)];rfl
  have fin: ∀ {e:Ending} {w':World},(e= .returned (.int .i64 (-1))/\Below w.heap.size w w')-> ∃z:Int,e= .returned (.int .i64 z)/\decide (0<=z)=(decide (r<128) && isPM r.toUInt8)/\Below w.heap.size w w':=
   λ⟨h1,h2⟩=>⟨-1,h1,hd.symm,h2⟩
  by_cases he:r=65533
  ·subst he
   exact(ZUN w).mono λe w' h=>fin h
  ·have hv':Utf8.valid (r:Int)=true:=by
    unfold Lib.validRune at hv
    unfold Utf8.valid
    simp at hv⊢
    omega
   obtain⟨h2,h4,hb⟩:=encode_facts (r:Int) hv' (by omega)
   have hcv:=λw=>run_convert_int_string (P:=prog) w 21 9 .i32 (r:Int) (by kernel_rfl) underlying9
   generalize Utf8.encode (r:Int)=L at h2 h4 hb hcv
   by_cases h3:3<=L.size
   ·exact(ZUQ r hr hv he L h3 h4 w hcv).mono λe w' h=>fin h
   ·obtain⟨y,x,rfl⟩:=ZUO (L:=L) (by omega)
    exact(ZUP r hr hv he y x (hb (show 2-1<2 by decide)) w hcv).mono λe w' h=>fin h
end Ev
end
noncomputable section
namespace Ev
open Go Go.Proofs Go.RowKit Go.Lib
def ZUR(b:UInt8):isPM b.toNat.toUInt8=isPM b:=by simp
set_option maxHeartbeats 400000 in
def ZUS(b:UInt8)(w:World)(hb:b.toNat<128):Calls prog 188 #[.string ⟨#[b]⟩,.string ⟨#[43,45]⟩] w λe w'=>e= .returned (.int .i64 (ZAY [b]))/\Below w.heap.size w w':=by
 have mixed:prog.follows .mixedOrders=true:=by kernel_rfl
 have hl:ZAY [b]=if isPM b=true then 0 else-1:=rfl
 have c1: ¬((128:Int)<=(((⟨#[b]⟩:ByteArray)[0]'(show 0<1 by decide)).toNat:Int)):=by
   show¬((128:Int)<=(b.toNat:Int))
   omega
 go_enter func188,ntmps188
 go_wp2_with fail
 have key: ∀(z:Int),decide (0<=z)=isPM b->ZAY [b]=if 0<=z then 0 else-1:=by
  intro z hz
  rw[hl,<-hz]
  by_cases h:0<=z<;>simp[h]
 refine(ZKp b.toNat (.inl hb) w).mono ?_
 rintro e w1 ⟨z,rfl,hz,hB⟩
 rw[ZAL hb,Bool.true_and,ZUR]at hz
 have hk:=key z hz
 clear key hz hl
 simp only
 by_cases h0:0<=z
 ·rw[al_if_pos h0]at hk
  have HK:=(show Hid _ from hk)
  clear hk
  have HB:=(show Hid _ from hB)
  clear hB
  have h0':decide (0<=z)=true:=ZAL h0
  go_wp2
  go_ret
  exact⟨by rw[HK.out];rfl,HB.out⟩
 ·rw[al_if_neg h0]at hk
  have HK:=(show Hid _ from hk)
  clear hk
  have HB:=(show Hid _ from hB)
  clear hB
  have h0':decide (0<=z)=false:=ZAG h0
  go_wp2
  go_ret
  exact⟨by rw[HK.out];rfl,HB.out⟩
set_option maxHeartbeats 400000 in
def ZUT(b:UInt8)(w:World)(hb: ¬b.toNat<128):Calls prog 188 #[.string ⟨#[b]⟩,.string ⟨#[43,45]⟩] w λe w'=>e= .returned (.int .i64 (ZAY [b]))/\Below w.heap.size w w':=by
 have mixed:prog.follows .mixedOrders=true:=by kernel_rfl
 have hl:ZAY [b]= -1:=by
  show(if isPM b=true then(0:Int)else-1)= -1
  rw[ZOs (by omega)];rfl
 have c1:(128:Int)<=(((⟨#[b]⟩:ByteArray)[0]'(show 0<1 by decide)).toNat:Int):=by
   show(128:Int)<=(b.toNat:Int)
   omega
 have c2:(((⟨#[b]⟩:ByteArray)[0]'(show 0<1 by decide)).toNat:Int)<256:=by
   show(b.toNat:Int)<256
   have:=b.toNat_lt
   omega
 have HL:=(show Hid _ from hl)
 clear hl
 go_enter func188,ntmps188
 go_wp2_with fail
 refine(ZKp 65533 (.inr ⟨by decide,by decide⟩) w).mono ?_
 rintro e w1 ⟨z,rfl,hz,hB⟩
 have h0: ¬(0<=z):=of_decide_eq_false hz
 clear hz
 simp only
 have HB:=(show Hid _ from hB)
 clear hB
 have h0':decide (0<=z)=false:=ZAG h0
 go_wp2
 go_ret
 exact⟨by rw[HL.out];rfl,HB.out⟩
def ZUU(b:UInt8)(w:World):Calls prog 188 #[.string ⟨#[b]⟩,.string ⟨#[43,45]⟩] w λe w'=>e= .returned (.int .i64 (ZAY [b]))/\Below w.heap.size w w':=by
 by_cases hb:b.toNat<128
 ·exact ZUS b w hb
 ·exact ZUT b w hb
end Ev
end
noncomputable section
namespace Ev
open Go Go.Proofs Go.RowKit Go.Lib
def ZUV(x:UInt8):([43,45]:List UInt8).contains x=isPM x:=by
 unfold isPM
 simp only[List.contains_cons,List.contains_nil,Bool.or_false]
set_option maxHeartbeats 800000 in
def ZUW(s:ByteArray)(w:World)(h8:8<s.size)(hs:s.size<4294967281):Calls prog 188 #[.string s,.string ⟨#[43,45]⟩] w λe w'=>e= .returned (.int .i64 (ZAY s.data.toList))/\Below w.heap.size w w':=by
 have mixed:prog.follows .mixedOrders=true:=by kernel_rfl
 have hn1:((s.size:Int)==1)=false:=beq_eq_false_iff_ne.2 (by omega)
 have hn1': ¬((s.size:Int)=1):=by omega
 have h8z:decide ((8:Int)<(s.size:Int))=true:=ZAL (by omega)
 go_enter func188,ntmps188
 go_wp2_with fail
 refine(strings_shouldUseASCIISet _ _).mono ?_
 rintro e w' ⟨rfl,hw⟩
 rw[hw,h8z]
 clear hw
 simp only
 go_wp2_with fail
 have hv192: ∀w,(zeroValue 192).run prog w= .ok (.agg (Array.replicate 256 (.bool false))) w:=λw=>zeroValue192 w
 refine(strings_makeASCIISet hv192 ⟨#[43,45]⟩ w (by decide) (by
  intro j b hj
  match j,hj with
  | 0,hj=>cases hj;decide
  | 1,hj=>cases hj;decide
  | j+2,hj=>simp at hj)).mono ?_
 rintro e w' ⟨rfl,hw⟩
 rw[hw]
 clear hw
 simp only
 have hi116:(prog.info? 192).map (·.size)=some 256:=by kernel_rfl
 have hsz:=Lib.setCells_size [43,45]
 have hsc:(storeCells ⟨w.heap.size+1,0,none⟩ (Lib.setCells [43,45]).toList 0).run prog ((w.alloc (.cells (Lib.setCells [43,45]) 192)).alloc (.cells (Array.replicate 256 (.bool false)) 192))= .ok () ((w.alloc (.cells (Lib.setCells [43,45]) 192)).alloc (.cells (Lib.setCells [43,45]) 192)):=by
  have:=run_storeCells_new (P:=prog) (w.alloc (.cells (Lib.setCells [43,45]) 192)) 192 (Array.replicate 256 (.bool false)) (Lib.setCells [43,45]) (by rw[Lib.setCells_size];exact hi116) (by rw[Lib.setCells_size,Array.size_replicate]) (Lib.setCells_one _)
  simpa using this
 go_wp2_with fail
 have hcellAt: ∀x:UInt8,((w.alloc (.cells (Lib.setCells [43,45]) 192)).alloc (.cells (Lib.setCells [43,45]) 192)).cell? ⟨w.heap.size+1,x.toNat,none⟩=some (.bool (([43,45]:List UInt8).contains x)):=λx=>by
  rw[World.cell?_alloc_at _ _ _ _ (by simp),Lib.setCells_at]
 have HC:=(show Hid _ from hcellAt)
 clear hcellAt hsc
 go_loopg [8] s.size (λg s8 wx=>g<=s.size/\s8= .int .i64 ((g:Int) -1)/\wx=((w.alloc (.cells (Lib.setCells [43,45]) 192)).alloc (.cells (Lib.setCells [43,45]) 192))/\Hid (ZAY s.data.toList=ZAY (s.data.toList.take g)))
 case atStart=>exact⟨Nat.le_refl _,rfl,rfl,by unfold Hid;rw[List.take_of_length_le (Nat.le_of_eq (Lib.size_eq s).symm)]⟩
 case round=>
  obtain⟨hle,rfl,rfl,hL⟩:=hrel
  cases gk with
  | zero=>
   go_wp2
   go_ret
   exact⟨by rw[hL.out];rfl,((Below.refl _ _).alloc (Nat.le_refl _) _).alloc (by simp) _⟩
  | succ g=>
   have hi:g<s.size:=by omega
   have hg:((g+1:Nat):Int) -1=(g:Int):=by omega
   rw[hg]
   have hgz:(g:Int)<(s.size:Int):=by omega
   have hx:s.data.toList[g]?=some (s[g]'hi):=Lib.data_getElem? s g hi
   have hcx:=HC.out (s[g]'hi)
   have hpm:([43,45]:List UInt8).contains (s[g]'hi)=isPM (s[g]'hi):=ZUV _
   have hst:Hid (ZAY s.data.toList=if isPM (s[g]'hi)=true then(g:Int)else ZAY (s.data.toList.take g)):=by
    show ZAY s.data.toList=_
    rw[hL.out,List.take_add_one,hx]
    show ZAY (s.data.toList.take g++[s[g]'hi])=_
    rw[ZIV,al_len_take,<-Lib.size_eq,Nat.min_eq_left (Nat.le_of_lt hi)]
   rw[hpm]at hcx
   clear hL hpm hx
   cases hb:isPM (s[g]'hi)
   ·rw[hb]at hcx
    have hr:Hid (ZAY s.data.toList=ZAY (s.data.toList.take g)):=by
     show ZAY s.data.toList=_
     rw[hst.out,al_if_neg (by rw[hb];simp)]
    clear hb hst
    go_wp2_with (go_at_call 222;refine(asciiSet_contains _ (s[g]'hi) _ _ hcx).mono ?_;rintro e w' ⟨rfl,hw⟩;rw[hw])
    go_roundg g
    case measure=>omega
    case rel=>exact⟨by omega,rfl,rfl,hr⟩
   ·rw[hb]at hcx
    have hr:Hid (ZAY s.data.toList=(g:Int)):=by
     show ZAY s.data.toList=_
     rw[hst.out,al_if_pos hb]
    clear hb hst
    go_wp2_with (go_at_call 222;refine(asciiSet_contains _ (s[g]'hi) _ _ hcx).mono ?_;rintro e w' ⟨rfl,hw⟩;rw[hw])
    go_ret
    exact⟨by rw[hr.out];rfl,((Below.refl _ _).alloc (Nat.le_refl _) _).alloc (by simp) _⟩
end Ev
end
noncomputable section
namespace Ev
open Go Go.Proofs Go.RowKit Go.Lib
def ZUX{w w':World}(h:Lib.Utf8Tabs 1 2 w)(k:Below w.heap.size w w'):Lib.Utf8Tabs 1 2 w':=by
 have keep: ∀b o v,w.cell? ⟨b,o,none⟩=some v->w'.cell? ⟨b,o,none⟩=some v:=by
  intro b o v hv
  have hb:b<w.heap.size:=by
   unfold World.cell? at hv
   rcases Nat.lt_or_ge b w.heap.size with hb | hb
   ·exact hb
   ·rw[Array.getElem?_eq_none hb]at hv;cases hv
  rw[<-hv]
  unfold World.cell?
  rw[k.block b hb]
 exact⟨λc hc=>keep _ _ _ (h.1 c hc),λi hi=>⟨keep _ _ _ (h.2 i hi).1,keep _ _ _ (h.2 i hi).2⟩⟩
def ZOu{w w1 w2:World}(h:Below w.heap.size w w1)(k:Below w1.heap.size w1 w2):Below w.heap.size w w2:=
 ⟨k.os.trans h.os,k.tape.trans h.tape,k.output.trans h.output,Nat.le_trans h.size k.size,λb hb=>(k.block b (Nat.lt_of_lt_of_le hb h.size)).trans (h.block b hb)⟩
set_option maxHeartbeats 400000 in
def ZUY(s:ByteArray)(w:World)(h1:s.size≠1)(h8:s.size<=8)(hT:Lib.Utf8Tabs 1 2 w):Calls prog 188 #[.string s,.string ⟨#[43,45]⟩] w λe w'=>e= .returned (.int .i64 (ZAY s.data.toList))/\Below w.heap.size w w':=by
 have mixed:prog.follows .mixedOrders=true:=by kernel_rfl
 have hn1:((s.size:Int)==1)=false:=beq_eq_false_iff_ne.2 (by omega)
 have hn1': ¬((s.size:Int)=1):=by omega
 have h8z:decide ((8:Int)<(s.size:Int))=false:=ZAG (by omega)
 have HT:=(show Hid _ from hT)
 clear hT
 go_enter func188,ntmps188
 go_wp2_with fail
 refine(strings_shouldUseASCIISet _ _).mono ?_
 rintro e w' ⟨rfl,hw⟩
 rw[hw,h8z]
 clear hw
 simp only
 go_wp2
 go_loopg [13,14,15] s.size (λg s13 _ _ wx=>g<=s.size/\s13= .int .i64 g/\Hid (Below w.heap.size w wx)/\Hid (ZAY s.data.toList=ZAY (s.data.toList.take g)))
 case atStart=>exact⟨Nat.le_refl _,rfl,Below.refl _ _,by unfold Hid;rw[List.take_of_length_le (Nat.le_of_eq (Lib.size_eq s).symm)]⟩
 case round=>
  obtain⟨hle,rfl,hB,hL⟩:=hrel
  cases gk with
  | zero=>
   go_wp2
   go_ret
   exact⟨by rw[hL.out];rfl,hB.out⟩
  | succ g=>
   go_wp2_with fail
   have hd:(s.extract 0 (g+1)).data.toList=s.data.toList.take (g+1):=Lib.extract_from_zero s (g+1)
   have hlen:(s.data.toList.take (g+1)).length=g+1:=by rw[al_len_take,<-Lib.size_eq];omega
   have hne:s.data.toList.take (g+1)≠[]:=by intro e;rw[e]at hlen;simp at hlen
   have hD:=utf8_DecodeLastRuneInString (s.extract 0 (g+1)) wr (by rw[Lib.size_eq,hd,hlen];omega) (ZUX HT.out hB.out)
   rw[hd]at hD
   obtain⟨⟨a1,a2⟩,hst⟩:=ZUM _ hne
   rw[hlen]at a2 hst
   have hR:(decodeLastL (s.data.toList.take (g+1))).1<128\/(128<=(decodeLastL (s.data.toList.take (g+1))).1/\Lib.validRune ((decodeLastL (s.data.toList.take (g+1))).1:Int)=true):=by
    rcases hst with h | h
    ·exact .inl h.1
    ·exact .inr ⟨h.1,h.2.1⟩
   have HS:=(show Hid _ from hst)
   have HL2:=hL
   clear hst hL hd hlen hne
   generalize decodeLastL (s.data.toList.take (g+1))=d at a1 a2 hR HS hD
   obtain⟨r,k⟩:=d
   simp only at a1 a2 hR hD
   refine hD.mono ?_
   rintro e w2 ⟨rfl,hB2⟩
   have HB2:=(show Hid _ from ZOu hB.out hB2)
   have HR:=(show Hid _ from hR)
   clear hB hB2 hR hD
   simp only
   have b1:(k:Int)<=(g:Int)+1:=by omega
   have b2:(1:Int)<=(k:Int):=by omega
   go_wp2_with fail
   refine(ZKp r HR.out w2).mono ?_
   rintro e w3 ⟨z,rfl,hz,hB3⟩
   have HB3:=(show Hid _ from ZOu HB2.out hB3)
   have HZ:=(show Hid _ from hz)
   clear hB3 hz
   simp only
   by_cases h0:0<=z
   ·have hres:Hid (ZAY s.data.toList=(g:Int)+1-(k:Int)):=by
     show ZAY s.data.toList=(g:Int)+1-(k:Int)
     have hz:=HZ.out
     rw[ZAL h0]at hz
     have hz':=Bool.and_eq_true_iff.mp hz.symm
     rcases HS.out with ⟨_,e1,e2⟩ | ⟨e1,_⟩
     ·rw[HL2.out,e2,al_if_pos hz'.2,e1]
      omega
     ·have:=of_decide_eq_true hz'.1
      omega
    have h0':decide (0<=z)=true:=ZAL h0
    go_wp2
    go_ret
    exact⟨by rw[hres.out];rfl,HB3.out⟩
   ·have hres:Hid (ZAY s.data.toList=ZAY (s.data.toList.take (g+1-k))):=by
     show ZAY s.data.toList=ZAY (s.data.toList.take (g+1-k))
     have hz:=HZ.out
     rw[ZAG h0]at hz
     rcases HS.out with ⟨e0,e1,e2⟩ | ⟨e1,_,e2⟩
     ·have hp: ¬isPM r.toUInt8=true:=by
       intro hp
       rw[ZAL e0,hp]at hz
       cases hz
      rw[HL2.out,e2,al_if_neg hp,List.take_take,e1]
      congr 2
      omega
     ·rw[HL2.out,e2,List.take_take]
      congr 2
      omega
    have h0':decide (0<=z)=false:=ZAG h0
    go_wp2
    go_roundg (g+1-k)
    case measure=>omega
    case rel=>exact⟨by omega,by congr 1;omega,HB3,hres⟩
end Ev
end
noncomputable section
namespace Ev
open Go Go.Proofs Go.RowKit
def ZUZ{F:Nat->Prop}{w:World}(h:Glob F w):Lib.Utf8Tabs 1 2 w:=by
 refine⟨λc hc=> ?_,λi hi=> ?_⟩
 ·obtain⟨_,cs,e,r,h1,h2⟩:=h (1,λcs=> ∀c,c<256->cs[c]?=some (.int .u8 (Go.Lib.firstT c))) (by unfold GP;simp)
  simp only at h1 h2
  unfold World.cell?
  rw[h1]
  exact h2 c hc
 ·obtain⟨_,cs,e,r,h1,h2⟩:=h (2,λcs=> ∀i,i<16->cs[2*i]?=some (.int .u8 (Go.Lib.accLo i))/\cs[2*i+1]?=some (.int .u8 (Go.Lib.accHi i))) (by unfold GP;simp)
  simp only at h1 h2
  unfold World.cell?
  rw[h1]
  exact h2 i hi
def ZUa(s:ByteArray)(w:World)(hs:s.size<4294967281)(hT:Lib.Utf8Tabs 1 2 w):Calls prog 188 #[.string s,.string ⟨#[43,45]⟩] w λe w'=>e= .returned (.int .i64 (ZAY s.data.toList))/\Below w.heap.size w w':=by
 by_cases h8:8<s.size
 ·exact ZUW s w h8 hs
 ·by_cases h1:s.size=1
  ·obtain⟨⟨l⟩⟩:=s
   match l,h1 with
   | [b],_=>exact ZUU b w
   | [],h1=>simp[ByteArray.size]at h1
   | _::_::_,h1=>simp[ByteArray.size]at h1
  ·exact ZUY s w h1 (by omega) hT
def ZIW(a:Str×Str×Unit):Option (Int×Unit):=if a.2.1=[43,45]/\a.1.length<4294967281 then some (ZAY a.1,())else none
def G188:T188:=ZIW
theorem okG188:N188 G188:=by
 refine ZIN func188 (by kernel_rfl) (of_decide_eq_false (by kernel_rfl)) (λa=>rfl) (λa=>rfl) (λx=>⟨rfl,rfl⟩) λa x hx w F hg hs=> ?_
 obtain⟨s,t,u⟩:=a
 unfold G188 ZIW at hx
 split at hx
 ·rename_i hr
  obtain⟨ht,hl⟩:=hr
  simp only at ht hl
  subst ht
  cases hx
  refine(ZUa ⟨⟨s⟩⟩ w (by simpa[ByteArray.size]using hl) (ZUZ hg)).mono ?_
  rintro e w' ⟨rfl,k⟩
  exact⟨rfl,ZGw k⟩
 ·cases hx
end Ev
end
noncomputable section
namespace Ev
open Go
def ZZo:ZBL prog tab:=ZIK (by kernel_rfl) (by kernel_rfl)
abbrev T226:=Device×Int×Unit->Option (Int×Unit)
abbrev N226(f:T226):=OKP 226 (mkE p348 p269 false f)
def F226:T226:=λa=>
 cond ((w64 (a.2.1-(Int.ofNat (List.length a.1.Name))))<0) (some ((-1),())) (cond ((w64 ((w64 (a.2.1-(Int.ofNat (List.length a.1.Name)))) -(Int.ofNat (List.length a.1.Line))))<0) (some ((-1),())) (some ((w64 ((w64 (a.2.1-(Int.ofNat (List.length a.1.Name)))) -(Int.ofNat (List.length a.1.Line)))),())))
theorem ok226:N226 (F226):=fk0 .nil func226
abbrev T136:=List Device×Int×Unit->Option (Int×Unit)
abbrev N136(f:T136):=OKP 136 (mkE p327 p269 false f)
def q136_0:List SP:=pat 27 0 [(0,.one (.r .device)),(1,.one (.int .i64)),(5,.one (.int .i64))]
def s136_0(f226:T226):Lp (List Device×Int×Int×Unit) (Int×Unit):=λt1 rec K=>
 cond (t1.2.2.1<(Int.ofNat t1.1.length)) (rdL t1.1 t1.2.2.1 λx1=>(f226 (x1,t1.2.1,())).bind λx2=>cond (x2.1<0) (some ((-1),())) (rec (t1.1,x2.1,(w64 (t1.2.2.1+1)),()))) (K t1)
def F136(f226:T226):T136:=λa=>
 cond ((w64 (a.2.1-(Int.ofNat a.1.length)))<0) (some ((-1),())) (ZAD (s136_0 f226) fuel (a.1,(w64 (a.2.1-(Int.ofNat a.1.length))),0,()) λx1=>some (x1.2.1,()))
theorem ok136{f226} :N226 f226->N136 (F136 f226):=λa=>fk (ps:=p327) (rs:=p269) (L:=lenv [(0,ZAI q136_0 (s136_0 f226))]) (ls:=[(0,ZAJ f136 0)]) (.cons a .nil) func136 (.cons q136_0 (s136_0 f226) rfl (λ_ _ _ _=>by kernel_rfl) .nil)
def p227:List SP:=[.t .cue,.one (.int .i64)]
abbrev T227:=Cue×Int×Unit->Option (Int×Unit)
abbrev N227(f:T227):=OKP 227 (mkE p227 p269 false f)
def F227:T227:=λa=>
 cond ((w64 (a.2.1-(Int.ofNat (List.length a.1.Name))))<0) (some ((-1),())) (some ((w64 (a.2.1-(Int.ofNat (List.length a.1.Name)))),()))
theorem ok227:N227 (F227):=fk0 .nil func227
def p137:List SP:=[.one (.r .cue),.one (.int .i64)]
abbrev T137:=List Cue×Int×Unit->Option (Int×Unit)
abbrev N137(f:T137):=OKP 137 (mkE p137 p269 false f)
def q137_0:List SP:=pat 27 0 [(0,.one (.r .cue)),(1,.one (.int .i64)),(5,.one (.int .i64))]
def s137_0(f227:T227):Lp (List Cue×Int×Int×Unit) (Int×Unit):=λt1 rec K=>
 cond (t1.2.2.1<(Int.ofNat t1.1.length)) (rdL t1.1 t1.2.2.1 λx1=>(f227 (x1,t1.2.1,())).bind λx2=>cond (x2.1<0) (some ((-1),())) (rec (t1.1,x2.1,(w64 (t1.2.2.1+1)),()))) (K t1)
def F137(f227:T227):T137:=λa=>
 cond ((w64 (a.2.1-(Int.ofNat a.1.length)))<0) (some ((-1),())) (ZAD (s137_0 f227) fuel (a.1,(w64 (a.2.1-(Int.ofNat a.1.length))),0,()) λx1=>some (x1.2.1,()))
theorem ok137{f227} :N227 f227->N137 (F137 f227):=λa=>fk (ps:=p137) (rs:=p269) (L:=lenv [(0,ZAI q137_0 (s137_0 f227))]) (ls:=[(0,ZAJ f137 0)]) (.cons a .nil) func137 (.cons q137_0 (s137_0 f227) rfl (λ_ _ _ _=>by kernel_rfl) .nil)
abbrev T138:=List Gust×Int×Unit->Option (Int×Unit)
abbrev N138(f:T138):=OKP 138 (mkE p325 p269 false f)
def F138:T138:=λa=>
 cond ((w64 (a.2.1-(Int.ofNat a.1.length)))<0) (some ((-1),())) (some ((w64 (a.2.1-(Int.ofNat a.1.length))),()))
theorem ok138:N138 (F138):=fk0 .nil func138
abbrev N61(f:T256):=OKP 61 (mkE p329 p269 false f)
def F61(f136:T136)(f137:T137)(f138:T138):T256:=λa=>
 (f136 (a.1.1,a.2.1,())).bind λx1=>cond (x1.1<0) (some ((-1),())) ((f137 (a.1.2.1,x1.1,())).bind λx2=>cond (x2.1<0) (some ((-1),())) ((f138 (a.1.2.2.1,x2.1,())).bind λx3=>cond (x3.1<0) (some ((-1),())) (some (x3.1,()))))
theorem ok61{f136 f137 f138} :N136 f136->N137 f137->N138 f138->N61 (F61 f136 f137 f138):=λa b c=>fk0 (.cons a (.cons b (.cons c .nil))) func61
abbrev T62:=List Place×Int×Unit->Option (Int×Unit)
abbrev N62(f:T62):=OKP 62 (mkE p357 p269 false f)
def F62:T62:=λa=>
 cond ((w64 (a.2.1-(Int.ofNat a.1.length)))<0) (some ((-1),())) (some ((w64 (a.2.1-(Int.ofNat a.1.length))),()))
theorem ok62:N62 (F62):=fk0 .nil func62
def p27:List SP:=[.agg [.r .device,.r .cue,.r .gust,.int .i64,.r .place,.int .i64,.int .i64,.int .i64,.int .i64],.one (.int .i64)]
def r27:List SP:=[.one (.int .i64)]
abbrev T27:=DkD×Int×Unit->Option (Int×Unit)
abbrev N27(f:T27):=OKP 27 (mkE p27 r27 false f)
def F27(f61:T256)(f62:T62):T27:=λa=>
 (f61 ((a.1.1,a.1.2.1,a.1.2.2.1,a.1.2.2.2.1,()),a.2.1,())).bind λx1=>cond (x1.1<0) (some ((-1),())) ((f62 (a.1.2.2.2.2.1,x1.1,())).bind λx2=>cond (x2.1<0) (some ((-1),())) (some (x2.1,())))
theorem ok27{f61 f62} :N61 f61->N62 f62->N27 (F27 f61 f62):=λa b=>fk0 (.cons a (.cons b .nil)) func27
abbrev T156:=Place×Unit->Option (Place×Unit)
abbrev N156(f:T156):=OKP 156 (mkE p181 p181 false f)
def F156:T156:=λa=>
 some (a.1,())
theorem ok156:N156 (F156):=fk0 .nil func156
abbrev T259:=Device×Unit->Option (Device×Unit)
abbrev N259(f:T259):=OKP 259 (mkE p270 p270 false f)
def F259(f156:T156):T259:=λa=>
 (f156 (a.1.At,())).bind λx1=>some ((⟨a.1.Name,a.1.Kind,a.1.Line,⟨x1.1.X,x1.1.Y⟩,a.1.Heading,a.1.Tilt,a.1.Most⟩:Device),())
theorem ok259{f156} :N156 f156->N259 (F259 f156):=λa=>fk0 (.cons a .nil) func259
abbrev N153(f:T228):=OKP 153 (mkE p228 r228 false f)
def q153_0:List SP:=pat 23 0 [(0,.one (.r .device)),(3,.one (.o 5000001 .device)),(4,.one (.int .i64))]
def s153_0(f259:T259):Lp (List Device×List Device×Int×Unit) (List Device×Unit):=λt1 rec K=>
 cond (t1.2.2.1<(Int.ofNat t1.1.length)) (rdL t1.1 t1.2.2.1 λx1=>(f259 (x1,())).bind λx2=>rdL t1.2.1 t1.2.2.1 λ_=>(t1.2.1[(Int.toNat t1.2.2.1)]?).bind λx3=>rec (t1.1,(List.set t1.2.1 (Int.toNat t1.2.2.1) x2.1),(w64 (t1.2.2.1+1)),())) (K t1)
def F153(f259:T259):T228:=λa=>
 okIf ((0:Int)<=(Int.ofNat a.1.length)) (capK (Int.toNat (Int.ofNat a.1.length)) (ZAD (s153_0 f259) fuel (a.1,(List.replicate (Int.toNat (Int.ofNat a.1.length)) (Ty.zero .device)),0,()) λx1=>some (x1.2.1,())))
theorem ok153{f259} :N259 f259->N153 (F153 f259):=λa=>fk (ps:=p228) (rs:=r228) (L:=lenv [(0,ZAI q153_0 (s153_0 f259))]) (ls:=[(0,ZAJ f153 0)]) (.cons a .nil) func153 (.cons q153_0 (s153_0 f259) rfl (λ_ _ _ _=>by kernel_rfl) .nil)
abbrev T260:=Cue×Unit->Option (Cue×Unit)
abbrev N260(f:T260):=OKP 260 (mkE p171 p171 false f)
def F260:T260:=λa=>
 some (a.1,())
theorem ok260:N260 (F260):=fk0 .nil func260
abbrev N154(f:T229):=OKP 154 (mkE p229 r229 false f)
def q154_0:List SP:=pat 23 0 [(0,.one (.r .cue)),(3,.one (.o 5000001 .cue)),(4,.one (.int .i64))]
def s154_0(f260:T260):Lp (List Cue×List Cue×Int×Unit) (List Cue×Unit):=λt1 rec K=>
 cond (t1.2.2.1<(Int.ofNat t1.1.length)) (rdL t1.1 t1.2.2.1 λx1=>(f260 (x1,())).bind λx2=>rdL t1.2.1 t1.2.2.1 λ_=>(t1.2.1[(Int.toNat t1.2.2.1)]?).bind λx3=>rec (t1.1,(List.set t1.2.1 (Int.toNat t1.2.2.1) x2.1),(w64 (t1.2.2.1+1)),())) (K t1)
def F154(f260:T260):T229:=λa=>
 okIf ((0:Int)<=(Int.ofNat a.1.length)) (capK (Int.toNat (Int.ofNat a.1.length)) (ZAD (s154_0 f260) fuel (a.1,(List.replicate (Int.toNat (Int.ofNat a.1.length)) (Ty.zero .cue)),0,()) λx1=>some (x1.2.1,())))
theorem ok154{f260} :N260 f260->N154 (F154 f260):=λa=>fk (ps:=p229) (rs:=r229) (L:=lenv [(0,ZAI q154_0 (s154_0 f260))]) (ls:=[(0,ZAJ f154 0)]) (.cons a .nil) func154 (.cons q154_0 (s154_0 f260) rfl (λ_ _ _ _=>by kernel_rfl) .nil)
def p261:List SP:=[.t .gust]
abbrev T261:=Gust×Unit->Option (Gust×Unit)
abbrev N261(f:T261):=OKP 261 (mkE p261 p261 false f)
def F261(f156:T156):T261:=λa=>
 (f156 (a.1.Drift,())).bind λx1=>some ((⟨a.1.From,⟨x1.1.X,x1.1.Y⟩⟩:Gust),())
theorem ok261{f156} :N156 f156->N261 (F261 f156):=λa=>fk0 (.cons a .nil) func261
abbrev N155(f:T186):=OKP 155 (mkE p232 r326 false f)
def q155_0:List SP:=pat 23 0 [(0,.one (.r .gust)),(3,.one (.o 5000001 .gust)),(4,.one (.int .i64))]
def s155_0(f261:T261):Lp (List Gust×List Gust×Int×Unit) (List Gust×Unit):=λt1 rec K=>
 cond (t1.2.2.1<(Int.ofNat t1.1.length)) (rdL t1.1 t1.2.2.1 λx1=>(f261 (x1,())).bind λx2=>rdL t1.2.1 t1.2.2.1 λ_=>(t1.2.1[(Int.toNat t1.2.2.1)]?).bind λx3=>rec (t1.1,(List.set t1.2.1 (Int.toNat t1.2.2.1) x2.1),(w64 (t1.2.2.1+1)),())) (K t1)
def F155(f261:T261):T186:=λa=>
 okIf ((0:Int)<=(Int.ofNat a.1.length)) (capK (Int.toNat (Int.ofNat a.1.length)) (ZAD (s155_0 f261) fuel (a.1,(List.replicate (Int.toNat (Int.ofNat a.1.length)) (Ty.zero .gust)),0,()) λx1=>some (x1.2.1,())))
theorem ok155{f261} :N261 f261->N155 (F155 f261):=λa=>fk (ps:=p232) (rs:=r326) (L:=lenv [(0,ZAI q155_0 (s155_0 f261))]) (ls:=[(0,ZAJ f155 0)]) (.cons a .nil) func155 (.cons q155_0 (s155_0 f261) rfl (λ_ _ _ _=>by kernel_rfl) .nil)
abbrev N66(f:T139):=OKP 66 (mkE p139 r139 false f)
def F66(f153:T228)(f154:T229)(f155:T186):T139:=λa=>
 (f153 (a.1.1,())).bind λx1=>(f154 (a.1.2.1,())).bind λx2=>(f155 (a.1.2.2.1,())).bind λx3=>some ((x1.1,x2.1,x3.1,a.1.2.2.2.1,()),())
theorem ok66{f153 f154 f155} :N153 f153->N154 f154->N155 f155->N66 (F66 f153 f154 f155):=λa b c=>fk0 (.cons a (.cons b (.cons c .nil))) func66
abbrev N67(f:T95):=OKP 67 (mkE p141 r324 false f)
def q67_0:List SP:=pat 23 0 [(0,.one (.r .place)),(3,.one (.o 5000001 .place)),(4,.one (.int .i64))]
def s67_0(f156:T156):Lp (List Place×List Place×Int×Unit) (List Place×Unit):=λt1 rec K=>
 cond (t1.2.2.1<(Int.ofNat t1.1.length)) (rdL t1.1 t1.2.2.1 λx1=>(f156 (x1,())).bind λx2=>rdL t1.2.1 t1.2.2.1 λ_=>(t1.2.1[(Int.toNat t1.2.2.1)]?).bind λx3=>rec (t1.1,(List.set t1.2.1 (Int.toNat t1.2.2.1) x2.1),(w64 (t1.2.2.1+1)),())) (K t1)
def F67(f156:T156):T95:=λa=>
 okIf ((0:Int)<=(Int.ofNat a.1.length)) (capK (Int.toNat (Int.ofNat a.1.length)) (ZAD (s67_0 f156) fuel (a.1,(List.replicate (Int.toNat (Int.ofNat a.1.length)) (Ty.zero .place)),0,()) λx1=>some (x1.2.1,())))
theorem ok67{f156} :N156 f156->N67 (F67 f156):=λa=>fk (ps:=p141) (rs:=r324) (L:=lenv [(0,ZAI q67_0 (s67_0 f156))]) (ls:=[(0,ZAJ f67 0)]) (.cons a .nil) func67 (.cons q67_0 (s67_0 f156) rfl (λ_ _ _ _=>by kernel_rfl) .nil)
abbrev T68:=Box×Unit->Option (Box×Unit)
abbrev N68(f:T68):=OKP 68 (mkE p142 p142 false f)
def F68(f156:T156):T68:=λa=>
 (f156 (a.1.Low,())).bind λx1=>(f156 (a.1.High,())).bind λx2=>some ((⟨⟨x1.1.X,x1.1.Y⟩,⟨x2.1.X,x2.1.Y⟩⟩:Box),())
theorem ok68{f156} :N156 f156->N68 (F68 f156):=λa=>fk0 (.cons a .nil) func68
def p29:List SP:=[.agg [.r .device,.r .cue,.r .gust,.int .i64,.r .place,.int .i64,.int .i64,.int .i64,.int .i64]]
def r29:List SP:=[.agg [.o 0 .device,.o 1 .cue,.o 2 .gust,.int .i64,.o 3 .place,.int .i64,.int .i64,.int .i64,.int .i64]]
abbrev T29:=DkD×Unit->Option (DkD×Unit)
abbrev N29(f:T29):=OKP 29 (mkE p29 r29 false f)
def F29(f66:T139)(f67:T95)(f68:T68):T29:=λa=>
 (f66 ((a.1.1,a.1.2.1,a.1.2.2.1,a.1.2.2.2.1,()),())).bind λx1=>(f67 (a.1.2.2.2.2.1,())).bind λx2=>(f68 ((⟨⟨a.1.2.2.2.2.2.1,a.1.2.2.2.2.2.2.1⟩,⟨a.1.2.2.2.2.2.2.2.1,a.1.2.2.2.2.2.2.2.2.1⟩⟩:Box),())).bind λx3=>some ((x1.1.1,x1.1.2.1,x1.1.2.2.1,x1.1.2.2.2.1,x2.1,x3.1.Low.X,x3.1.Low.Y,x3.1.High.X,x3.1.High.Y,()),())
theorem ok29{f66 f67 f68} :N66 f66->N67 f67->N68 f68->N29 (F29 f66 f67 f68):=λa b c=>fk0 (.cons a (.cons b (.cons c .nil))) func29
abbrev T160:=Place×Place×Unit->Option (Bool×Unit)
abbrev N160(f:T160):=OKP 160 (mkE p235 r268 false f)
def F160:T160:=λa=>
 cond (!(a.1.X=a.2.1.X)) (some (false,())) (cond (!(a.1.Y=a.2.1.Y)) (some (false,())) (some (true,())))
theorem ok160:N160 (F160):=fk0 .nil func160
def p262:List SP:=[.t .device,.t .device]
abbrev T262:=Device×Device×Unit->Option (Bool×Unit)
abbrev N262(f:T262):=OKP 262 (mkE p262 r268 false f)
def F262(f160:T160):T262:=λa=>
 cond (!(a.1.Name=a.2.1.Name)) (some (false,())) (cond (!(a.1.Kind=a.2.1.Kind)) (some (false,())) (cond (!(a.1.Line=a.2.1.Line)) (some (false,())) ((f160 (a.1.At,a.2.1.At,())).bind λx1=>cond (!x1.1) (some (false,())) (cond (!(a.1.Heading=a.2.1.Heading)) (some (false,())) (cond (!(a.1.Tilt=a.2.1.Tilt)) (some (false,())) (cond (!(a.1.Most=a.2.1.Most)) (some (false,())) (some (true,()))))))))
theorem ok262{f160} :N160 f160->N262 (F262 f160):=λa=>fk0 (.cons a .nil) func262
def p157:List SP:=[.one (.r .device),.one (.r .device)]
abbrev T157:=List Device×List Device×Unit->Option (Bool×Unit)
abbrev N157(f:T157):=OKP 157 (mkE p157 r268 false f)
def q157_0:List SP:=pat 27 0 [(0,.one (.r .device)),(1,.one (.r .device)),(5,.one (.int .i64))]
def s157_0(f262:T262):Lp (List Device×List Device×Int×Unit) (Bool×Unit):=λt1 rec K=>
 cond (t1.2.2.1<(Int.ofNat t1.1.length)) (rdL t1.1 t1.2.2.1 λx1=>rdL t1.2.1 t1.2.2.1 λx2=>(f262 (x1,x2,())).bind λx3=>cond (!x3.1) (some (false,())) (rec (t1.1,t1.2.1,(w64 (t1.2.2.1+1)),()))) (K t1)
def F157(f262:T262):T157:=λa=>
 cond (!((Int.ofNat a.1.length)=(Int.ofNat a.2.1.length))) (some (false,())) (ZAD (s157_0 f262) fuel (a.1,a.2.1,0,()) λx1=>some (true,()))
theorem ok157{f262} :N262 f262->N157 (F157 f262):=λa=>fk (ps:=p157) (rs:=r268) (L:=lenv [(0,ZAI q157_0 (s157_0 f262))]) (ls:=[(0,ZAJ f157 0)]) (.cons a .nil) func157 (.cons q157_0 (s157_0 f262) rfl (λ_ _ _ _=>by kernel_rfl) .nil)
abbrev T263:=Cue×Cue×Unit->Option (Bool×Unit)
abbrev N263(f:T263):=OKP 263 (mkE p307 r268 false f)
def F263:T263:=λa=>
 cond (!(a.1.Tick=a.2.1.Tick)) (some (false,())) (cond (!(a.1.Name=a.2.1.Name)) (some (false,())) (cond (!(a.1.Level=a.2.1.Level)) (some (false,())) (cond (!(a.1.Ramp=a.2.1.Ramp)) (some (false,())) (some (true,())))))
theorem ok263:N263 (F263):=fk0 .nil func263
def p158:List SP:=[.one (.r .cue),.one (.r .cue)]
abbrev T158:=List Cue×List Cue×Unit->Option (Bool×Unit)
abbrev N158(f:T158):=OKP 158 (mkE p158 r268 false f)
def q158_0:List SP:=pat 27 0 [(0,.one (.r .cue)),(1,.one (.r .cue)),(5,.one (.int .i64))]
def s158_0(f263:T263):Lp (List Cue×List Cue×Int×Unit) (Bool×Unit):=λt1 rec K=>
 cond (t1.2.2.1<(Int.ofNat t1.1.length)) (rdL t1.1 t1.2.2.1 λx1=>rdL t1.2.1 t1.2.2.1 λx2=>(f263 (x1,x2,())).bind λx3=>cond (!x3.1) (some (false,())) (rec (t1.1,t1.2.1,(w64 (t1.2.2.1+1)),()))) (K t1)
def F158(f263:T263):T158:=λa=>
 cond (!((Int.ofNat a.1.length)=(Int.ofNat a.2.1.length))) (some (false,())) (ZAD (s158_0 f263) fuel (a.1,a.2.1,0,()) λx1=>some (true,()))
theorem ok158{f263} :N263 f263->N158 (F158 f263):=λa=>fk (ps:=p158) (rs:=r268) (L:=lenv [(0,ZAI q158_0 (s158_0 f263))]) (ls:=[(0,ZAJ f158 0)]) (.cons a .nil) func158 (.cons q158_0 (s158_0 f263) rfl (λ_ _ _ _=>by kernel_rfl) .nil)
def p264:List SP:=[.t .gust,.t .gust]
abbrev T264:=Gust×Gust×Unit->Option (Bool×Unit)
abbrev N264(f:T264):=OKP 264 (mkE p264 r268 false f)
def F264(f160:T160):T264:=λa=>
 cond (!(a.1.From=a.2.1.From)) (some (false,())) ((f160 (a.1.Drift,a.2.1.Drift,())).bind λx1=>cond (!x1.1) (some (false,())) (some (true,())))
theorem ok264{f160} :N160 f160->N264 (F264 f160):=λa=>fk0 (.cons a .nil) func264
def p159:List SP:=[.one (.r .gust),.one (.r .gust)]
abbrev T159:=List Gust×List Gust×Unit->Option (Bool×Unit)
abbrev N159(f:T159):=OKP 159 (mkE p159 r268 false f)
def q159_0:List SP:=pat 27 0 [(0,.one (.r .gust)),(1,.one (.r .gust)),(5,.one (.int .i64))]
def s159_0(f264:T264):Lp (List Gust×List Gust×Int×Unit) (Bool×Unit):=λt1 rec K=>
 cond (t1.2.2.1<(Int.ofNat t1.1.length)) (rdL t1.1 t1.2.2.1 λx1=>rdL t1.2.1 t1.2.2.1 λx2=>(f264 (x1,x2,())).bind λx3=>cond (!x3.1) (some (false,())) (rec (t1.1,t1.2.1,(w64 (t1.2.2.1+1)),()))) (K t1)
def F159(f264:T264):T159:=λa=>
 cond (!((Int.ofNat a.1.length)=(Int.ofNat a.2.1.length))) (some (false,())) (ZAD (s159_0 f264) fuel (a.1,a.2.1,0,()) λx1=>some (true,()))
theorem ok159{f264} :N264 f264->N159 (F159 f264):=λa=>fk (ps:=p159) (rs:=r268) (L:=lenv [(0,ZAI q159_0 (s159_0 f264))]) (ls:=[(0,ZAJ f159 0)]) (.cons a .nil) func159 (.cons q159_0 (s159_0 f264) rfl (λ_ _ _ _=>by kernel_rfl) .nil)
def p69:List SP:=[.agg [.r .device,.r .cue,.r .gust,.int .i64],.agg [.r .device,.r .cue,.r .gust,.int .i64]]
abbrev T69:=ShD×ShD×Unit->Option (Bool×Unit)
abbrev N69(f:T69):=OKP 69 (mkE p69 r268 false f)
def F69(f157:T157)(f158:T158)(f159:T159):T69:=λa=>
 (f157 (a.1.1,a.2.1.1,())).bind λx1=>cond (!x1.1) (some (false,())) ((f158 (a.1.2.1,a.2.1.2.1,())).bind λx2=>cond (!x2.1) (some (false,())) ((f159 (a.1.2.2.1,a.2.1.2.2.1,())).bind λx3=>cond (!x3.1) (some (false,())) (cond (!(a.1.2.2.2.1=a.2.1.2.2.2.1)) (some (false,())) (some (true,())))))
theorem ok69{f157 f158 f159} :N157 f157->N158 f158->N159 f159->N69 (F69 f157 f158 f159):=λa b c=>fk0 (.cons a (.cons b (.cons c .nil))) func69
def p70:List SP:=[.one (.r .place),.one (.r .place)]
abbrev T70:=List Place×List Place×Unit->Option (Bool×Unit)
abbrev N70(f:T70):=OKP 70 (mkE p70 r268 false f)
def q70_0:List SP:=pat 27 0 [(0,.one (.r .place)),(1,.one (.r .place)),(5,.one (.int .i64))]
def s70_0(f160:T160):Lp (List Place×List Place×Int×Unit) (Bool×Unit):=λt1 rec K=>
 cond (t1.2.2.1<(Int.ofNat t1.1.length)) (rdL t1.1 t1.2.2.1 λx1=>rdL t1.2.1 t1.2.2.1 λx2=>(f160 (x1,x2,())).bind λx3=>cond (!x3.1) (some (false,())) (rec (t1.1,t1.2.1,(w64 (t1.2.2.1+1)),()))) (K t1)
def F70(f160:T160):T70:=λa=>
 cond (!((Int.ofNat a.1.length)=(Int.ofNat a.2.1.length))) (some (false,())) (ZAD (s70_0 f160) fuel (a.1,a.2.1,0,()) λx1=>some (true,()))
theorem ok70{f160} :N160 f160->N70 (F70 f160):=λa=>fk (ps:=p70) (rs:=r268) (L:=lenv [(0,ZAI q70_0 (s70_0 f160))]) (ls:=[(0,ZAJ f70 0)]) (.cons a .nil) func70 (.cons q70_0 (s70_0 f160) rfl (λ_ _ _ _=>by kernel_rfl) .nil)
abbrev N71(f:T349):=OKP 71 (mkE p349 r268 false f)
def F71(f160:T160):T349:=λa=>
 (f160 (a.1.Low,a.2.1.Low,())).bind λx1=>cond (!x1.1) (some (false,())) ((f160 (a.1.High,a.2.1.High,())).bind λx2=>cond (!x2.1) (some (false,())) (some (true,())))
theorem ok71{f160} :N160 f160->N71 (F71 f160):=λa=>fk0 (.cons a .nil) func71
def p30:List SP:=[.agg [.r .device,.r .cue,.r .gust,.int .i64,.r .place,.int .i64,.int .i64,.int .i64,.int .i64],.agg [.r .device,.r .cue,.r .gust,.int .i64,.r .place,.int .i64,.int .i64,.int .i64,.int .i64]]
def r30:List SP:=[.one (.bool)]
abbrev T30:=DkD×DkD×Unit->Option (Bool×Unit)
abbrev N30(f:T30):=OKP 30 (mkE p30 r30 false f)
def F30(f69:T69)(f70:T70)(f71:T349):T30:=λa=>
 (f69 ((a.1.1,a.1.2.1,a.1.2.2.1,a.1.2.2.2.1,()),(a.2.1.1,a.2.1.2.1,a.2.1.2.2.1,a.2.1.2.2.2.1,()),())).bind λx1=>cond (!x1.1) (some (false,())) ((f70 (a.1.2.2.2.2.1,a.2.1.2.2.2.2.1,())).bind λx2=>cond (!x2.1) (some (false,())) ((f71 ((⟨⟨a.1.2.2.2.2.2.1,a.1.2.2.2.2.2.2.1⟩,⟨a.1.2.2.2.2.2.2.2.1,a.1.2.2.2.2.2.2.2.2.1⟩⟩:Box),(⟨⟨a.2.1.2.2.2.2.2.1,a.2.1.2.2.2.2.2.2.1⟩,⟨a.2.1.2.2.2.2.2.2.2.1,a.2.1.2.2.2.2.2.2.2.2.1⟩⟩:Box),())).bind λx3=>cond (!x3.1) (some (false,())) (some (true,()))))
theorem ok30{f69 f70 f71} :N69 f69->N70 f70->N71 f71->N30 (F30 f69 f70 f71):=λa b c=>fk0 (.cons a (.cons b (.cons c .nil))) func30
def p43:List SP:=[.one (.int .i64)]
def r43:List SP:=[.one (.str)]
abbrev T43:=Int×Unit->Option (Str×Unit)
abbrev N43(f:T43):=OKP 43 (mkE p43 r43 false f)
def q43_0:List SP:=pat 20 0 [(0,.one (.int .i64)),(3,.one (.str))]
def s43_0:Lp (Int×Str×Unit) (Str×Unit):=λt1 rec K=>
 cond (t1.1>0) (capK (List.length (List.map (λn=>UInt8.ofNat (Int.toNat n)) ([(IntKind.wrap .u8 (w64 (48+(Int.tmod t1.1 10))))]:List Int))+t1.2.1.length) (rec ((w64 (Int.tdiv t1.1 10)),((List.map (λn=>UInt8.ofNat (Int.toNat n)) ([(IntKind.wrap .u8 (w64 (48+(Int.tmod t1.1 10))))]:List Int))++t1.2.1),()))) (K t1)
def F43:T43:=λa=>
 cond (a.1<=0) (some ([109,48],())) (ZAD (s43_0) fuel (a.1,[],()) λx1=>capK (List.length [109]+x1.2.1.length) (some (([109]++x1.2.1),())))
theorem ok43:N43 (F43):=fk (ps:=p43) (rs:=r43) (L:=lenv [(0,ZAI q43_0 (s43_0))]) (ls:=[(0,ZAJ f43 0)]) .nil func43 (.cons q43_0 (s43_0) rfl (λ_ _ _ _=>by kernel_rfl) .nil)
def p161:List SP:=[.one (.o 0 .device),.one (.int .i64)]
abbrev T161:=List Device×Int×Unit->Option (List Device×Int×Unit)
abbrev N161(f:T161):=OKP 161 (mkE p161 p269 false f)
def q161_0:List SP:=pat 73 0 [(0,.one (.o 0 .device)),(1,.one (.int .i64)),(5,.one (.int .i64))]
def s161_0(f43:T43):Lp (List Device×Int×Int×Unit) (List Device×Int×Unit):=λt1 rec K=>
 cond (t1.2.2.1<(Int.ofNat t1.1.length)) ((f43 (t1.2.1,())).bind λx1=>rdL t1.1 t1.2.2.1 λ_=>(t1.1[(Int.toNat t1.2.2.1)]?).bind λx2=>rdL (List.set t1.1 (Int.toNat t1.2.2.1) (⟨x1.1,x2.Kind,x2.Line,⟨x2.At.X,x2.At.Y⟩,x2.Heading,x2.Tilt,x2.Most⟩:Device)) t1.2.2.1 λ_=>((List.set t1.1 (Int.toNat t1.2.2.1) (⟨x1.1,x2.Kind,x2.Line,⟨x2.At.X,x2.At.Y⟩,x2.Heading,x2.Tilt,x2.Most⟩:Device))[(Int.toNat t1.2.2.1)]?).bind λx3=>(f43 ((w64 ((w64 (t1.2.1+1))+1)),())).bind λx4=>rdL (List.set (List.set t1.1 (Int.toNat t1.2.2.1) (⟨x1.1,x2.Kind,x2.Line,⟨x2.At.X,x2.At.Y⟩,x2.Heading,x2.Tilt,x2.Most⟩:Device)) (Int.toNat t1.2.2.1) (⟨x3.Name,(w64 (t1.2.1+1)),x3.Line,⟨x3.At.X,x3.At.Y⟩,x3.Heading,x3.Tilt,x3.Most⟩:Device)) t1.2.2.1 λ_=>((List.set (List.set t1.1 (Int.toNat t1.2.2.1) (⟨x1.1,x2.Kind,x2.Line,⟨x2.At.X,x2.At.Y⟩,x2.Heading,x2.Tilt,x2.Most⟩:Device)) (Int.toNat t1.2.2.1) (⟨x3.Name,(w64 (t1.2.1+1)),x3.Line,⟨x3.At.X,x3.At.Y⟩,x3.Heading,x3.Tilt,x3.Most⟩:Device))[(Int.toNat t1.2.2.1)]?).bind λx5=>rdL (List.set (List.set (List.set t1.1 (Int.toNat t1.2.2.1) (⟨x1.1,x2.Kind,x2.Line,⟨x2.At.X,x2.At.Y⟩,x2.Heading,x2.Tilt,x2.Most⟩:Device)) (Int.toNat t1.2.2.1) (⟨x3.Name,(w64 (t1.2.1+1)),x3.Line,⟨x3.At.X,x3.At.Y⟩,x3.Heading,x3.Tilt,x3.Most⟩:Device)) (Int.toNat t1.2.2.1) (⟨x5.Name,x5.Kind,x4.1,⟨x5.At.X,x5.At.Y⟩,x5.Heading,x5.Tilt,x5.Most⟩:Device)) t1.2.2.1 λ_=>((List.set (List.set (List.set t1.1 (Int.toNat t1.2.2.1) (⟨x1.1,x2.Kind,x2.Line,⟨x2.At.X,x2.At.Y⟩,x2.Heading,x2.Tilt,x2.Most⟩:Device)) (Int.toNat t1.2.2.1) (⟨x3.Name,(w64 (t1.2.1+1)),x3.Line,⟨x3.At.X,x3.At.Y⟩,x3.Heading,x3.Tilt,x3.Most⟩:Device)) (Int.toNat t1.2.2.1) (⟨x5.Name,x5.Kind,x4.1,⟨x5.At.X,x5.At.Y⟩,x5.Heading,x5.Tilt,x5.Most⟩:Device))[(Int.toNat t1.2.2.1)]?).bind λx6=>rdL (List.set (List.set (List.set (List.set t1.1 (Int.toNat t1.2.2.1) (⟨x1.1,x2.Kind,x2.Line,⟨x2.At.X,x2.At.Y⟩,x2.Heading,x2.Tilt,x2.Most⟩:Device)) (Int.toNat t1.2.2.1) (⟨x3.Name,(w64 (t1.2.1+1)),x3.Line,⟨x3.At.X,x3.At.Y⟩,x3.Heading,x3.Tilt,x3.Most⟩:Device)) (Int.toNat t1.2.2.1) (⟨x5.Name,x5.Kind,x4.1,⟨x5.At.X,x5.At.Y⟩,x5.Heading,x5.Tilt,x5.Most⟩:Device)) (Int.toNat t1.2.2.1) (⟨x6.Name,x6.Kind,x6.Line,⟨(w64 ((w64 ((w64 (t1.2.1+1))+1))+1)),x6.At.Y⟩,x6.Heading,x6.Tilt,x6.Most⟩:Device)) t1.2.2.1 λ_=>((List.set (List.set (List.set (List.set t1.1 (Int.toNat t1.2.2.1) (⟨x1.1,x2.Kind,x2.Line,⟨x2.At.X,x2.At.Y⟩,x2.Heading,x2.Tilt,x2.Most⟩:Device)) (Int.toNat t1.2.2.1) (⟨x3.Name,(w64 (t1.2.1+1)),x3.Line,⟨x3.At.X,x3.At.Y⟩,x3.Heading,x3.Tilt,x3.Most⟩:Device)) (Int.toNat t1.2.2.1) (⟨x5.Name,x5.Kind,x4.1,⟨x5.At.X,x5.At.Y⟩,x5.Heading,x5.Tilt,x5.Most⟩:Device)) (Int.toNat t1.2.2.1) (⟨x6.Name,x6.Kind,x6.Line,⟨(w64 ((w64 ((w64 (t1.2.1+1))+1))+1)),x6.At.Y⟩,x6.Heading,x6.Tilt,x6.Most⟩:Device))[(Int.toNat t1.2.2.1)]?).bind λx7=>rdL (List.set (List.set (List.set (List.set (List.set t1.1 (Int.toNat t1.2.2.1) (⟨x1.1,x2.Kind,x2.Line,⟨x2.At.X,x2.At.Y⟩,x2.Heading,x2.Tilt,x2.Most⟩:Device)) (Int.toNat t1.2.2.1) (⟨x3.Name,(w64 (t1.2.1+1)),x3.Line,⟨x3.At.X,x3.At.Y⟩,x3.Heading,x3.Tilt,x3.Most⟩:Device)) (Int.toNat t1.2.2.1) (⟨x5.Name,x5.Kind,x4.1,⟨x5.At.X,x5.At.Y⟩,x5.Heading,x5.Tilt,x5.Most⟩:Device)) (Int.toNat t1.2.2.1) (⟨x6.Name,x6.Kind,x6.Line,⟨(w64 ((w64 ((w64 (t1.2.1+1))+1))+1)),x6.At.Y⟩,x6.Heading,x6.Tilt,x6.Most⟩:Device)) (Int.toNat t1.2.2.1) (⟨x7.Name,x7.Kind,x7.Line,⟨x7.At.X,(w64 ((w64 ((w64 ((w64 (t1.2.1+1))+1))+1))+1))⟩,x7.Heading,x7.Tilt,x7.Most⟩:Device)) t1.2.2.1 λ_=>((List.set (List.set (List.set (List.set (List.set t1.1 (Int.toNat t1.2.2.1) (⟨x1.1,x2.Kind,x2.Line,⟨x2.At.X,x2.At.Y⟩,x2.Heading,x2.Tilt,x2.Most⟩:Device)) (Int.toNat t1.2.2.1) (⟨x3.Name,(w64 (t1.2.1+1)),x3.Line,⟨x3.At.X,x3.At.Y⟩,x3.Heading,x3.Tilt,x3.Most⟩:Device)) (Int.toNat t1.2.2.1) (⟨x5.Name,x5.Kind,x4.1,⟨x5.At.X,x5.At.Y⟩,x5.Heading,x5.Tilt,x5.Most⟩:Device)) (Int.toNat t1.2.2.1) (⟨x6.Name,x6.Kind,x6.Line,⟨(w64 ((w64 ((w64 (t1.2.1+1))+1))+1)),x6.At.Y⟩,x6.Heading,x6.Tilt,x6.Most⟩:Device)) (Int.toNat t1.2.2.1) (⟨x7.Name,x7.Kind,x7.Line,⟨x7.At.X,(w64 ((w64 ((w64 ((w64 (t1.2.1+1))+1))+1))+1))⟩,x7.Heading,x7.Tilt,x7.Most⟩:Device))[(Int.toNat t1.2.2.1)]?).bind λx8=>rdL (List.set (List.set (List.set (List.set (List.set (List.set t1.1 (Int.toNat t1.2.2.1) (⟨x1.1,x2.Kind,x2.Line,⟨x2.At.X,x2.At.Y⟩,x2.Heading,x2.Tilt,x2.Most⟩:Device)) (Int.toNat t1.2.2.1) (⟨x3.Name,(w64 (t1.2.1+1)),x3.Line,⟨x3.At.X,x3.At.Y⟩,x3.Heading,x3.Tilt,x3.Most⟩:Device)) (Int.toNat t1.2.2.1) (⟨x5.Name,x5.Kind,x4.1,⟨x5.At.X,x5.At.Y⟩,x5.Heading,x5.Tilt,x5.Most⟩:Device)) (Int.toNat t1.2.2.1) (⟨x6.Name,x6.Kind,x6.Line,⟨(w64 ((w64 ((w64 (t1.2.1+1))+1))+1)),x6.At.Y⟩,x6.Heading,x6.Tilt,x6.Most⟩:Device)) (Int.toNat t1.2.2.1) (⟨x7.Name,x7.Kind,x7.Line,⟨x7.At.X,(w64 ((w64 ((w64 ((w64 (t1.2.1+1))+1))+1))+1))⟩,x7.Heading,x7.Tilt,x7.Most⟩:Device)) (Int.toNat t1.2.2.1) (⟨x8.Name,x8.Kind,x8.Line,⟨x8.At.X,x8.At.Y⟩,(w64 ((w64 ((w64 ((w64 ((w64 (t1.2.1+1))+1))+1))+1))+1)),x8.Tilt,x8.Most⟩:Device)) t1.2.2.1 λ_=>((List.set (List.set (List.set (List.set (List.set (List.set t1.1 (Int.toNat t1.2.2.1) (⟨x1.1,x2.Kind,x2.Line,⟨x2.At.X,x2.At.Y⟩,x2.Heading,x2.Tilt,x2.Most⟩:Device)) (Int.toNat t1.2.2.1) (⟨x3.Name,(w64 (t1.2.1+1)),x3.Line,⟨x3.At.X,x3.At.Y⟩,x3.Heading,x3.Tilt,x3.Most⟩:Device)) (Int.toNat t1.2.2.1) (⟨x5.Name,x5.Kind,x4.1,⟨x5.At.X,x5.At.Y⟩,x5.Heading,x5.Tilt,x5.Most⟩:Device)) (Int.toNat t1.2.2.1) (⟨x6.Name,x6.Kind,x6.Line,⟨(w64 ((w64 ((w64 (t1.2.1+1))+1))+1)),x6.At.Y⟩,x6.Heading,x6.Tilt,x6.Most⟩:Device)) (Int.toNat t1.2.2.1) (⟨x7.Name,x7.Kind,x7.Line,⟨x7.At.X,(w64 ((w64 ((w64 ((w64 (t1.2.1+1))+1))+1))+1))⟩,x7.Heading,x7.Tilt,x7.Most⟩:Device)) (Int.toNat t1.2.2.1) (⟨x8.Name,x8.Kind,x8.Line,⟨x8.At.X,x8.At.Y⟩,(w64 ((w64 ((w64 ((w64 ((w64 (t1.2.1+1))+1))+1))+1))+1)),x8.Tilt,x8.Most⟩:Device))[(Int.toNat t1.2.2.1)]?).bind λx9=>rdL (List.set (List.set (List.set (List.set (List.set (List.set (List.set t1.1 (Int.toNat t1.2.2.1) (⟨x1.1,x2.Kind,x2.Line,⟨x2.At.X,x2.At.Y⟩,x2.Heading,x2.Tilt,x2.Most⟩:Device)) (Int.toNat t1.2.2.1) (⟨x3.Name,(w64 (t1.2.1+1)),x3.Line,⟨x3.At.X,x3.At.Y⟩,x3.Heading,x3.Tilt,x3.Most⟩:Device)) (Int.toNat t1.2.2.1) (⟨x5.Name,x5.Kind,x4.1,⟨x5.At.X,x5.At.Y⟩,x5.Heading,x5.Tilt,x5.Most⟩:Device)) (Int.toNat t1.2.2.1) (⟨x6.Name,x6.Kind,x6.Line,⟨(w64 ((w64 ((w64 (t1.2.1+1))+1))+1)),x6.At.Y⟩,x6.Heading,x6.Tilt,x6.Most⟩:Device)) (Int.toNat t1.2.2.1) (⟨x7.Name,x7.Kind,x7.Line,⟨x7.At.X,(w64 ((w64 ((w64 ((w64 (t1.2.1+1))+1))+1))+1))⟩,x7.Heading,x7.Tilt,x7.Most⟩:Device)) (Int.toNat t1.2.2.1) (⟨x8.Name,x8.Kind,x8.Line,⟨x8.At.X,x8.At.Y⟩,(w64 ((w64 ((w64 ((w64 ((w64 (t1.2.1+1))+1))+1))+1))+1)),x8.Tilt,x8.Most⟩:Device)) (Int.toNat t1.2.2.1) (⟨x9.Name,x9.Kind,x9.Line,⟨x9.At.X,x9.At.Y⟩,x9.Heading,(w64 ((w64 ((w64 ((w64 ((w64 ((w64 (t1.2.1+1))+1))+1))+1))+1))+1)),x9.Most⟩:Device)) t1.2.2.1 λ_=>((List.set (List.set (List.set (List.set (List.set (List.set (List.set t1.1 (Int.toNat t1.2.2.1) (⟨x1.1,x2.Kind,x2.Line,⟨x2.At.X,x2.At.Y⟩,x2.Heading,x2.Tilt,x2.Most⟩:Device)) (Int.toNat t1.2.2.1) (⟨x3.Name,(w64 (t1.2.1+1)),x3.Line,⟨x3.At.X,x3.At.Y⟩,x3.Heading,x3.Tilt,x3.Most⟩:Device)) (Int.toNat t1.2.2.1) (⟨x5.Name,x5.Kind,x4.1,⟨x5.At.X,x5.At.Y⟩,x5.Heading,x5.Tilt,x5.Most⟩:Device)) (Int.toNat t1.2.2.1) (⟨x6.Name,x6.Kind,x6.Line,⟨(w64 ((w64 ((w64 (t1.2.1+1))+1))+1)),x6.At.Y⟩,x6.Heading,x6.Tilt,x6.Most⟩:Device)) (Int.toNat t1.2.2.1) (⟨x7.Name,x7.Kind,x7.Line,⟨x7.At.X,(w64 ((w64 ((w64 ((w64 (t1.2.1+1))+1))+1))+1))⟩,x7.Heading,x7.Tilt,x7.Most⟩:Device)) (Int.toNat t1.2.2.1) (⟨x8.Name,x8.Kind,x8.Line,⟨x8.At.X,x8.At.Y⟩,(w64 ((w64 ((w64 ((w64 ((w64 (t1.2.1+1))+1))+1))+1))+1)),x8.Tilt,x8.Most⟩:Device)) (Int.toNat t1.2.2.1) (⟨x9.Name,x9.Kind,x9.Line,⟨x9.At.X,x9.At.Y⟩,x9.Heading,(w64 ((w64 ((w64 ((w64 ((w64 ((w64 (t1.2.1+1))+1))+1))+1))+1))+1)),x9.Most⟩:Device))[(Int.toNat t1.2.2.1)]?).bind λx10=>rec ((List.set (List.set (List.set (List.set (List.set (List.set (List.set (List.set t1.1 (Int.toNat t1.2.2.1) (⟨x1.1,x2.Kind,x2.Line,⟨x2.At.X,x2.At.Y⟩,x2.Heading,x2.Tilt,x2.Most⟩:Device)) (Int.toNat t1.2.2.1) (⟨x3.Name,(w64 (t1.2.1+1)),x3.Line,⟨x3.At.X,x3.At.Y⟩,x3.Heading,x3.Tilt,x3.Most⟩:Device)) (Int.toNat t1.2.2.1) (⟨x5.Name,x5.Kind,x4.1,⟨x5.At.X,x5.At.Y⟩,x5.Heading,x5.Tilt,x5.Most⟩:Device)) (Int.toNat t1.2.2.1) (⟨x6.Name,x6.Kind,x6.Line,⟨(w64 ((w64 ((w64 (t1.2.1+1))+1))+1)),x6.At.Y⟩,x6.Heading,x6.Tilt,x6.Most⟩:Device)) (Int.toNat t1.2.2.1) (⟨x7.Name,x7.Kind,x7.Line,⟨x7.At.X,(w64 ((w64 ((w64 ((w64 (t1.2.1+1))+1))+1))+1))⟩,x7.Heading,x7.Tilt,x7.Most⟩:Device)) (Int.toNat t1.2.2.1) (⟨x8.Name,x8.Kind,x8.Line,⟨x8.At.X,x8.At.Y⟩,(w64 ((w64 ((w64 ((w64 ((w64 (t1.2.1+1))+1))+1))+1))+1)),x8.Tilt,x8.Most⟩:Device)) (Int.toNat t1.2.2.1) (⟨x9.Name,x9.Kind,x9.Line,⟨x9.At.X,x9.At.Y⟩,x9.Heading,(w64 ((w64 ((w64 ((w64 ((w64 ((w64 (t1.2.1+1))+1))+1))+1))+1))+1)),x9.Most⟩:Device)) (Int.toNat t1.2.2.1) (⟨x10.Name,x10.Kind,x10.Line,⟨x10.At.X,x10.At.Y⟩,x10.Heading,x10.Tilt,(w64 ((w64 ((w64 ((w64 ((w64 ((w64 ((w64 (t1.2.1+1))+1))+1))+1))+1))+1))+1))⟩:Device)),(w64 ((w64 ((w64 ((w64 ((w64 ((w64 ((w64 ((w64 (t1.2.1+1))+1))+1))+1))+1))+1))+1))+1)),(w64 (t1.2.2.1+1)),())) (K t1)
def F161(f43:T43):T161:=λa=>
 ZAD (s161_0 f43) fuel (a.1,a.2.1,0,()) λx1=>some (x1.1,x1.2.1,())
theorem ok161{f43} :N43 f43->N161 (F161 f43):=λa=>fk (ps:=p161) (rs:=p269) (L:=lenv [(0,ZAI q161_0 (s161_0 f43))]) (ls:=[(0,ZAJ f161 0)]) (.cons a .nil) func161 (.cons q161_0 (s161_0 f43) rfl (λ_ _ _ _=>by kernel_rfl) .nil)
def p162:List SP:=[.one (.o 0 .cue),.one (.int .i64)]
abbrev T162:=List Cue×Int×Unit->Option (List Cue×Int×Unit)
abbrev N162(f:T162):=OKP 162 (mkE p162 p269 false f)
def q162_0:List SP:=pat 42 0 [(0,.one (.o 0 .cue)),(1,.one (.int .i64)),(5,.one (.int .i64))]
def s162_0(f43:T43):Lp (List Cue×Int×Int×Unit) (List Cue×Int×Unit):=λt1 rec K=>
 cond (t1.2.2.1<(Int.ofNat t1.1.length)) (rdL t1.1 t1.2.2.1 λ_=>(t1.1[(Int.toNat t1.2.2.1)]?).bind λx1=>(f43 ((w64 (t1.2.1+1)),())).bind λx2=>rdL (List.set t1.1 (Int.toNat t1.2.2.1) (⟨t1.2.1,x1.Name,x1.Level,x1.Ramp⟩:Cue)) t1.2.2.1 λ_=>((List.set t1.1 (Int.toNat t1.2.2.1) (⟨t1.2.1,x1.Name,x1.Level,x1.Ramp⟩:Cue))[(Int.toNat t1.2.2.1)]?).bind λx3=>rdL (List.set (List.set t1.1 (Int.toNat t1.2.2.1) (⟨t1.2.1,x1.Name,x1.Level,x1.Ramp⟩:Cue)) (Int.toNat t1.2.2.1) (⟨x3.Tick,x2.1,x3.Level,x3.Ramp⟩:Cue)) t1.2.2.1 λ_=>((List.set (List.set t1.1 (Int.toNat t1.2.2.1) (⟨t1.2.1,x1.Name,x1.Level,x1.Ramp⟩:Cue)) (Int.toNat t1.2.2.1) (⟨x3.Tick,x2.1,x3.Level,x3.Ramp⟩:Cue))[(Int.toNat t1.2.2.1)]?).bind λx4=>rdL (List.set (List.set (List.set t1.1 (Int.toNat t1.2.2.1) (⟨t1.2.1,x1.Name,x1.Level,x1.Ramp⟩:Cue)) (Int.toNat t1.2.2.1) (⟨x3.Tick,x2.1,x3.Level,x3.Ramp⟩:Cue)) (Int.toNat t1.2.2.1) (⟨x4.Tick,x4.Name,(w64 ((w64 (t1.2.1+1))+1)),x4.Ramp⟩:Cue)) t1.2.2.1 λ_=>((List.set (List.set (List.set t1.1 (Int.toNat t1.2.2.1) (⟨t1.2.1,x1.Name,x1.Level,x1.Ramp⟩:Cue)) (Int.toNat t1.2.2.1) (⟨x3.Tick,x2.1,x3.Level,x3.Ramp⟩:Cue)) (Int.toNat t1.2.2.1) (⟨x4.Tick,x4.Name,(w64 ((w64 (t1.2.1+1))+1)),x4.Ramp⟩:Cue))[(Int.toNat t1.2.2.1)]?).bind λx5=>rec ((List.set (List.set (List.set (List.set t1.1 (Int.toNat t1.2.2.1) (⟨t1.2.1,x1.Name,x1.Level,x1.Ramp⟩:Cue)) (Int.toNat t1.2.2.1) (⟨x3.Tick,x2.1,x3.Level,x3.Ramp⟩:Cue)) (Int.toNat t1.2.2.1) (⟨x4.Tick,x4.Name,(w64 ((w64 (t1.2.1+1))+1)),x4.Ramp⟩:Cue)) (Int.toNat t1.2.2.1) (⟨x5.Tick,x5.Name,x5.Level,(w64 ((w64 ((w64 (t1.2.1+1))+1))+1))⟩:Cue)),(w64 ((w64 ((w64 ((w64 (t1.2.1+1))+1))+1))+1)),(w64 (t1.2.2.1+1)),())) (K t1)
def F162(f43:T43):T162:=λa=>
 ZAD (s162_0 f43) fuel (a.1,a.2.1,0,()) λx1=>some (x1.1,x1.2.1,())
theorem ok162{f43} :N43 f43->N162 (F162 f43):=λa=>fk (ps:=p162) (rs:=p269) (L:=lenv [(0,ZAI q162_0 (s162_0 f43))]) (ls:=[(0,ZAJ f162 0)]) (.cons a .nil) func162 (.cons q162_0 (s162_0 f43) rfl (λ_ _ _ _=>by kernel_rfl) .nil)
def p163:List SP:=[.one (.o 0 .gust),.one (.int .i64)]
abbrev T163:=List Gust×Int×Unit->Option (List Gust×Int×Unit)
abbrev N163(f:T163):=OKP 163 (mkE p163 p269 false f)
def q163_0:List SP:=pat 36 0 [(0,.one (.o 0 .gust)),(1,.one (.int .i64)),(5,.one (.int .i64))]
def s163_0:Lp (List Gust×Int×Int×Unit) (List Gust×Int×Unit):=λt1 rec K=>
 cond (t1.2.2.1<(Int.ofNat t1.1.length)) (rdL t1.1 t1.2.2.1 λ_=>(t1.1[(Int.toNat t1.2.2.1)]?).bind λx1=>rdL (List.set t1.1 (Int.toNat t1.2.2.1) (⟨t1.2.1,⟨x1.Drift.X,x1.Drift.Y⟩⟩:Gust)) t1.2.2.1 λ_=>((List.set t1.1 (Int.toNat t1.2.2.1) (⟨t1.2.1,⟨x1.Drift.X,x1.Drift.Y⟩⟩:Gust))[(Int.toNat t1.2.2.1)]?).bind λx2=>rdL (List.set (List.set t1.1 (Int.toNat t1.2.2.1) (⟨t1.2.1,⟨x1.Drift.X,x1.Drift.Y⟩⟩:Gust)) (Int.toNat t1.2.2.1) (⟨x2.From,⟨(w64 (t1.2.1+1)),x2.Drift.Y⟩⟩:Gust)) t1.2.2.1 λ_=>((List.set (List.set t1.1 (Int.toNat t1.2.2.1) (⟨t1.2.1,⟨x1.Drift.X,x1.Drift.Y⟩⟩:Gust)) (Int.toNat t1.2.2.1) (⟨x2.From,⟨(w64 (t1.2.1+1)),x2.Drift.Y⟩⟩:Gust))[(Int.toNat t1.2.2.1)]?).bind λx3=>rec ((List.set (List.set (List.set t1.1 (Int.toNat t1.2.2.1) (⟨t1.2.1,⟨x1.Drift.X,x1.Drift.Y⟩⟩:Gust)) (Int.toNat t1.2.2.1) (⟨x2.From,⟨(w64 (t1.2.1+1)),x2.Drift.Y⟩⟩:Gust)) (Int.toNat t1.2.2.1) (⟨x3.From,⟨x3.Drift.X,(w64 ((w64 (t1.2.1+1))+1))⟩⟩:Gust)),(w64 ((w64 ((w64 (t1.2.1+1))+1))+1)),(w64 (t1.2.2.1+1)),())) (K t1)
def F163:T163:=λa=>
 ZAD (s163_0) fuel (a.1,a.2.1,0,()) λx1=>some (x1.1,x1.2.1,())
theorem ok163:N163 (F163):=fk (ps:=p163) (rs:=p269) (L:=lenv [(0,ZAI q163_0 (s163_0))]) (ls:=[(0,ZAJ f163 0)]) .nil func163 (.cons q163_0 (s163_0) rfl (λ_ _ _ _=>by kernel_rfl) .nil)
def p72:List SP:=[.agg [.o 0 .device,.o 1 .cue,.o 2 .gust,.int .i64],.one (.int .i64)]
abbrev T72:=ShD×Int×Unit->Option ShD
abbrev N72(f:T72):=OKP 72 (mkE p72 p269 false f)
def F72(f161:T161)(f162:T162)(f163:T163)(a:ShD×Int×Unit):Option ShD:=
 (f161 (a.1.1,a.2.1,())).bind λx1=>(f162 (a.1.2.1,x1.2.1,())).bind λx2=>(f163 (a.1.2.2.1,x2.2.1,())).bind λx3=>some (x1.1,x2.1,x3.1,x3.2.1,())
theorem ok72{f161 f162 f163} :N161 f161->N162 f162->N163 f163->N72 (F72 f161 f162 f163):=λa b c=>fk0 (.cons a (.cons b (.cons c .nil))) func72
def p73:List SP:=[.one (.o 0 .place),.one (.int .i64)]
abbrev T73:=List Place×Int×Unit->Option (List Place×Int×Unit)
abbrev N73(f:T73):=OKP 73 (mkE p73 p269 false f)
def q73_0:List SP:=pat 27 0 [(0,.one (.o 0 .place)),(1,.one (.int .i64)),(5,.one (.int .i64))]
def s73_0:Lp (List Place×Int×Int×Unit) (List Place×Int×Unit):=λt1 rec K=>
 cond (t1.2.2.1<(Int.ofNat t1.1.length)) (rdL t1.1 t1.2.2.1 λ_=>(t1.1[(Int.toNat t1.2.2.1)]?).bind λx1=>rdL (List.set t1.1 (Int.toNat t1.2.2.1) (⟨t1.2.1,x1.Y⟩:Place)) t1.2.2.1 λ_=>((List.set t1.1 (Int.toNat t1.2.2.1) (⟨t1.2.1,x1.Y⟩:Place))[(Int.toNat t1.2.2.1)]?).bind λx2=>rec ((List.set (List.set t1.1 (Int.toNat t1.2.2.1) (⟨t1.2.1,x1.Y⟩:Place)) (Int.toNat t1.2.2.1) (⟨x2.X,(w64 (t1.2.1+1))⟩:Place)),(w64 ((w64 (t1.2.1+1))+1)),(w64 (t1.2.2.1+1)),())) (K t1)
def F73:T73:=λa=>
 ZAD (s73_0) fuel (a.1,a.2.1,0,()) λx1=>some (x1.1,x1.2.1,())
theorem ok73:N73 (F73):=fk (ps:=p73) (rs:=p269) (L:=lenv [(0,ZAI q73_0 (s73_0))]) (ls:=[(0,ZAJ f73 0)]) .nil func73 (.cons q73_0 (s73_0) rfl (λ_ _ _ _=>by kernel_rfl) .nil)
def p31:List SP:=[.agg [.o 0 .device,.o 1 .cue,.o 2 .gust,.int .i64,.o 3 .place,.int .i64,.int .i64,.int .i64,.int .i64],.one (.int .i64)]
def r31:List SP:=[.one (.int .i64)]
abbrev T31:=DkD×Int×Unit->Option (List Device×List Cue×List Gust×List Place×Int×Unit)
abbrev N31(f:T31):=OKP 31 (mkE p31 r31 false f)
def F31(f72:T72)(f73:T73):T31:=λa=>
 (f72 ((a.1.1,a.1.2.1,a.1.2.2.1,a.1.2.2.2.1,()),a.2.1,())).bind λx1=>(f73 (a.1.2.2.2.2.1,x1.2.2.2.1,())).bind λx2=>some (x1.1,x1.2.1,x1.2.2.1,x2.1,x2.2.1,())
theorem ok31{f72 f73} :N72 f72->N73 f73->N31 (F31 f72 f73):=λa b=>fk0 (.cons a (.cons b .nil)) func31
abbrev N164(f:T136):=OKP 164 (mkE p327 p269 false f)
def q164_0:List SP:=pat 89 0 [(0,.one (.r .device)),(1,.one (.int .i64)),(5,.one (.int .i64))]
def s164_0(f43:T43):Lp (List Device×Int×Int×Unit) (Int×Unit):=λt1 rec K=>
 cond (t1.2.2.1<(Int.ofNat t1.1.length)) (rdL t1.1 t1.2.2.1 λx1=>(f43 (t1.2.1,())).bind λx2=>cond (!(x1.Name=x2.1)) (some ((-1),())) (rdL t1.1 t1.2.2.1 λx3=>cond (!(x3.Kind=(w64 (t1.2.1+1)))) (some ((-1),())) (rdL t1.1 t1.2.2.1 λx4=>(f43 ((w64 ((w64 (t1.2.1+1))+1)),())).bind λx5=>cond (!(x4.Line=x5.1)) (some ((-1),())) (rdL t1.1 t1.2.2.1 λx6=>cond (!(x6.At.X=(w64 ((w64 ((w64 (t1.2.1+1))+1))+1)))) (some ((-1),())) (rdL t1.1 t1.2.2.1 λx7=>cond (!(x7.At.Y=(w64 ((w64 ((w64 ((w64 (t1.2.1+1))+1))+1))+1)))) (some ((-1),())) (rdL t1.1 t1.2.2.1 λx8=>cond (!(x8.Heading=(w64 ((w64 ((w64 ((w64 ((w64 (t1.2.1+1))+1))+1))+1))+1)))) (some ((-1),())) (rdL t1.1 t1.2.2.1 λx9=>cond (!(x9.Tilt=(w64 ((w64 ((w64 ((w64 ((w64 ((w64 (t1.2.1+1))+1))+1))+1))+1))+1)))) (some ((-1),())) (rdL t1.1 t1.2.2.1 λx10=>cond (!(x10.Most=(w64 ((w64 ((w64 ((w64 ((w64 ((w64 ((w64 (t1.2.1+1))+1))+1))+1))+1))+1))+1)))) (some ((-1),())) (rec (t1.1,(w64 ((w64 ((w64 ((w64 ((w64 ((w64 ((w64 ((w64 (t1.2.1+1))+1))+1))+1))+1))+1))+1))+1)),(w64 (t1.2.2.1+1)),())))))))))) (K t1)
def F164(f43:T43):T136:=λa=>
 ZAD (s164_0 f43) fuel (a.1,a.2.1,0,()) λx1=>some (x1.2.1,())
theorem ok164{f43} :N43 f43->N164 (F164 f43):=λa=>fk (ps:=p327) (rs:=p269) (L:=lenv [(0,ZAI q164_0 (s164_0 f43))]) (ls:=[(0,ZAJ f164 0)]) (.cons a .nil) func164 (.cons q164_0 (s164_0 f43) rfl (λ_ _ _ _=>by kernel_rfl) .nil)
abbrev N165(f:T137):=OKP 165 (mkE p137 p269 false f)
def q165_0:List SP:=pat 50 0 [(0,.one (.r .cue)),(1,.one (.int .i64)),(5,.one (.int .i64))]
def s165_0(f43:T43):Lp (List Cue×Int×Int×Unit) (Int×Unit):=λt1 rec K=>
 cond (t1.2.2.1<(Int.ofNat t1.1.length)) (rdL t1.1 t1.2.2.1 λx1=>cond (!(x1.Tick=t1.2.1)) (some ((-1),())) (rdL t1.1 t1.2.2.1 λx2=>(f43 ((w64 (t1.2.1+1)),())).bind λx3=>cond (!(x2.Name=x3.1)) (some ((-1),())) (rdL t1.1 t1.2.2.1 λx4=>cond (!(x4.Level=(w64 ((w64 (t1.2.1+1))+1)))) (some ((-1),())) (rdL t1.1 t1.2.2.1 λx5=>cond (!(x5.Ramp=(w64 ((w64 ((w64 (t1.2.1+1))+1))+1)))) (some ((-1),())) (rec (t1.1,(w64 ((w64 ((w64 ((w64 (t1.2.1+1))+1))+1))+1)),(w64 (t1.2.2.1+1)),())))))) (K t1)
def F165(f43:T43):T137:=λa=>
 ZAD (s165_0 f43) fuel (a.1,a.2.1,0,()) λx1=>some (x1.2.1,())
theorem ok165{f43} :N43 f43->N165 (F165 f43):=λa=>fk (ps:=p137) (rs:=p269) (L:=lenv [(0,ZAI q165_0 (s165_0 f43))]) (ls:=[(0,ZAJ f165 0)]) (.cons a .nil) func165 (.cons q165_0 (s165_0 f43) rfl (λ_ _ _ _=>by kernel_rfl) .nil)
abbrev N166(f:T138):=OKP 166 (mkE p325 p269 false f)
def q166_0:List SP:=pat 42 0 [(0,.one (.r .gust)),(1,.one (.int .i64)),(5,.one (.int .i64))]
def s166_0:Lp (List Gust×Int×Int×Unit) (Int×Unit):=λt1 rec K=>
 cond (t1.2.2.1<(Int.ofNat t1.1.length)) (rdL t1.1 t1.2.2.1 λx1=>cond (!(x1.From=t1.2.1)) (some ((-1),())) (rdL t1.1 t1.2.2.1 λx2=>cond (!(x2.Drift.X=(w64 (t1.2.1+1)))) (some ((-1),())) (rdL t1.1 t1.2.2.1 λx3=>cond (!(x3.Drift.Y=(w64 ((w64 (t1.2.1+1))+1)))) (some ((-1),())) (rec (t1.1,(w64 ((w64 ((w64 (t1.2.1+1))+1))+1)),(w64 (t1.2.2.1+1)),()))))) (K t1)
def F166:T138:=λa=>
 ZAD (s166_0) fuel (a.1,a.2.1,0,()) λx1=>some (x1.2.1,())
theorem ok166:N166 (F166):=fk (ps:=p325) (rs:=p269) (L:=lenv [(0,ZAI q166_0 (s166_0))]) (ls:=[(0,ZAJ f166 0)]) .nil func166 (.cons q166_0 (s166_0) rfl (λ_ _ _ _=>by kernel_rfl) .nil)
abbrev N74(f:T256):=OKP 74 (mkE p329 p269 false f)
def F74(f164:T136)(f165:T137)(f166:T138):T256:=λa=>
 (f164 (a.1.1,a.2.1,())).bind λx1=>cond (x1.1<0) (some ((-1),())) ((f165 (a.1.2.1,x1.1,())).bind λx2=>cond (x2.1<0) (some ((-1),())) ((f166 (a.1.2.2.1,x2.1,())).bind λx3=>cond (x3.1<0) (some ((-1),())) (some (x3.1,()))))
theorem ok74{f164 f165 f166} :N164 f164->N165 f165->N166 f166->N74 (F74 f164 f165 f166):=λa b c=>fk0 (.cons a (.cons b (.cons c .nil))) func74
abbrev N75(f:T62):=OKP 75 (mkE p357 p269 false f)
def q75_0:List SP:=pat 31 0 [(0,.one (.r .place)),(1,.one (.int .i64)),(5,.one (.int .i64))]
def s75_0:Lp (List Place×Int×Int×Unit) (Int×Unit):=λt1 rec K=>
 cond (t1.2.2.1<(Int.ofNat t1.1.length)) (rdL t1.1 t1.2.2.1 λx1=>cond (!(x1.X=t1.2.1)) (some ((-1),())) (rdL t1.1 t1.2.2.1 λx2=>cond (!(x2.Y=(w64 (t1.2.1+1)))) (some ((-1),())) (rec (t1.1,(w64 ((w64 (t1.2.1+1))+1)),(w64 (t1.2.2.1+1)),())))) (K t1)
def F75:T62:=λa=>
 ZAD (s75_0) fuel (a.1,a.2.1,0,()) λx1=>some (x1.2.1,())
theorem ok75:N75 (F75):=fk (ps:=p357) (rs:=p269) (L:=lenv [(0,ZAI q75_0 (s75_0))]) (ls:=[(0,ZAJ f75 0)]) .nil func75 (.cons q75_0 (s75_0) rfl (λ_ _ _ _=>by kernel_rfl) .nil)
def p32:List SP:=[.agg [.r .device,.r .cue,.r .gust,.int .i64,.r .place,.int .i64,.int .i64,.int .i64,.int .i64],.one (.int .i64)]
def r32:List SP:=[.one (.int .i64)]
abbrev T32:=DkD×Int×Unit->Option (Int×Unit)
abbrev N32(f:T32):=OKP 32 (mkE p32 r32 false f)
def F32(f74:T256)(f75:T62):T32:=λa=>
 (f74 ((a.1.1,a.1.2.1,a.1.2.2.1,a.1.2.2.2.1,()),a.2.1,())).bind λx1=>cond (x1.1<0) (some ((-1),())) ((f75 (a.1.2.2.2.2.1,x1.1,())).bind λx2=>cond (x2.1<0) (some ((-1),())) (some (x2.1,())))
theorem ok32{f74 f75} :N74 f74->N75 f75->N32 (F32 f74 f75):=λa b=>fk0 (.cons a (.cons b .nil)) func32
def p7:List SP:=[.agg [.r .device,.r .cue,.r .gust,.int .i64,.r .place,.int .i64,.int .i64,.int .i64,.int .i64],.one (.str)]
def r7:List SP:=[.one (.bool)]
abbrev T7:=DkD×Str×Unit->Option (Bool×Unit)
abbrev N7(f:T7):=OKP 7 (mkE p7 r7 false f)
def F7(f27:T27)(f29:T29)(f28:T28)(f18:T18)(f30:T30)(f31:T31)(f32:T32):T7:=λa=>
 cond ((Int.ofNat a.2.1.length)>1048576) (some (true,())) ((f27 (a.1,1048576,())).bind λx1=>cond (x1.1<0) (some (true,())) ((f29 (a.1,())).bind λx2=>(f28 (x2.1,a.2.1,())).bind λx3=>(f29 (a.1,())).bind λx4=>(f18 (x4.1,a.2.1,())).bind λx5=>(f30 (x5.1,x3.1,())).bind λx6=>cond (!(!x6.1)) (cond (!(x5.2.1=x3.2.1)) (some (false,())) ((f29 (a.1,())).bind λx7=>(f30 (x4.1,x7.1,())).bind λx8=>cond (!x8.1) (some (false,())) ((f31 (x4.1,1,())).bind λx9=>cond (!(x9.2.2.2.2.1<0)) ((f30 (x5.1,x3.1,())).bind λx10=>cond (!(!x10.1)) (cond (!(x5.2.1=x3.2.1)) (some (false,())) ((f31 (x5.1,1,())).bind λx11=>(f32 ((x11.1,x11.2.1,x11.2.2.1,x5.1.2.2.2.1,x11.2.2.2.1,x5.1.2.2.2.2.2.1,x5.1.2.2.2.2.2.2.1,x5.1.2.2.2.2.2.2.2.1,x5.1.2.2.2.2.2.2.2.2.1,()),1,())).bind λx12=>cond (x12.1<0) (some (false,())) (cond (!(x12.1=x11.2.2.2.2.1)) (some (false,())) ((f29 (a.1,())).bind λx13=>(f18 (x13.1,a.2.1,())).bind λx14=>(f30 (x14.1,x3.1,())).bind λx15=>cond (!(!x15.1)) (cond (!(x14.2.1=x3.2.1)) (some (false,())) ((f32 ((x11.1,x11.2.1,x11.2.2.1,x5.1.2.2.2.1,x11.2.2.2.1,x5.1.2.2.2.2.2.1,x5.1.2.2.2.2.2.2.1,x5.1.2.2.2.2.2.2.2.1,x5.1.2.2.2.2.2.2.2.2.1,()),1,())).bind λx16=>cond (x16.1<0) (some (false,())) (cond (!(x16.1=x11.2.2.2.2.1)) (some (false,())) (some (true,()))))) (some (false,())))))) (some (false,()))) (some (false,()))))) (some (false,()))))
theorem ok7{f27 f29 f28 f18 f30 f31 f32} :N27 f27->N29 f29->N28 f28->N18 f18->N30 f30->N31 f31->N32 f32->N7 (F7 f27 f29 f28 f18 f30 f31 f32):=λa b c d e g i=>fk0 (.cons a (.cons b (.cons c (.cons d (.cons e (.cons g (.cons i .nil))))))) func7
def p42:List SP:=[]
def r42:List SP:=[.agg [.o 0 .device,.o 1 .cue,.o 2 .gust,.int .i64,.o 3 .place,.int .i64,.int .i64,.int .i64,.int .i64]]
abbrev T42:=Unit->Option (DkD×Unit)
abbrev N42(f:T42):=OKP 42 (mkE p42 r42 false f)
def F42:T42:=λa=>
 some (([],[],[],0,([(⟨0,0⟩:Place)]:List Place),0,0,0,0,()),())
theorem ok42:N42 (F42):=fk0 .nil func42
def p13:List SP:=[.one (.str)]
def r13:List SP:=[.one (.o 0 .str)]
abbrev T13:=Str×Unit->Option (List Str×Unit)
abbrev N13(f:T13):=OKP 13 (mkE p13 r13 false f)
def q13_0:List SP:=pat 42 0 [(3,.one (.o 5000001 .str)),(5,.box 5000002 [.o 5000003 .device,.o 5000004 .cue,.o 5000005 .gust,.int .i64,.o 5000006 .place,.int .i64,.int .i64,.int .i64,.int .i64]),(23,.one (.o 5000007 .str)),(24,.one (.int .i64)),(25,.one (.int .i64))]
def s13_0(f41:T41)(f42:T42)(f28:T28):Lp (List Str×DkD×List Str×Int×Int×Unit) (List Str×Unit):=λt3 rec K=>
 cond (t3.2.2.2.2.1<t3.2.2.2.1) (rdL t3.2.2.1 t3.2.2.2.2.1 λ_=>(t3.2.2.1[(Int.toNat t3.2.2.2.2.1)]?).bind λx1=>(f28 (t3.2.1,x1,())).bind λx2=>capK (t3.1.length+List.length ([x2.2.1]:List Str)) (rec ((t3.1++([x2.2.1]:List Str)),x2.1,t3.2.2.1,t3.2.2.2.1,(w64 (t3.2.2.2.2.1+1)),()))) (K t3)
def F13(f41:T41)(f42:T42)(f28:T28):T13:=λa=>
 (f41 (a.1,[10],())).bind λx1=>cond (!((Int.ofNat a.1.length)>4000)) (cond ((Int.ofNat x1.1.length)>40) (some (([]:List Str),())) ((f42 (())).bind λx2=>ZAD (s13_0 f41 f42 f28) fuel (([]:List Str),x2.1,x1.1,(Int.ofNat x1.1.length),0,()) λx3=>some (x3.1,()))) (some (([]:List Str),()))
theorem ok13{f41 f42 f28} :N41 f41->N42 f42->N28 f28->N13 (F13 f41 f42 f28):=λa b c=>fk (ps:=p13) (rs:=r13) (L:=lenv [(0,ZAI q13_0 (s13_0 f41 f42 f28))]) (ls:=[(0,ZAJ f13 0)]) (.cons a (.cons b (.cons c .nil))) func13 (.cons q13_0 (s13_0 f41 f42 f28) rfl (λ_ _ _ _=>by kernel_rfl) .nil)
def p39:List SP:=[]
def r39:List SP:=[.agg [.o 0 .device,.o 1 .cue,.o 2 .gust,.int .i64,.o 3 .place,.int .i64,.int .i64,.int .i64,.int .i64]]
abbrev T39:=Unit->Option (DkD×Unit)
abbrev N39(f:T39):=OKP 39 (mkE p39 r39 false f)
def F39:T39:=λa=>
 some (([],[],[],0,([(⟨0,0⟩:Place)]:List Place),0,0,0,0,()),())
theorem ok39:N39 (F39):=fk0 .nil func39
def p11:List SP:=[.one (.str)]
def r11:List SP:=[.one (.o 0 .str)]
abbrev T11:=Str×Unit->Option (List Str×Unit)
abbrev N11(f:T11):=OKP 11 (mkE p11 r11 false f)
def q11_0:List SP:=pat 40 0 [(3,.one (.o 5000001 .str)),(5,.box 5000002 [.o 5000003 .device,.o 5000004 .cue,.o 5000005 .gust,.int .i64,.o 5000006 .place,.int .i64,.int .i64,.int .i64,.int .i64]),(22,.one (.o 5000007 .str)),(23,.one (.int .i64)),(24,.one (.int .i64))]
def s11_0(f10:T10)(f39:T39)(f18:T18):Lp (List Str×DkD×List Str×Int×Int×Unit) (List Str×Unit):=λt3 rec K=>
 cond (t3.2.2.2.2.1<t3.2.2.2.1) (rdL t3.2.2.1 t3.2.2.2.2.1 λ_=>(t3.2.2.1[(Int.toNat t3.2.2.2.2.1)]?).bind λx1=>(f18 (t3.2.1,x1,())).bind λx2=>capK (t3.1.length+List.length ([x2.2.1]:List Str)) (rec ((t3.1++([x2.2.1]:List Str)),x2.1,t3.2.2.1,t3.2.2.2.1,(w64 (t3.2.2.2.2.1+1)),()))) (K t3)
def F11(f10:T10)(f39:T39)(f18:T18):T11:=λa=>
 (f10 (a.1,[10],())).bind λx1=>cond (!((Int.ofNat a.1.length)>4000)) (cond ((Int.ofNat x1.1.length)>40) (some (([]:List Str),())) ((f39 (())).bind λx2=>ZAD (s11_0 f10 f39 f18) fuel (([]:List Str),x2.1,x1.1,(Int.ofNat x1.1.length),0,()) λx3=>some (x3.1,()))) (some (([]:List Str),()))
theorem ok11{f10 f39 f18} :N10 f10->N39 f39->N18 f18->N11 (F11 f10 f39 f18):=λa b c=>fk (ps:=p11) (rs:=r11) (L:=lenv [(0,ZAI q11_0 (s11_0 f10 f39 f18))]) (ls:=[(0,ZAJ f11 0)]) (.cons a (.cons b (.cons c .nil))) func11 (.cons q11_0 (s11_0 f10 f39 f18) rfl (λ_ _ _ _=>by kernel_rfl) .nil)
def p14:List SP:=[.one (.r .str),.one (.r .str)]
def r14:List SP:=[.one (.bool)]
abbrev T14:=List Str×List Str×Unit->Option (Bool×Unit)
abbrev N14(f:T14):=OKP 14 (mkE p14 r14 false f)
def q14_0:List SP:=pat 26 0 [(0,.one (.r .str)),(1,.one (.r .str)),(5,.one (.int .i64))]
def s14_0:Lp (List Str×List Str×Int×Unit) (Bool×Unit):=λt1 rec K=>
 cond (t1.2.2.1<(Int.ofNat t1.1.length)) (rdL t1.1 t1.2.2.1 λx1=>rdL t1.2.1 t1.2.2.1 λx2=>cond (!(x1=x2)) (some (false,())) (rec (t1.1,t1.2.1,(w64 (t1.2.2.1+1)),()))) (K t1)
def F14:T14:=λa=>
 cond (!((Int.ofNat a.1.length)=(Int.ofNat a.2.1.length))) (some (false,())) (ZAD (s14_0) fuel (a.1,a.2.1,0,()) λx1=>some (true,()))
theorem ok14:N14 (F14):=fk (ps:=p14) (rs:=r14) (L:=lenv [(0,ZAI q14_0 (s14_0))]) (ls:=[(0,ZAJ f14 0)]) .nil func14 (.cons q14_0 (s14_0) rfl (λ_ _ _ _=>by kernel_rfl) .nil)
def p15:List SP:=[.one (.o 0 .str),.one (.int .i64)]
def r15:List SP:=[.one (.int .i64)]
abbrev T15:=List Str×Int×Unit->Option (List Str×Int×Unit)
abbrev N15(f:T15):=OKP 15 (mkE p15 r15 false f)
def q15_0:List SP:=pat 20 0 [(0,.one (.o 0 .str)),(1,.one (.int .i64)),(5,.one (.int .i64))]
def s15_0(f43:T43):Lp (List Str×Int×Int×Unit) (List Str×Int×Unit):=λt1 rec K=>
 cond (t1.2.2.1<(Int.ofNat t1.1.length)) ((f43 (t1.2.1,())).bind λx1=>rdL t1.1 t1.2.2.1 λ_=>(t1.1[(Int.toNat t1.2.2.1)]?).bind λx2=>rec ((List.set t1.1 (Int.toNat t1.2.2.1) x1.1),(w64 (t1.2.1+1)),(w64 (t1.2.2.1+1)),())) (K t1)
def F15(f43:T43):T15:=λa=>
 ZAD (s15_0 f43) fuel (a.1,a.2.1,0,()) λx1=>some (x1.1,x1.2.1,())
theorem ok15{f43} :N43 f43->N15 (F15 f43):=λa=>fk (ps:=p15) (rs:=r15) (L:=lenv [(0,ZAI q15_0 (s15_0 f43))]) (ls:=[(0,ZAJ f15 0)]) (.cons a .nil) func15 (.cons q15_0 (s15_0 f43) rfl (λ_ _ _ _=>by kernel_rfl) .nil)
def p16:List SP:=[.one (.r .str),.one (.int .i64)]
def r16:List SP:=[.one (.int .i64)]
abbrev T16:=List Str×Int×Unit->Option (Int×Unit)
abbrev N16(f:T16):=OKP 16 (mkE p16 r16 false f)
def q16_0:List SP:=pat 22 0 [(0,.one (.r .str)),(1,.one (.int .i64)),(5,.one (.int .i64))]
def s16_0(f43:T43):Lp (List Str×Int×Int×Unit) (Int×Unit):=λt1 rec K=>
 cond (t1.2.2.1<(Int.ofNat t1.1.length)) (rdL t1.1 t1.2.2.1 λx1=>(f43 (t1.2.1,())).bind λx2=>cond (!(x1=x2.1)) (some ((-1),())) (rec (t1.1,(w64 (t1.2.1+1)),(w64 (t1.2.2.1+1)),()))) (K t1)
def F16(f43:T43):T16:=λa=>
 ZAD (s16_0 f43) fuel (a.1,a.2.1,0,()) λx1=>some (x1.2.1,())
theorem ok16{f43} :N43 f43->N16 (F16 f43):=λa=>fk (ps:=p16) (rs:=r16) (L:=lenv [(0,ZAI q16_0 (s16_0 f43))]) (ls:=[(0,ZAJ f16 0)]) (.cons a .nil) func16 (.cons q16_0 (s16_0 f43) rfl (λ_ _ _ _=>by kernel_rfl) .nil)
def p4:List SP:=[.one (.str)]
def r4:List SP:=[.one (.bool)]
abbrev T4:=Str×Unit->Option (Bool×Unit)
abbrev N4(f:T4):=OKP 4 (mkE p4 r4 false f)
def F4(f13:T13)(f11:T11)(f14:T14)(f15:T15)(f16:T16):T4:=λa=>
 cond ((Int.ofNat a.1.length)>1048576) (some (true,())) ((f13 (a.1,())).bind λx1=>(f11 (a.1,())).bind λx2=>(f14 (x2.1,x1.1,())).bind λx3=>cond (!x3.1) (some (false,())) ((f15 (x2.1,1,())).bind λx4=>(f16 (x4.1,1,())).bind λx5=>cond (x5.1<0) (some (false,())) (cond (!(x5.1=x4.2.1)) (some (false,())) ((f11 (a.1,())).bind λx6=>(f14 (x6.1,x1.1,())).bind λx7=>cond (!x7.1) (some (false,())) ((f16 (x4.1,1,())).bind λx8=>cond (x8.1<0) (some (false,())) (cond (!(x8.1=x4.2.1)) (some (false,())) (some (true,()))))))))
theorem ok4{f13 f11 f14 f15 f16} :N13 f13->N11 f11->N14 f14->N15 f15->N16 f16->N4 (F4 f13 f11 f14 f15 f16):=λa b c d e=>fk0 (.cons a (.cons b (.cons c (.cons d (.cons e .nil))))) func4
end Ev
end
noncomputable section
namespace Ev
open Go
abbrev G268:=F268
theorem okG268:N268 G268:=ok268
abbrev G233:=F233
theorem okG233:N233 G233:=ok233
abbrev G269:=F269 G233
theorem okG269:N269 G269:=ok269 okG233
abbrev G354:=F354
theorem okG354:N354 G354:=ok354
abbrev G331:=F331 G233 G354
theorem okG331:N331 G331:=ok331 okG233 okG354
abbrev G270:=F270 G331
theorem okG270:N270 G270:=ok270 okG331
abbrev G248:=F248
theorem okG248:N248 G248:=ok248
abbrev G181:=F181 G248
theorem okG181:N181 G181:=ok181 okG248
abbrev G169:=F169 G268 G269 G270 G233 G181
theorem okG169:N169 G169:=ok169 okG268 okG269 okG270 okG233 okG181
abbrev G265:=F265
theorem okG265:N265 G265:=ok265
abbrev G266:=F266 G265
theorem okG266:N266 G266:=ok266 okG265
abbrev G230:=F230 G169 G266
theorem okG230:N230 G230:=ok230 okG169 okG266
abbrev G228:=F228
theorem okG228:N228 G228:=ok228
abbrev G167:=F167 G230 G169 G265 G266 G228
theorem okG167:N167 G167:=ok167 okG230 okG169 okG265 okG266 okG228
abbrev G147:=F147 G248 G78
theorem okG147:N147 G147:=ok147 okG248 okG78
abbrev G88:=F88 G181 G147
theorem okG88:N88 G88:=ok88 okG181 okG147
abbrev G77:=F77 G169 G147 G88 G78
theorem okG77:N77 G77:=ok77 okG169 okG147 okG88 okG78
abbrev G171:=F171 G233 G268
theorem okG171:N171 G171:=ok171 okG233 okG268
abbrev G80:=F80 G171 G78 G147
theorem okG80:N80 G80:=ok80 okG171 okG78 okG147
abbrev G37:=F37
theorem okG37:N37 G37:=ok37
abbrev G38:=F38
theorem okG38:N38 G38:=ok38
abbrev G10:=F10 G38
theorem okG10:N10 G10:=ok10 okG38
abbrev G39:=F39
theorem okG39:N39 G39:=ok39
abbrev G122:=F122 G121
theorem okG122:N122 G122:=ok122 okG121
abbrev G120:=F120 G121 G122
theorem okG120:N120 G120:=ok120 okG121 okG122
abbrev G50:=F50 G118 G119 G120 G121
theorem okG50:N50 G50:=ok50 okG118 okG119 okG120 okG121
abbrev G123:=F123 G216 G215
theorem okG123:N123 G123:=ok123 okG216 okG215
abbrev G51:=F51 G122 G123 G121
theorem okG51:N51 G51:=ok51 okG122 okG123 okG121
abbrev G52:=F52 G124
theorem okG52:N52 G52:=ok52 okG124
abbrev G25:=F25 G50 G51 G52
theorem okG25:N25 G25:=ok25 okG50 okG51 okG52
abbrev G186:=F186
theorem okG186:N186 G186:=ok186
abbrev G94:=F94 G184 G185 G186
theorem okG94:N94 G94:=ok94 okG184 okG185 okG186
abbrev G95:=F95
theorem okG95:N95 G95:=ok95
abbrev G46:=F46 G94 G95
theorem okG46:N46 G46:=ok46 okG94 okG95
abbrev G96:=F96
theorem okG96:N96 G96:=ok96
abbrev G97:=F97
theorem okG97:N97 G97:=ok97
abbrev G339:=F339
theorem okG339:N339 G339:=ok339
abbrev G279:=F279 G339
theorem okG279:N279 G279:=ok279 okG339
abbrev G190:=F190 G279
theorem okG190:N190 G190:=ok190 okG279
abbrev G99:=F99
theorem okG99:N99 G99:=ok99
abbrev G129:=F129
theorem okG129:N129 G129:=ok129
abbrev G54:=F54 G129
theorem okG54:N54 G54:=ok54 okG129
abbrev G58:=F58
theorem okG58:N58 G58:=ok58
abbrev G21:=F21 G57 G54 G58
theorem okG21:N21 G21:=ok21 okG57 okG54 okG58
abbrev G189:=F189 G190 G96 G99 G21
theorem okG189:N189 G189:=ok189 okG190 okG96 okG99 okG21
abbrev G55:=F55 G124 G21
theorem okG55:N55 G55:=ok55 okG124 okG21
abbrev G100:=F100 G188 G189 G190 G55
theorem okG100:N100 G100:=ok100 okG188 okG189 okG190 okG55
abbrev G98:=F98 G100
theorem okG98:N98 G98:=ok98 okG100
abbrev G47:=F47 G96 G97 G10 G98 G99 G100
theorem okG47:N47 G47:=ok47 okG96 okG97 okG10 okG98 okG99 okG100
abbrev G191:=F191 G192 G21 G55 G54
theorem okG191:N191 G191:=ok191 okG192 okG21 okG55 okG54
abbrev G101:=F101 G10 G189 G191 G100 G99
theorem okG101:N101 G101:=ok101 okG10 okG189 okG191 okG100 okG99
abbrev G198:=F198 G199 G54 G21
theorem okG198:N198 G198:=ok198 okG199 okG54 okG21
abbrev G104:=F104 G10 G99 G189 G198
theorem okG104:N104 G104:=ok104 okG10 okG99 okG189 okG198
abbrev G291:=F291 G120
theorem okG291:N291 G291:=ok291 okG120
abbrev G204:=F204 G291
theorem okG204:N204 G204:=ok204 okG291
abbrev G203:=F203
theorem okG203:N203 G203:=ok203
abbrev G106:=F106 G120 G121 G204 G203
theorem okG106:N106 G106:=ok106 okG120 okG121 okG204 okG203
abbrev G304:=F304
theorem okG304:N304 G304:=ok304
abbrev G220:=F220 G304
theorem okG220:N220 G220:=ok220 okG304
abbrev G292:=F292 G219 G304
theorem okG292:N292 G292:=ok292 okG219 okG304
abbrev G205:=F205 G118 G220 G292
theorem okG205:N205 G205:=ok205 okG118 okG220 okG292
abbrev G206:=F206 G120 G220
theorem okG206:N206 G206:=ok206 okG120 okG220
abbrev G107:=F107 G50 G205 G185 G206
theorem okG107:N107 G107:=ok107 okG50 okG205 okG185 okG206
abbrev G343:=F343 G124
theorem okG343:N343 G343:=ok343 okG124
abbrev G293:=F293 G124 G343
theorem okG293:N293 G293:=ok293 okG124 okG343
abbrev G207:=F207 G118 G124 G184 G293 G192
theorem okG207:N207 G207:=ok207 okG118 okG124 okG184 okG293 okG192
abbrev G108:=F108 G207 G50 G94
theorem okG108:N108 G108:=ok108 okG207 okG50 okG94
abbrev G126:=F126 G218
theorem okG126:N126 G126:=ok126 okG218
abbrev G225:=F225 G218 G126 G121
theorem okG225:N225 G225:=ok225 okG218 okG126 okG121
abbrev G303:=F303 G124 G219 G57 G220 G343
theorem okG303:N303 G303:=ok303 okG124 okG219 okG57 okG220 okG343
abbrev G217:=F217 G225 G303
theorem okG217:N217 G217:=ok217 okG225 okG303
abbrev G125:=F125 G126 G217
theorem okG125:N125 G125:=ok125 okG126 okG217
abbrev G214:=F214 G124
theorem okG214:N214 G214:=ok214 okG124
abbrev G301:=F301 G51 G121 G214
theorem okG301:N301 G301:=ok301 okG51 okG121 okG214
abbrev G213:=F213 G125 G126 G301
theorem okG213:N213 G213:=ok213 okG125 okG126 okG301
abbrev G130:=F130 G52 G121
theorem okG130:N130 G130:=ok130 okG52 okG121
abbrev G294:=F294 G130
theorem okG294:N294 G294:=ok294 okG130
abbrev G208:=F208 G192 G213 G294
theorem okG208:N208 G208:=ok208 okG192 okG213 okG294
abbrev G109:=F109 G50 G51 G52 G94 G208
theorem okG109:N109 G109:=ok109 okG50 okG51 okG52 okG94 okG208
abbrev G48:=F48 G46 G101 G102 G103 G104 G105 G106 G51 G52 G107 G108 G109
theorem okG48:OK prog 48 (N48 G48):=ok48 okG46 okG101 okG102 okG103 okG104 okG105 okG106 okG51 okG52 okG107 okG108 okG109
abbrev G295:=F295
theorem okG295:N295 G295:=ok295
abbrev G209:=F209 G57 G295
theorem okG209:N209 G209:=ok209 okG57 okG295
abbrev G110:=F110 G119 G209
theorem okG110:N110 G110:=ok110 okG119 okG209
abbrev G296:=F296 G121
theorem okG296:N296 G296:=ok296 okG121
abbrev G298:=F298 G296
theorem okG298:N298 G298:=ok298 okG296
abbrev G299:=F299
theorem okG299:N299 G299:=ok299
abbrev G297:=F297 G296 G281 G298 G299
theorem okG297:N297 G297:=ok297 okG296 okG281 okG298 okG299
abbrev G210:=F210 G296 G281 G297 G298 G299
theorem okG210:N210 G210:=ok210 okG296 okG281 okG297 okG298 okG299
abbrev G111:=F111 G50 G121 G110 G210
theorem okG111:N111 G111:=ok111 okG50 okG121 okG110 okG210
abbrev G40:=F40
theorem okG40:N40 G40:=ok40
abbrev G12:=F12 G40
theorem okG12:N12 G12:=ok12 okG40
abbrev G112:=F112 G12
theorem okG112:N112 G112:=ok112 okG12
abbrev G59:=F59 G50 G111
theorem okG59:N59 G59:=ok59 okG50 okG111
abbrev G211:=F211 G126
theorem okG211:N211 G211:=ok211 okG126
abbrev G300:=F300 G120 G291
theorem okG300:N300 G300:=ok300 okG120 okG291
abbrev G135:=F135 G225
theorem okG135:N135 G135:=ok135 okG225
abbrev G212:=F212 G217 G300 G135
theorem okG212:N212 G212:=ok212 okG217 okG300 okG135
abbrev G113:=F113 G59 G211 G212
theorem okG113:N113 G113:=ok113 okG59 okG211 okG212
abbrev G114:=F114 G59 G211 G212
theorem okG114:N114 G114:=ok114 okG59 okG211 okG212
abbrev G115:=F115 G59
theorem okG115:N115 G115:=ok115 okG59
abbrev G116:=F116 G59 G211
theorem okG116:N116 G116:=ok116 okG59 okG211
abbrev G60:=F60 G126 G135
theorem okG60:N60 G60:=ok60 okG126 okG135
abbrev G22:=F22 G59 G60
theorem okG22:N22 G22:=ok22 okG59 okG60
abbrev G127:=F127 G51 G219 G220
theorem okG127:N127 G127:=ok127 okG51 okG219 okG220
abbrev G128:=F128
theorem okG128:N128 G128:=ok128
abbrev G53:=F53 G51 G52 G59 G125 G126 G127 G128
theorem okG53:N53 G53:=ok53 okG51 okG52 okG59 okG125 okG126 okG127 okG128
abbrev G19:=F19 G50 G51 G52 G53 G54 G55
theorem okG19:N19 G19:=ok19 okG50 okG51 okG52 okG53 okG54 okG55
abbrev G117:=F117 G51 G59 G213 G214
theorem okG117:N117 G117:=ok117 okG51 okG59 okG213 okG214
abbrev G56:=F56 G52 G114 G130
theorem okG56:N56 G56:=ok56 okG52 okG114 okG130
abbrev G20:=F20 G50 G52 G56
theorem okG20:N20 G20:=ok20 okG50 okG52 okG56
abbrev G49:=F49 G110 G21 G111 G112 G113 G54 G55 G114 G115 G116 G22 G19 G117 G20
theorem okG49:N49 G49:=ok49 okG110 okG21 okG111 okG112 okG113 okG54 okG55 okG114 okG115 okG116 okG22 okG19 okG117 okG20
abbrev G18:=F18 G25 G46 G47 G48 G49
theorem okG18:N18 G18:=ok18 okG25 okG46 okG47 okG48 okG49
abbrev G11:=F11 G10 G39 G18
theorem okG11:N11 G11:=ok11 okG10 okG39 okG18
abbrev G41:=F41
theorem okG41:N41 G41:=ok41
abbrev G42:=F42
theorem okG42:N42 G42:=ok42
abbrev G229:=F229
theorem okG229:N229 G229:=ok229
abbrev G139:=F139 G228 G229
theorem okG139:N139 G139:=ok139 okG228 okG229
abbrev G63:=F63 G139
theorem okG63:N63 G63:=ok63 okG139
abbrev G307:=F307
theorem okG307:N307 G307:=ok307
abbrev G231:=F231 G171 G307
theorem okG231:N231 G231:=ok231 okG171 okG307
abbrev G234:=F234 G233
theorem okG234:N234 G234:=ok234 okG233
abbrev G232:=F232 G233 G234
theorem okG232:N232 G232:=ok232 okG233 okG234
abbrev G140:=F140 G230 G231 G232 G233
theorem okG140:N140 G140:=ok140 okG230 okG231 okG232 okG233
abbrev G235:=F235
theorem okG235:N235 G235:=ok235
abbrev G141:=F141 G234 G235
theorem okG141:N141 G141:=ok141 okG234 okG235
abbrev G142:=F142 G181
theorem okG142:N142 G142:=ok142 okG181
abbrev G64:=F64 G140 G141 G142
theorem okG64:N64 G64:=ok64 okG140 okG141 okG142
abbrev G348:=F348
theorem okG348:N348 G348:=ok348
abbrev G311:=F311 G331
theorem okG311:N311 G311:=ok311 okG331
abbrev G371:=F371
theorem okG371:N371 G371:=ok371
abbrev G355:=F355 G371
theorem okG355:N355 G355:=ok355 okG371
abbrev G317:=F317
theorem okG317:N317 G317:=ok317
abbrev G351:=F351 G355 G317
theorem okG351:N351 G351:=ok351 okG355 okG317
abbrev G356:=F356 G331 G311 G351
theorem okG356:N356 G356:=ok356 okG331 okG311 okG351
abbrev G316:=F316 G311 G356
theorem okG316:N316 G316:=ok316 okG311 okG356
abbrev G358:=F358
theorem okG358:N358 G358:=ok358
abbrev G313:=F313
theorem okG313:N313 G313:=ok313
abbrev G319:=F319 G181 G358 G313
theorem okG319:N319 G319:=ok319 okG181 okG358 okG313
abbrev G357:=F357 G319 G141
theorem okG357:N357 G357:=ok357 okG319 okG141
abbrev G318:=F318 G316 G311 G357 G317
theorem okG318:N318 G318:=ok318 okG316 okG311 okG357 okG317
abbrev G320:=F320 G142
theorem okG320:N320 G320:=ok320 okG142
abbrev G349:=F349 G320
theorem okG349:N349 G349:=ok349 okG320
abbrev G308:=F308 G169 G142 G348 G318 G349
theorem okG308:N308 G308:=ok308 okG169 okG142 okG348 okG318 okG349
abbrev G236:=F236 G140 G141 G142 G139 G308
theorem okG236:N236 G236:=ok236 okG140 okG141 okG142 okG139 okG308
abbrev G359:=F359
theorem okG359:N359 G359:=ok359
abbrev G323:=F323 G248 G359
theorem okG323:N323 G323:=ok323 okG248 okG359
abbrev G249:=F249 G323
theorem okG249:N249 G249:=ok249 okG323
abbrev G373:=F373 G233
theorem okG373:N373 G373:=ok373 okG233
abbrev G375:=F375 G358
theorem okG375:N375 G375:=ok375 okG358
abbrev G376:=F376
theorem okG376:N376 G376:=ok376
abbrev G374:=F374 G373 G269 G375 G376
theorem okG374:N374 G374:=ok374 okG373 okG269 okG375 okG376
abbrev G361:=F361 G373 G269 G374 G375 G376
theorem okG361:N361 G361:=ok361 okG373 okG269 okG374 okG375 okG376
abbrev G329:=F329 G233 G249 G358 G361
theorem okG329:N329 G329:=ok329 okG233 okG249 okG358 okG361
abbrev G309:=F309 G329 G348
theorem okG309:N309 G309:=ok309 okG329 okG348
abbrev G325:=F325
theorem okG325:N325 G325:=ok325
abbrev G350:=F350 G232 G325 G317
theorem okG350:N350 G350:=ok350 okG232 okG325 okG317
abbrev G352:=F352 G311
theorem okG352:N352 G352:=ok352 okG311
abbrev G310:=F310 G350 G351 G317 G352
theorem okG310:N310 G310:=ok310 okG350 okG351 okG317 okG352
abbrev G238:=F238 G140 G309 G311 G310
theorem okG238:N238 G238:=ok238 okG140 okG309 okG311 okG310
abbrev G254:=F254 G37
theorem okG254:N254 G254:=ok254 okG37
abbrev G237:=F237 G78 G88 G147 G254
theorem okG237:N237 G237:=ok237 okG78 okG88 okG147 okG254
abbrev G312:=F312 G311 G352
theorem okG312:N312 G312:=ok312 okG311 okG352
abbrev G239:=F239 G140 G309 G312 G313
theorem okG239:N239 G239:=ok239 okG140 okG309 okG312 okG313
abbrev G315:=F315 G141 G354 G355
theorem okG315:N315 G315:=ok315 okG141 okG354 okG355
abbrev G353:=F353
theorem okG353:N353 G353:=ok353
abbrev G314:=F314 G309 G316 G315 G311 G317 G353
theorem okG314:N314 G314:=ok314 okG309 okG316 okG315 okG311 okG317 okG353
abbrev G240:=F240 G140 G141 G142 G314 G315 G316 G311 G78 G317 G88
theorem okG240:N240 G240:=ok240 okG140 okG141 okG142 okG314 okG315 okG316 okG311 okG78 okG317 okG88
abbrev G241:=F241 G140 G141 G309 G318 G319
theorem okG241:N241 G241:=ok241 okG140 okG141 okG309 okG318 okG319
abbrev G242:=F242 G140 G142 G238 G320
theorem okG242:N242 G242:=ok242 okG140 okG142 okG238 okG320
abbrev G143:=F143 G236 G238 G237 G239 G147 G240 G241 G88 G242
theorem okG143:N143 G143:=ok143 okG236 okG238 okG237 okG239 okG147 okG240 okG241 okG88 okG242
abbrev G144:=F144 G78
theorem okG144:N144 G144:=ok144 okG78
abbrev G250:=F250 G41 G144 G147
theorem okG250:N250 G250:=ok250 okG41 okG144 okG147
abbrev G149:=F149 G250 G88
theorem okG149:N149 G149:=ok149 okG250 okG88
abbrev G145:=F145 G149
theorem okG145:N145 G145:=ok145 okG149
abbrev G243:=F243 G41 G250 G149 G77 G144
theorem okG243:N243 G243:=ok243 okG41 okG250 okG149 okG77 okG144
abbrev G247:=F247
theorem okG247:N247 G247:=ok247
abbrev G321:=F321 G230
theorem okG321:N321 G321:=ok321 okG230
abbrev G244:=F244 G265 G230 G321 G228
theorem okG244:N244 G244:=ok244 okG265 okG230 okG321 okG228
abbrev G245:=F245 G41 G144 G250 G80
theorem okG245:N245 G245:=ok245 okG41 okG144 okG250 okG80
abbrev G322:=F322 G307 G229
theorem okG322:N322 G322:=ok322 okG307 okG229
abbrev G246:=F246 G322 G231 G171 G229
theorem okG246:N246 G246:=ok246 okG322 okG231 okG171 okG229
abbrev G146:=F146 G243 G167 G247 G244 G245 G246
theorem okG146:N146 G146:=ok146 okG243 okG167 okG247 okG244 okG245 okG246
abbrev G148:=F148 G231 G249
theorem okG148:N148 G148:=ok148 okG231 okG249
abbrev G324:=F324 G325
theorem okG324:N324 G324:=ok324 okG325
abbrev G326:=F326
theorem okG326:N326 G326:=ok326
abbrev G251:=F251 G232 G324 G325 G326
theorem okG251:N251 G251:=ok251 okG232 okG324 okG325 okG326
abbrev G150:=F150 G251 G247
theorem okG150:N150 G150:=ok150 okG251 okG247
abbrev G372:=F372 G354 G371
theorem okG372:N372 G372:=ok372 okG354 okG371
abbrev G360:=F360 G355 G317 G372 G169
theorem okG360:N360 G360:=ok360 okG355 okG317 okG372 okG169
abbrev G327:=F327 G230 G360
theorem okG327:N327 G327:=ok327 okG230 okG360
abbrev G328:=F328 G232 G355
theorem okG328:N328 G328:=ok328 okG232 okG355
abbrev G252:=F252 G140 G327 G229 G328
theorem okG252:N252 G252:=ok252 okG140 okG327 okG229 okG328
abbrev G253:=F253 G140 G329
theorem okG253:N253 G253:=ok253 okG140 okG329
abbrev G255:=F255 G140 G309 G311 G310
theorem okG255:N255 G255:=ok255 okG140 okG309 okG311 okG310
abbrev G256:=F256 G140 G309
theorem okG256:N256 G256:=ok256 okG140 okG309
abbrev G257:=F257 G140 G309 G311
theorem okG257:N257 G257:=ok257 okG140 okG309 okG311
abbrev G151:=F151 G247 G252 G253 G147 G254 G255 G237 G256 G78 G257
theorem okG151:N151 G151:=ok151 okG247 okG252 okG253 okG147 okG254 okG255 okG237 okG256 okG78 okG257
abbrev G330:=F330 G230 G181 G360
theorem okG330:N330 G330:=ok330 okG230 okG181 okG360
abbrev G258:=F258 G330 G140 G139
theorem okG258:N258 G258:=ok258 okG330 okG140 okG139
abbrev G152:=F152 G141 G247 G142 G258
theorem okG152:N152 G152:=ok152 okG141 okG247 okG142 okG258
abbrev G65:=F65 G41 G143 G144 G145 G146 G148 G147 G149 G150 G151 G152
theorem okG65:N65 G65:=ok65 okG41 okG143 okG144 okG145 okG146 okG148 okG147 okG149 okG150 okG151 okG152
abbrev G28:=F28 G63 G64 G65
theorem okG28:N28 G28:=ok28 okG63 okG64 okG65
abbrev G13:=F13 G41 G42 G28
theorem okG13:N13 G13:=ok13 okG41 okG42 okG28
abbrev G14:=F14
theorem okG14:N14 G14:=ok14
abbrev G43:=F43
theorem okG43:N43 G43:=ok43
abbrev G15:=F15 G43
theorem okG15:N15 G15:=ok15 okG43
abbrev G16:=F16 G43
theorem okG16:N16 G16:=ok16 okG43
abbrev G4:=F4 G13 G11 G14 G15 G16
theorem okG4:N4 G4:=ok4 okG13 okG11 okG14 okG15 okG16
abbrev G226:=F226
theorem okG226:N226 G226:=ok226
abbrev G136:=F136 G226
theorem okG136:N136 G136:=ok136 okG226
abbrev G227:=F227
theorem okG227:N227 G227:=ok227
abbrev G137:=F137 G227
theorem okG137:N137 G137:=ok137 okG227
abbrev G138:=F138
theorem okG138:N138 G138:=ok138
abbrev G61:=F61 G136 G137 G138
theorem okG61:N61 G61:=ok61 okG136 okG137 okG138
abbrev G62:=F62
theorem okG62:N62 G62:=ok62
abbrev G27:=F27 G61 G62
theorem okG27:N27 G27:=ok27 okG61 okG62
abbrev G156:=F156
theorem okG156:N156 G156:=ok156
abbrev G259:=F259 G156
theorem okG259:N259 G259:=ok259 okG156
abbrev G153:=F153 G259
theorem okG153:N153 G153:=ok153 okG259
abbrev G260:=F260
theorem okG260:N260 G260:=ok260
abbrev G154:=F154 G260
theorem okG154:N154 G154:=ok154 okG260
abbrev G261:=F261 G156
theorem okG261:N261 G261:=ok261 okG156
abbrev G155:=F155 G261
theorem okG155:N155 G155:=ok155 okG261
abbrev G66:=F66 G153 G154 G155
theorem okG66:N66 G66:=ok66 okG153 okG154 okG155
abbrev G67:=F67 G156
theorem okG67:N67 G67:=ok67 okG156
abbrev G68:=F68 G156
theorem okG68:N68 G68:=ok68 okG156
abbrev G29:=F29 G66 G67 G68
theorem okG29:N29 G29:=ok29 okG66 okG67 okG68
abbrev G160:=F160
theorem okG160:N160 G160:=ok160
abbrev G262:=F262 G160
theorem okG262:N262 G262:=ok262 okG160
abbrev G157:=F157 G262
theorem okG157:N157 G157:=ok157 okG262
abbrev G263:=F263
theorem okG263:N263 G263:=ok263
abbrev G158:=F158 G263
theorem okG158:N158 G158:=ok158 okG263
abbrev G264:=F264 G160
theorem okG264:N264 G264:=ok264 okG160
abbrev G159:=F159 G264
theorem okG159:N159 G159:=ok159 okG264
abbrev G69:=F69 G157 G158 G159
theorem okG69:N69 G69:=ok69 okG157 okG158 okG159
abbrev G70:=F70 G160
theorem okG70:N70 G70:=ok70 okG160
abbrev G71:=F71 G160
theorem okG71:N71 G71:=ok71 okG160
abbrev G30:=F30 G69 G70 G71
theorem okG30:N30 G30:=ok30 okG69 okG70 okG71
abbrev G161:=F161 G43
theorem okG161:N161 G161:=ok161 okG43
abbrev G162:=F162 G43
theorem okG162:N162 G162:=ok162 okG43
abbrev G163:=F163
theorem okG163:N163 G163:=ok163
abbrev G72:=F72 G161 G162 G163
theorem okG72:N72 G72:=ok72 okG161 okG162 okG163
abbrev G73:=F73
theorem okG73:N73 G73:=ok73
abbrev G31:=F31 G72 G73
theorem okG31:N31 G31:=ok31 okG72 okG73
abbrev G164:=F164 G43
theorem okG164:N164 G164:=ok164 okG43
abbrev G165:=F165 G43
theorem okG165:N165 G165:=ok165 okG43
abbrev G166:=F166
theorem okG166:N166 G166:=ok166
abbrev G74:=F74 G164 G165 G166
theorem okG74:N74 G74:=ok74 okG164 okG165 okG166
abbrev G75:=F75
theorem okG75:N75 G75:=ok75
abbrev G32:=F32 G74 G75
theorem okG32:N32 G32:=ok32 okG74 okG75
abbrev G7:=F7 G27 G29 G28 G18 G30 G31 G32
theorem okG7:N7 G7:=ok7 okG27 okG29 okG28 okG18 okG30 okG31 okG32
end Ev
end
