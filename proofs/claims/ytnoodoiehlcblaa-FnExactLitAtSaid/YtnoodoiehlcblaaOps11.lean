/- Parts of slices, conversions; and all operations but calls of the program's functions. -/
import Derived.Test.YtnoodoiehlcblaaOps10
import Derived.Laws.BytesString
set_option linter.unusedVariables false
set_option linter.unusedSimpArgs false
namespace Ev
open Go

theorem cbnd {ρ : Rho} {F : Nat → Prop} {w : World} {fr : List V} {a : Act} (x : Option Operand) (h : ∀ t, x = some (.tmp t) → RelT ρ F w (get fr t) (a.tmps.getD t undef)) :
    CBnd (x.map (opd fr)) (x.map a.eval) := by
  cases x with
  | none => trivial
  | some x =>
    have r := opd_rel (ρ := ρ) (F := F) (w := w) (fr := fr) (a := a) x fun t e => h t (by rw [e])
    simp only [Option.map_some]
    generalize opd fr x = v at r
    cases v <;> first | exact r | trivial
theorem slice_ok {P : Program} {calm : Prop} {o : Oper} {s : St} {t dst : Nat} {ti : TI} {ann : Nat → Bool} {x : Operand} {lo hi : Option Operand} {R : Type} {K : V → St → Option R} {r : R} (hT : TIok P t ti) (hcalm : calm → ann dst = false)
    (ho : o.op = .slice t x lo hi none) (hd : idOf o = dst) (h : sliceK ti ann dst s (opd s.fr x) (lo.map (opd s.fr)) (hi.map (opd s.fr)) K = some r) : ∃ v s', K v s' = some r ∧ OpOK P calm o s v s' := by
  have hrel : ∀ (ρ : Rho) (F : Nat → Prop) (a : Act) (w : World), (∀ t, Reads o t → RelT ρ F w (get s.fr t) (a.tmps.getD t undef)) →
      RelT ρ F w (opd s.fr x) (a.eval x) ∧ CBnd (lo.map (opd s.fr)) (lo.map a.eval) ∧ CBnd (hi.map (opd s.fr)) (hi.map a.eval) :=
    fun ρ F a w hr => ⟨opd_rel x fun t e => hr t (by simp [Reads, ho, Op.operands, e]), cbnd lo fun t e => hr t (by simp [Reads, ho, Op.operands, e]), cbnd hi fun t e => hr t (by simp [Reads, ho, Op.operands, e])⟩
  have hrun : ∀ (a : Act) (w : World) c, (Instr.sliceAt t (a.eval x) (lo.map a.eval) (hi.map a.eval) none).run P w = .ok c w → (execOp a.eval o).run P w = .ok (.value c) w := by
    intro a w c hh
    simp [execOp, ho, Sem.run_bind, hh]
  unfold sliceK at h
  split at h
  · rename_i l hk hx
    obtain ⟨v, hv, hs⟩ := sliceStr_sound (P := P) (kind_str hT hk) h
    refine ⟨v, s, hv, opok_val fun ρ F a w H hr => ?_⟩
    obtain ⟨r1, r2, r3⟩ := hrel ρ F a w hr
    rw [hx] at r1
    obtain ⟨c, h1, h2⟩ := hs ρ F w _ _ _ r1 r2 r3
    exact ⟨c, hrun a w c h1, h2⟩
  · rename_i τ t' l hk hx
    obtain ⟨e, hde, hE⟩ := kind_sl hT hk
    split at h <;> try (cases h; done)
    rename_i l' hc
    obtain ⟨e0, he0⟩ := castL_eq hc
    subst e0
    simp only at he0
    subst he0
    obtain ⟨p, q, h, h1, h2, hlo, hhi⟩ := winK_some h
    refine ⟨_, s, h, opok_val fun ρ F a w H hr => ?_⟩
    obtain ⟨r1, r2, r3⟩ := hrel ρ F a w hr
    rw [hx] at r1
    obtain ⟨base, cap, e1, hcap, hh⟩ := r1
    have hrn := run_sliceAt' (P := P) hde hE.1 (w := w) (base := base) (len := l.length) (cap := cap) h1 h2 hcap (cLo hlo r2) (cHi hhi r3)
    refine ⟨_, hrun a w _ (by rw [e1]; exact hrn), ?_⟩
    obtain ⟨b', cap', e2, h3, h4⟩ := src_win h1 h2 hcap (hh.imp id fun ⟨b, s, e, _, hat⟩ => ⟨b, s, e, hat⟩)
    refine ⟨b', cap', e2, h3, ?_⟩
    rcases h4 with h4 | ⟨b, s', e3, hat⟩
    · exact .inl h4
    · by_cases hpq : p = q
      · left; apply List.eq_nil_of_length_eq_zero; simp; omega
      · right
        refine ⟨b, s', e3, ?_, hat⟩
        rcases hh with rfl | ⟨b0, s0, e4, hF, _⟩
        · simp at h2; omega
        · subst e4
          simp only [Value.slice.injEq] at e2
          rw [if_neg (by omega)] at e2
          have := e2.1.trans e3
          simp only [Option.map_some, addr_add, Option.some.injEq, Addr.mk.injEq] at this
          rw [← this.1]; exact hF
  · rename_i τ id hk hx
    obtain ⟨e, hde, hE⟩ := kind_sl hT hk
    split at h <;> try (cases h; done)
    rename_i t' l hl
    split at h <;> try (cases h; done)
    rename_i l' hc
    obtain ⟨e0, he0⟩ := castL_eq hc
    subst e0
    simp only at he0
    subst he0
    obtain ⟨p, q, h, h1, h2, hlo, hhi⟩ := winK_some h
    cases hann : ann dst <;> simp only [hann, cond_true, cond_false] at h
    · refine ⟨_, s, h, opok_val fun ρ F a w H hr => ?_⟩
      obtain ⟨r1, r2, r3⟩ := hrel ρ F a w hr
      rw [hx] at r1
      obtain ⟨t0, base, len, cap, hρ, e1⟩ := r1
      obtain ⟨rfl, hlen, hcap, hat⟩ := row_at H hρ hl
      subst hlen
      have hrn := run_sliceAt' (P := P) hde hE.1 (w := w) (base := base) (len := l.length) (cap := cap) h1 h2 hcap (cLo hlo r2) (cHi hhi r3)
      exact ⟨_, hrun a w _ (by rw [e1]; exact hrn), t', base, l.length, cap, hρ, h1, h2, hcap, rfl⟩
    · unfold putRow at h
      cases hge : Nat.ble 100 id <;> simp only [hge, cond_true, cond_false] at h
      · cases h
      have hge := Nat.le_of_ble_eq_true hge
      obtain ⟨st', h, g1, ⟨b0, g2⟩, g3⟩ := updK_some h
      refine ⟨_, _, h, fun ρ F a w H hM hf hr N Q hN => ?_⟩
      obtain ⟨r1, r2, r3⟩ := hrel ρ F a w hr
      rw [hx] at r1
      obtain ⟨t0, base, len, cap, hρ, e1⟩ := r1
      have hH := H.heap id _ _ hρ hl
      obtain ⟨rfl, hlen, hcap, hat⟩ := hH
      subst hlen
      have hrn := run_sliceAt' (P := P) hde hE.1 (w := w) (base := base) (len := l.length) (cap := cap) h1 h2 hcap (cLo hlo r2) (cHi hhi r3)
      unfold Oper.wp
      rw [hrun a w _ (by rw [e1]; exact hrn)]
      have hlw : ((l.take q).drop p).length = q - p := by simp; omega
      refine hN _ _ _ F (post_upd (v := .own id) (loc' := .row t' (if cap - p = 0 then base else base.map (·.add (p * t'.width))) (q - p) (cap - p)) (fun hc => by rw [hcalm hc] at hann; cases hann) hge H hM hρ g2 g1 g3 (fun cs e => by cases e) (Chg.refl _ _) ?_ ?_ ⟨_, _, _, _, Rho.set_same _ _ _, rfl⟩)
      · intro b hb
        left
        cases base with
        | none => by_cases hz : cap - p = 0 <;> simp [Loc.block, hz] at hb
        | some ad =>
          by_cases hz : cap - p = 0
          · simp [Loc.block, hz] at hb
          · simp only [Loc.block, if_neg hz, Option.map_some] at hb ⊢
            rw [if_neg (by omega)]
            cases hb
            congr 1
            unfold Addr.add; split <;> rfl
      · refine ⟨rfl, hlw, by omega, ?_⟩
        by_cases hz : cap - p = 0
        · exact .inl hz
        · rcases hat with hat | ⟨b, sft, arr, rfl, hrow, hfit, hatl⟩
          · omega
          · right
            rw [if_neg hz]
            refine ⟨b, sft + p * t'.width, arr, by simp [addr_add], hrow, ?_, (hatl.take q).drop (by simp; omega)⟩
            have : p * t'.width + (cap - p) * t'.width = cap * t'.width := by rw [← Nat.add_mul]; congr 1; omega
            omega
  · cases h
/-- Bytes in memory, as a text. -/
theorem run_bytesToString {P : Program} {w : World} {m : List Int} {c : Value} (h : Src .u8 w m c) : (Conv.bytesToString c).run P w = .ok (.string ⟨⟨m.map fun n => UInt8.ofNat n.toNat⟩⟩) w := by
  have fold : ∀ (f : Value → ByteArray → Sem (ForInStep ByteArray)) (hf : ∀ (n : Int) (s : ByteArray), f (.int .u8 n) s = pure (ForInStep.yield (s.push (UInt8.ofNat n.toNat)))) (m : List Int) (s : ByteArray),
      (forIn (m := Sem) (((flat .u8 m).toArray)) s f).run P w = .ok ⟨⟨s.data.toList ++ m.map fun n => UInt8.ofNat n.toNat⟩⟩ w := by
    intro f hf m
    induction m with
    | nil => intro s; rw [show flat .u8 [] = [] from rfl]; simp
    | cons n m ih =>
      intro s
      rw [flat_cons]
      have := ih (s.push (UInt8.ofNat n.toNat))
      simp only [List.forIn_toArray] at this ⊢
      simp only [Ty.cells, List.map_cons, List.map_nil, sv, List.cons_append, List.nil_append, List.forIn_cons, hf, Sem.run_bind, Sem.run_pure, Result.andThen_ok]
      rw [this]
      simp [ByteArray.push]
  obtain ⟨a, cap, rfl, hc, h⟩ := h
  rcases h with rfl | ⟨b, s, rfl, hat⟩
  · cases a with
    | none => rfl
    | some a =>
      have h0 : (loadCells a 0).run P w = .ok #[] w := by simp [loadCells, loadCellsFrom]
      simp only [Conv.bytesToString, List.length_nil, Sem.run_bind, h0, Result.andThen_ok]
      simp
      rfl
  · have hl := run_loadCells_list (P := P) (w := w) ⟨b, s, none⟩ (flat .u8 m) (fun j v hv => by rw [addr_add]; exact hat j v hv)
    have hlen : (flat .u8 m).length = m.length := by rw [flat_length]; simp [Ty.width]
    rw [hlen] at hl
    simp only [Conv.bytesToString, Sem.run_bind, hl, Result.andThen_ok]
    rw [fold _ (fun _ _ => rfl) m ByteArray.empty]
    simp
theorem convK_sound {R : Type} {P : Program} {T : Tab} (hT : TabOK P T) {st : Store} {a b : Nat} {x : V} {K : V → Option R} {r : R} (h : convK T st a b x K = some r) :
    ∃ v, K v = some r ∧ ∀ ρ F w cx, Core ρ F st w → RelT ρ F w x cx → ∃ c, (convert a b cx).run P w = .ok c w ∧ RelT ρ F w v c := by
  unfold convK at h
  split at h <;> try (cases h; done)
  rename_i si ti hsi hti
  obtain ⟨ds, hds, hks, _⟩ := (hT _ _ hsi).1.kind
  obtain ⟨d, hd, hk, _⟩ := (hT _ _ hti).1.kind
  split at h
  · rename_i k k0 n hkk
    rw [hkk] at hk
    cases d <;> try exact hk.elim
    cases hk
    refine ⟨_, h, fun ρ F w cx H (e : cx = _) => ⟨.int k (k.wrap n), ?_, rfl⟩⟩
    subst e
    simp [convert, Sem.run_bind, run_underlying hds, run_underlying hd, Conv.intToInt]
  · rename_i s hkk
    rw [hkk] at hk
    cases d <;> try exact hk.elim
    refine ⟨_, h, fun ρ F w cx H (e : cx = _) => ⟨_, ?_, rfl⟩⟩
    subst e
    simp [convert, Sem.run_bind, run_underlying hds, run_underlying hd]
  · rename_i hks' hkk hns
    rw [hkk] at hk
    rw [hks'] at hks
    cases d <;> try exact hk.elim
    cases ds <;> try exact hks.elim
    rename_i e
    obtain ⟨m, h, hm⟩ := rowsK_sound h
    refine ⟨_, h, fun ρ F w cx H r1 => ⟨_, ?_, rfl⟩⟩
    have hsrc := hm ρ F w cx H r1
    have hb := run_bytesToString (P := P) hsrc
    have hu := hks.2.2.2.2 rfl
    obtain ⟨a', cap, e1, _⟩ := hsrc
    subst e1
    simp [convert, Sem.run_bind, run_underlying hds, run_underlying hd, run_underlying hu, hb]
  · cases h
end Ev
