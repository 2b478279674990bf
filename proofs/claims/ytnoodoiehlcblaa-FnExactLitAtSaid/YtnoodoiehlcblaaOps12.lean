/- All operations but calls of the program's functions. -/
import Derived.Test.YtnoodoiehlcblaaOps11
set_option linter.unusedVariables false
set_option linter.unusedSimpArgs false
namespace Ev
open Go

/-- The operations that are no call of a function. -/
def NoCall : Op → Prop
  | .call ⟨.value _, _, _⟩ => False
  | _ => True
set_option maxHeartbeats 1000000 in
theorem evOp_base {R : Type} {P : Program} {E : Env} {T : Tab} (hT : TabOK P T) {ann : Nat → Bool} {o : Oper} {dst : Nat} {s : St} {K : V → St → Option R} {r : R} (hd : idOf o = dst) (hn : NoCall o.op)
    (h : evOp E T ann dst o.op s K = some r) : ∃ v s', K v s' = some r ∧ OpOK P (calm E ann o = true) o s v s' := by
  have opd1 : ∀ {x : Operand} (ρ : Rho) (F : Nat → Prop) (a : Act) (w : World), x ∈ o.op.operands → (∀ t, Reads o t → RelT ρ F w (get s.fr t) (a.tmps.getD t undef)) → RelT ρ F w (opd s.fr x) (a.eval x) :=
    fun ρ F a w hx hr => opd_rel _ fun t e => hr t (by unfold Reads; rw [← e]; exact hx)
  cases hop : o.op with
  | move x =>
    rw [hop] at h
    exact ⟨_, s, h, opok_val fun ρ F a w H hr => ⟨a.eval x, by simp [execOp, hop], opd1 ρ F a w (by simp [hop, Op.operands]) hr⟩⟩
  | assign x =>
    rw [hop] at h
    exact ⟨_, s, h, opok_val fun ρ F a w H hr => ⟨a.eval x, by simp [execOp, hop], opd1 ρ F a w (by simp [hop, Op.operands]) hr⟩⟩
  | pick c x y =>
    rw [hop] at h
    simp only [evOp] at h
    split at h <;> try (cases h; done)
    rename_i t ht
    cases t <;> simp only [cond_true, cond_false] at h
    · exact ⟨_, s, h, opok_val fun ρ F a w H hr => ⟨a.eval y, by
        have e : a.eval c = .bool false := by have := opd1 (x := c) ρ F a w (by simp [hop, Op.operands]) hr; rw [ht] at this; exact this
        simp [execOp, hop, e, asBool], opd1 ρ F a w (by simp [hop, Op.operands]) hr⟩⟩
    · exact ⟨_, s, h, opok_val fun ρ F a w H hr => ⟨a.eval x, by
        have e : a.eval c = .bool true := by have := opd1 (x := c) ρ F a w (by simp [hop, Op.operands]) hr; rw [ht] at this; exact this
        simp [execOp, hop, e, asBool], opd1 ρ F a w (by simp [hop, Op.operands]) hr⟩⟩
  | alloc t =>
    rw [hop] at h
    simp only [evOp] at h
    split at h <;> try (cases h; done)
    rename_i ti hti
    obtain ⟨hl, h⟩ := newK_some h
    exact ⟨_, _, h, alloc_ok (hT _ _ hti).1 hop hd hl⟩
  | box t x =>
    rw [hop] at h
    simp only [evOp] at h
    split at h <;> try (cases h; done)
    rename_i hu ht
    obtain ⟨hl, h⟩ := newK_some h
    exact ⟨_, _, h, box_ok hop hd hl rfl hu ht⟩
  | build t ps =>
    rw [hop] at h
    simp only [evOp] at h
    split at h <;> try (cases h; done)
    rename_i ti hti
    have go : buildK ti.flds (partsV s.fr ps.toList) ti.zero (fun cs => K (.agg cs) s) = some r ∧ (ti.kind = .struct ∨ ∃ n w a, ti.kind = .arr n w a) := by
      split at h
      · rename_i hk; exact ⟨h, .inl hk⟩
      · rename_i n w a hk; exact ⟨h, .inr ⟨n, w, a, hk⟩⟩
      · cases h
    obtain ⟨cs, hk, hb⟩ := build_sound (hT _ _ hti).1 go.2 go.1
    refine ⟨_, s, hk, opok_val fun ρ F a w H hr => ?_⟩
    obtain ⟨ca, h1, h2⟩ := hb ρ F w (ps.map fun (i, x) => (i, a.eval x)) (by simp [partsV]) (fun i j v hv => by
      obtain ⟨x, hx, rfl⟩ := partsV_get hv
      refine ⟨a.eval x, by simp [hx], opd1 ρ F a w ?_ hr⟩
      simp only [hop, Op.operands]
      have := List.mem_of_getElem? (show ps.toList[i]? = some (j, x) by simpa using hx)
      simp only [List.mem_toArray, List.mem_map]
      exact ⟨_, this, rfl⟩)
    exact ⟨.agg ca, by simp [execOp, hop, Sem.run_bind, h1], ca, rfl, h2.1, h2.2⟩
  | buildSlice t n ps =>
    rw [hop] at h
    simp only [evOp] at h
    split at h <;> try (cases h; done)
    rename_i a1 a2 a3 a4 a5 τ a6 hti
    cases hb : Nat.ble (n * τ.width) 16777216 <;> simp only [hb, cond_true, cond_false] at h
    · cases h
    · exact buildSlice_ok (hT _ _ hti).1 rfl hop hd (Nat.le_of_ble_eq_true hb) h
  | makeSlice t l c =>
    rw [hop] at h
    simp only [evOp] at h
    split at h <;> try (cases h; done)
    rename_i a1 a2 a3 a4 a5 τ a6 n hti hl
    cases hs : sameO l c <;> simp only [hs, cond_true, cond_false] at h
    · cases h
    · obtain ⟨h0, h⟩ := okIf_some h
      obtain ⟨h1, h⟩ := capK_some h
      obtain ⟨hlk, h⟩ := newK_some h
      exact ⟨_, _, h, makeSlice_ok (hT _ _ hti).1 rfl hop hd hlk hl hs h0 h1⟩
  | load t x =>
    rw [hop] at h
    simp only [evOp] at h
    split at h <;> try (cases h; done)
    rename_i ti hti
    obtain ⟨v, hv, hs⟩ := loadP_sound (P := P) (hT _ _ hti).1.size (hT _ _ hti).1.agg h
    refine ⟨v, s, hv, opok_val fun ρ F a w H hr => ?_⟩
    obtain ⟨c, h1, h2⟩ := hs ρ F w (a.eval x) H (opd1 ρ F a w (by simp [hop, Op.operands]) hr)
    exact ⟨c, by simp [execOp, hop, Sem.run_bind, h1], h2⟩
  | store t x y =>
    rw [hop] at h
    simp only [evOp] at h
    split at h <;> try (cases h; done)
    rename_i ti hti
    obtain ⟨st', h, hok⟩ := store_ok (P := P) (calm := calm E ann o = true) (by simp [calm, hop]) (hT _ _ hti).1.size hop h
    exact ⟨_, _, h, hok⟩
  | nilCheck x =>
    rw [hop] at h
    simp only [evOp] at h
    have key : ∀ ρ F (a : Act) w, RelT ρ F w (opd s.fr x) (a.eval x) → (∃ id o, opd s.fr x = .lptr id o) ∨ (∃ id r c, opd s.fr x = .eptr id r c) ∨ (∃ cs, opd s.fr x = .sptr cs) →
        (execOp a.eval o).run P w = .ok (.value (a.eval x)) w := by
      intro ρ F a w r hc
      have : ∃ ad, a.eval x = .pointer (some ad) := by
        rcases hc with ⟨id, o, e⟩ | ⟨id, ro, c, e⟩ | ⟨cs, e⟩ <;> rw [e] at r
        · obtain ⟨b, n, _, e⟩ := r; exact ⟨_, e⟩
        · obtain ⟨t, b, sft, len, cap, _, _, e⟩ := r; exact ⟨_, e⟩
        · obtain ⟨b, sft, e, _⟩ := r; exact ⟨_, e⟩
      obtain ⟨ad, e⟩ := this
      simp [execOp, hop, e]
    split at h <;> try (cases h; done)
    · rename_i id off hx
      exact ⟨_, s, h, opok_val fun ρ F a w H hr => ⟨a.eval x, key ρ F a w (opd1 ρ F a w (by simp [hop, Op.operands]) hr) (.inl ⟨_, _, hx⟩), hx ▸ opd1 ρ F a w (by simp [hop, Op.operands]) hr⟩⟩
    · rename_i id ro c hx
      exact ⟨_, s, h, opok_val fun ρ F a w H hr => ⟨a.eval x, key ρ F a w (opd1 ρ F a w (by simp [hop, Op.operands]) hr) (.inr (.inl ⟨_, _, _, hx⟩)), hx ▸ opd1 ρ F a w (by simp [hop, Op.operands]) hr⟩⟩
    · rename_i cs hx
      exact ⟨_, s, h, opok_val fun ρ F a w H hr => ⟨a.eval x, key ρ F a w (opd1 ρ F a w (by simp [hop, Op.operands]) hr) (.inr (.inr ⟨_, hx⟩)), hx ▸ opd1 ρ F a w (by simp [hop, Op.operands]) hr⟩⟩
  | binOp op t x y u =>
    rw [hop] at h
    simp only [evOp] at h
    obtain ⟨v, hv, hs⟩ := binK_sound (P := P) hT h
    refine ⟨v, s, hv, opok_val fun ρ F a w H hr => ?_⟩
    obtain ⟨c, h1, h2⟩ := hs ρ F w (a.eval x) (a.eval y) x y (opd1 ρ F a w (by simp [hop, Op.operands]) hr) (opd1 ρ F a w (by simp [hop, Op.operands]) hr)
    simp only [Sem.run_bind] at h1
    exact ⟨c, by simp only [execOp, hop, Sem.run_bind, h1, Result.andThen_ok, Sem.run_pure], h2⟩
  | unOp op t x =>
    rw [hop] at h
    simp only [evOp] at h
    split at h <;> try (cases h; done)
    · rename_i b hx
      exact ⟨_, s, h, opok_val fun ρ F a w H hr => ⟨.bool (!b), by
        have e : a.eval x = .bool b := by have := opd1 (x := x) ρ F a w (by simp [hop, Op.operands]) hr; rw [hx] at this; exact this
        simp [execOp, hop, e, Op.unary], rfl⟩⟩
    · rename_i k n hx
      exact ⟨_, s, h, opok_val fun ρ F a w H hr => ⟨.int k (k.wrap (0 - n)), by
        have e : a.eval x = .int k n := by have := opd1 (x := x) ρ F a w (by simp [hop, Op.operands]) hr; rw [hx] at this; exact this
        simp [execOp, hop, e, Op.unary, Op.intArith], rfl⟩⟩
  | convert t u x =>
    rw [hop] at h
    simp only [evOp] at h
    obtain ⟨v, hv, hs⟩ := convK_sound (P := P) hT h
    refine ⟨v, s, hv, opok_val fun ρ F a w H hr => ?_⟩
    obtain ⟨c, h1, h2⟩ := hs ρ F w (a.eval x) H (opd1 ρ F a w (by simp [hop, Op.operands]) hr)
    exact ⟨c, by simp [execOp, hop, Sem.run_bind, h1], h2⟩
  | makeFunc fn first cap =>
    rw [hop] at h
    cases fn <;> simp only [evOp] at h <;> try (cases h; done)
    rename_i f
    cases hb : Nat.beq first.size 0 <;> simp only [hb, cond_true, cond_false] at h
    · cases h
    rw [opds_map] at h
    have hf : first = #[] := Array.eq_empty_of_size_eq_zero (Nat.eq_of_beq_eq_true hb)
    subst hf
    cases hbs : allB V.base (cap.toList.map (opd s.fr)) <;> simp only [hbs, cond_true, cond_false] at h
    · cases h
    refine ⟨_, s, h, opok_val fun ρ F a w H hr => ⟨.func (.func f) #[] (cap.map a.eval), by simp [execOp, hop, Instr.makeFunc], cap.map a.eval, rfl, by simp, fun i v hv => ?_⟩⟩
    rw [List.getElem?_map, Array.getElem?_toList] at hv
    cases hc : cap[i]? with
    | none => simp [hc] at hv
    | some x =>
      simp [hc] at hv
      subst hv
      refine ⟨a.eval x, by simp [hc], ?_⟩
      have r := opd1 (x := x) ρ F a w (by simp only [hop, Op.operands, Array.mem_append]; exact .inr (Array.mem_of_getElem? hc)) hr
      have hb := allB_get hbs (opd s.fr x) (List.mem_map.mpr ⟨x, by simpa using Array.mem_of_getElem? hc, rfl⟩)
      generalize opd s.fr x = v at r hb
      cases v <;> first | exact r | cases hb
  | slice t x lo hi mx =>
    rw [hop] at h
    cases mx <;> simp only [evOp] at h <;> try (cases h; done)
    split at h <;> try (cases h; done)
    rename_i ti hti
    exact slice_ok (hT _ _ hti).1 (fun hc => by simp [calm, hop, hd] at hc; exact hc) hop hd h
  | fieldAddr t x i =>
    rw [hop] at h
    simp only [evOp] at h
    split at h <;> try (cases h; done)
    rename_i ti hti
    split at h <;> try (cases h; done)
    rename_i off size ag hf
    cases hb : Nat.beq size 0 <;> simp only [hb, cond_true, cond_false] at h <;> try (cases h; done)
    split at h <;> try (cases h; done)
    rename_i hk
    obtain ⟨v, hv, hs⟩ := fieldP_sound (hT _ _ hti).1 hf (fun e => by rw [e] at hb; cases hb) hk h
    refine ⟨v, s, hv, opok_val fun ρ F a w H hr => ?_⟩
    obtain ⟨c, h1, h2⟩ := hs ρ F w (a.eval x) (opd1 ρ F a w (by simp [hop, Op.operands]) hr)
    exact ⟨c, by simp [execOp, hop, Sem.run_bind, h1], h2⟩
  | field t x i =>
    rw [hop] at h
    simp only [evOp] at h
    split at h <;> try (cases h; done)
    rename_i ti hti
    split at h <;> try (cases h; done)
    rename_i off size ag cs hf hx
    split at h <;> try (cases h; done)
    rename_i hk
    obtain ⟨d, hdd, hkd, hfl⟩ := (hT _ _ hti).1.kind
    rw [hk] at hkd
    obtain ⟨fs, rfl⟩ : ∃ fs, d = .struct fs := by cases d <;> first | exact ⟨_, rfl⟩ | exact hkd.elim
    obtain ⟨f, hfi, ho, hs, ha⟩ := hfl.2 i off size ag hf
    obtain ⟨v, hv, hp⟩ := partK_sound (P := P) (t := f.type) (ti := ⟨size, ag, 0, [], [], .other, false⟩) hs ha h
    refine ⟨v, s, hv, opok_val fun ρ F a w H hr => ?_⟩
    have r := opd1 (x := x) ρ F a w (by simp [hop, Op.operands]) hr
    rw [hx] at r
    obtain ⟨ca, e, h1, h2⟩ := r
    obtain ⟨c, h3, h4⟩ := hp ρ F w ca h1 h2
    exact ⟨c, by simp [execOp, hop, Sem.run_bind, e, Instr.field, run_underlying hdd, hfi, asAgg, ho, h3], h4⟩
  | indexAddr t x i =>
    rw [hop] at h
    simp only [evOp] at h
    split at h <;> try (cases h; done)
    rename_i ti hti
    obtain ⟨v, hv, hs⟩ := idxAddrK_sound (hT _ _ hti).1 h
    refine ⟨v, s, hv, opok_val fun ρ F a w H hr => ?_⟩
    obtain ⟨c, h1, h2⟩ := hs ρ F w (a.eval x) (a.eval i) H (opd1 ρ F a w (by simp [hop, Op.operands]) hr) (opd1 ρ F a w (by simp [hop, Op.operands]) hr)
    exact ⟨c, by simp [execOp, hop, Sem.run_bind, h1], h2⟩
  | index t x i =>
    rw [hop] at h
    simp only [evOp] at h
    split at h <;> try (cases h; done)
    rename_i ti hti
    obtain ⟨v, hv, hs⟩ := idxK_sound (hT _ _ hti).1 h
    refine ⟨v, s, hv, opok_val fun ρ F a w H hr => ?_⟩
    obtain ⟨c, h1, h2⟩ := hs ρ F w (a.eval x) (a.eval i) (opd1 ρ F a w (by simp [hop, Op.operands]) hr) (opd1 ρ F a w (by simp [hop, Op.operands]) hr)
    exact ⟨c, by simp [execOp, hop, Sem.run_bind, h1], h2⟩
  | extract x i =>
    rw [hop] at h
    simp only [evOp] at h
    split at h <;> try (cases h; done)
    rename_i vs hx
    split at h <;> try (cases h; done)
    rename_i v hv
    refine ⟨v, s, h, opok_val fun ρ F a w H hr => ?_⟩
    have r := opd1 (x := x) ρ F a w (by simp [hop, Op.operands]) hr
    rw [hx] at r
    obtain ⟨ca, e, h1, h2⟩ := r
    obtain ⟨c, h3, h4⟩ := h2 i v hv
    exact ⟨c, by simp [execOp, hop, Sem.run_bind, e, Instr.extract, h3], relA_T h4⟩
  | call c =>
    obtain ⟨callee, args, ts⟩ := c
    cases callee with
    | value f => rw [hop] at hn; exact hn.elim
    | invoke _ _ => rw [hop] at h; simp [evOp] at h
    | builtin b =>
      rw [hop] at h
      simp only [evOp, opds_map] at h
      have run : ∀ (a : Act) (w : World), ∃ consts, (execOp a.eval o).run P w = (builtin b ts o.type consts (args.map a.eval)).run P w := fun a w => call_builtin hop a w
      have argr : ∀ ρ F (a : Act) w, (∀ t, Reads o t → RelT ρ F w (get s.fr t) (a.tmps.getD t undef)) → ∀ (i : Nat) v, (args.toList.map (opd s.fr))[i]? = some v → ∃ c, (args.map a.eval)[i]? = some c ∧ RelT ρ F w v c := by
        intro ρ F a w hr i v hv
        rw [List.getElem?_map, Array.getElem?_toList] at hv
        cases hc : args[i]? with
        | none => simp [hc] at hv
        | some x =>
          simp [hc] at hv
          subst hv
          exact ⟨a.eval x, by simp [hc], opd1 ρ F a w (by simp only [hop, Op.operands, Call.operands, Array.mem_append]; exact .inr (Array.mem_of_getElem? hc)) hr⟩
      unfold builtinK at h
      split at h
      · rename_i v t hvs hts
        split at h <;> try (cases h; done)
        rename_i ti hti
        obtain ⟨v', hv, hs⟩ := lenK_sound (hT _ _ hti).1 h
        refine ⟨v', s, hv, opok_val fun ρ F a w H hr => ?_⟩
        obtain ⟨c, hc, r⟩ := argr ρ F a w hr 0 v (by rw [hvs]; rfl)
        have e1 : args.map a.eval = #[c] := by
          have hl : args.size = 1 := by have := congrArg List.length hvs; simpa using this
          apply Array.ext (by simp [hl])
          intro i h1 h2
          have : i = 0 := by simp at h2; omega
          subst this
          have := (Array.getElem?_eq_some_iff.mp hc).2
          simpa using this
        have e2 : ts = #[t] := by rw [← Array.toArray_toList (xs := ts), hts]
        obtain ⟨c', h1, h2⟩ := hs ρ F w c o.type H r
        obtain ⟨consts, hrun⟩ := run a w
        exact ⟨c', by rw [hrun, e1, e2]; simp [builtin, Sem.run_bind, h1], h2⟩
      · rename_i x y t u hvs hts
        split at h <;> try (cases h; done)
        rename_i a1 a2 a3 a4 a5 τ2 a6 hti
        have hne : ∃ a1 a2 a3 a4 a5 τ a6, T.get t = some ⟨a1, a2, a3, a4, a5, .sl τ, a6⟩ := by
          unfold appendK at h
          split at h
          · exact ⟨_, _, _, _, _, _, _, by assumption⟩
          · cases h
        obtain ⟨b1, b2, b3, b4, b5, τ, b6, htt⟩ := hne
        obtain ⟨e, hde, hE⟩ := kind_sl (hT _ _ htt).1 (τ := τ) rfl
        obtain ⟨e2, hde2, _⟩ := kind_sl (hT _ _ hti).1 (τ := τ2) rfl
        have hal : args.size = 2 := by have := congrArg List.length hvs; simpa using this
        obtain ⟨x0, y0, hxy⟩ : ∃ x0 y0, args = #[x0, y0] := by
          refine ⟨args[0], args[1], ?_⟩
          apply Array.ext (by simp [hal])
          intro i h1 h2
          have : i = 0 ∨ i = 1 := by simp at h2; omega
          rcases this with rfl | rfl <;> rfl
        have e2' : ts = #[t, u] := by rw [← Array.toArray_toList (xs := ts), hts]
        subst hxy
        simp at hvs
        obtain ⟨rfl, rfl⟩ := hvs
        rw [e2'] at hop
        exact append_ok (calm := calm E ann o = true) (by simp [calm, hop]) ⟨hde, ⟨e2, hde2⟩, hE⟩ hop hd ⟨_, _, _, _, _, _, htt⟩ h
      · rename_i ts' n vs hvs
        obtain ⟨v', hv, hs⟩ := foldK_min (P := P) h
        obtain ⟨x0, xs, hargs, he0, he1⟩ := List.map_eq_cons_iff.mp hvs
        refine ⟨v', s, hv, opok_val fun ρ F a w H hr => ?_⟩
        have r0 := opd1 (x := x0) ρ F a w (by simp only [hop, Op.operands, Call.operands, Array.mem_append]; right; rw [← Array.mem_toList_iff, hargs]; simp) hr
        rw [he0] at r0
        have e0 : a.eval x0 = .int .i64 n := r0
        have e1 : (args.map a.eval).toList = .int .i64 n :: xs.map a.eval := by rw [Array.toList_map, hargs, List.map_cons, e0]
        obtain ⟨c', h1, h2⟩ := hs ρ F w (xs.map a.eval) (by rw [← he1]; simp) (fun i v hv => by
          rw [← he1, List.getElem?_map] at hv
          cases hx : xs[i]? with
          | none => simp [hx] at hv
          | some x =>
            simp [hx] at hv
            subst hv
            exact ⟨a.eval x, by simp [hx], opd1 ρ F a w (by simp only [hop, Op.operands, Call.operands, Array.mem_append]; right; rw [← Array.mem_toList_iff, hargs]; exact List.mem_cons_of_mem _ (List.mem_of_getElem? hx)) hr⟩)
        obtain ⟨consts, hrun⟩ := run a w
        exact ⟨c', by rw [hrun]; simp only [builtin, Sem.run_bind, Builtin.min_, e1, h1, Result.andThen_ok, Sem.run_pure], h2⟩
      · rename_i ts' n vs hvs
        obtain ⟨v', hv, hs⟩ := foldK_max (P := P) h
        obtain ⟨x0, xs, hargs, he0, he1⟩ := List.map_eq_cons_iff.mp hvs
        refine ⟨v', s, hv, opok_val fun ρ F a w H hr => ?_⟩
        have r0 := opd1 (x := x0) ρ F a w (by simp only [hop, Op.operands, Call.operands, Array.mem_append]; right; rw [← Array.mem_toList_iff, hargs]; simp) hr
        rw [he0] at r0
        have e0 : a.eval x0 = .int .i64 n := r0
        have e1 : (args.map a.eval).toList = .int .i64 n :: xs.map a.eval := by rw [Array.toList_map, hargs, List.map_cons, e0]
        obtain ⟨c', h1, h2⟩ := hs ρ F w (xs.map a.eval) (by rw [← he1]; simp) (fun i v hv => by
          rw [← he1, List.getElem?_map] at hv
          cases hx : xs[i]? with
          | none => simp [hx] at hv
          | some x =>
            simp [hx] at hv
            subst hv
            exact ⟨a.eval x, by simp [hx], opd1 ρ F a w (by simp only [hop, Op.operands, Call.operands, Array.mem_append]; right; rw [← Array.mem_toList_iff, hargs]; exact List.mem_cons_of_mem _ (List.mem_of_getElem? hx)) hr⟩)
        obtain ⟨consts, hrun⟩ := run a w
        exact ⟨c', by rw [hrun]; simp only [builtin, Sem.run_bind, Builtin.max_, e1, h1, Result.andThen_ok, Sem.run_pure], h2⟩
      · cases h
  | _ => rw [hop] at h; simp [evOp] at h
end Ev
