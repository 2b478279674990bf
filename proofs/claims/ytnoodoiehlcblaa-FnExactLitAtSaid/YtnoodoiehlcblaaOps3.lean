/- Operations that read, further: fields, elements, lengths, parts of texts and slices, conversions. -/
import Derived.Test.YtnoodoiehlcblaaOps2
set_option linter.unusedVariables false
set_option linter.unusedSimpArgs false
namespace Ev
open Go

theorem agg_at {P : Program} {t : Nat} {d : TypeDesc} (hd : P.underlying t = some d) {b : Bool} (h : IsAgg P t b) : aggD d = b := by
  obtain ⟨d', hd', e⟩ := h
  rw [hd] at hd'; cases hd'; exact e
/-- The part of an aggregate. -/
theorem partK_sound {R : Type} {P : Program} {t : Nat} {ti : TI} (hs : SizeOf P t ti.size) (ha : IsAgg P t ti.agg) {off : Nat} {cs : List V} {K : V → Option R} {r : R}
    (h : dropK off cs (fun cs => loadK ti cs K) = some r) :
    ∃ v, K v = some r ∧ ∀ ρ F w (ca : Array Value), ca.size = cs.length → (∀ (i : Nat) (v : V), cs[i]? = some v → ∃ c, ca[i]? = some c ∧ RelC ρ F w v c) →
      ∃ c, (part t ca off).run P w = .ok c w ∧ RelT ρ F w v c := by
  obtain ⟨hle, h⟩ := dropK_some h
  unfold loadK at h
  cases hg : ti.agg with
  | true =>
    simp only [hg] at h ha
    obtain ⟨hl, h⟩ := takeK_some h
    refine ⟨_, h, fun ρ F w ca hsz hc => ?_⟩
    refine ⟨.agg (ca.extract off (off + ti.size)), ?_, _, rfl, ?_, fun i v hv => ?_⟩
    · simp only [part, Sem.run_bind, run_isAgg ha, Result.andThen_ok, if_true, run_sizeOf hs, Sem.run_pure]
    · simp at hl ⊢; omega
    · rw [List.getElem?_take] at hv; split at hv
      · rename_i hi
        rw [List.getElem?_drop] at hv
        obtain ⟨c, hc, r⟩ := hc _ v hv
        refine ⟨c, ?_, r⟩
        rw [Array.getElem?_extract]
        simp at hl
        rw [if_pos (by omega)]; exact hc
      · cases hv
  | false =>
    simp only [hg] at h ha
    split at h
    · rename_i v cs' hd
      refine ⟨v, h, fun ρ F w ca hsz hc => ?_⟩
      have : cs[off]? = some v := by
        have := congrArg (fun l => l[0]?) hd
        simpa using this
      obtain ⟨c, hc, r⟩ := hc off v this
      exact ⟨c, by simp [part, Sem.run_bind, run_isAgg ha, hc], relC_T r⟩
    · cases h
theorem castL_eq {a b : Ty} {l : List a.den} {l' : List b.den} (h : castL a b l = some l') : ∃ e : a = b, e ▸ l = l' := by
  cases a <;> cases b <;> simp only [castL] at h <;> first | (cases h; exact ⟨rfl, rfl⟩) | cases h
theorem fieldP_sound {R : Type} {P : Program} {t i off size : Nat} {ag : Bool} {ti : TI} (hT : TIok P t ti) (hf : ti.flds[i]? = some (off, size, ag)) (hsz : size ≠ 0) (hk : ti.kind = .struct)
    {x : V} {K : V → Option R} {r : R} (h : fieldP off x K = some r) :
    ∃ v, K v = some r ∧ ∀ ρ F w cx, RelT ρ F w x cx → ∃ c, (Instr.fieldAt t cx i).run P w = .ok c w ∧ RelT ρ F w v c := by
  obtain ⟨d, hd, hkd, hfl⟩ := hT.kind
  rw [hk] at hkd
  obtain ⟨fs, rfl⟩ : ∃ fs, d = .struct fs := by cases d <;> first | exact ⟨_, rfl⟩ | exact hkd.elim
  obtain ⟨f, hfi, ho, hs, _⟩ := hfl.2 i off size ag hf
  have run : ∀ (w : World) (b s : Nat), (Instr.fieldAt t (.pointer (some ⟨b, s, none⟩)) i).run P w = .ok (.pointer (some ⟨b, s + off, none⟩)) w := by
    intro w b s
    simp [Instr.fieldAt, Sem.run_bind, run_underlying hd, hfi, Instr.sureAddr, fieldPlace, run_sizeOf hs, hsz, ho, addr_add]
  unfold fieldP at h
  split at h
  · rename_i cs
    obtain ⟨hle, h⟩ := dropK_some h
    refine ⟨_, h, fun ρ F w cx ⟨b, s, e, hF, hp, hat⟩ => ⟨_, by rw [e]; exact run w b s, b, s + off, rfl, hF, ?_, ?_⟩⟩
    · exact allB_of fun v hv => allB_get hp v (List.mem_of_mem_drop hv)
    · intro j v hv
      have := hat (off + j) v (by simpa using hv)
      rw [← this, Nat.add_assoc]
  · rename_i id o
    refine ⟨_, h, fun ρ F w cx ⟨b, n, hρ, e⟩ => ⟨_, by rw [e]; exact run w b o, b, n, hρ, rfl⟩⟩
  · rename_i id ro c
    refine ⟨_, h, fun ρ F w cx ⟨t', b, s, len, cap, hρ, hr, e⟩ => ⟨.pointer (some ⟨b, s + (ro * t'.width + c) + off, none⟩), by subst e; exact run w b _, t', b, s, len, cap, hρ, hr, by simp [Nat.add_assoc]⟩⟩
  · cases h
theorem rdL_some {R α : Type} {l : List α} {i : Int} {K : α → Option R} {r : R} (h : rdL l i K = some r) : ∃ n : Nat, i = n ∧ n < l.length ∧ ∃ d, l[n]? = some d ∧ K d = some r := by
  unfold rdL at h
  split at h
  · rename_i h0
    rw [Option.bind_eq_some_iff] at h
    obtain ⟨d, hd, h⟩ := h
    exact ⟨i.toNat, by omega, (List.getElem?_eq_some_iff.mp hd).1, d, hd, h⟩
  · cases h
theorem okIf_some {R : Type} {c : Prop} [Decidable c] {K : Option R} {r : R} (h : okIf c K = some r) : c ∧ K = some r := by
  unfold okIf at h; split at h
  · exact ⟨by assumption, h⟩
  · cases h
theorem run_indexAt_slice {P : Program} {t e n : Nat} (hd : P.underlying t = some (.slice e)) (hs : SizeOf P e n) (w : World) (b s len cap i : Nat) (hi : i < len) :
    (Instr.indexAt t (.slice (some ⟨b, s, none⟩) len cap) (.int .i64 (i : Int))).run P w = .ok (.pointer (some ⟨b, s + i * n, none⟩)) w := by
  have h1 : (0 ≤ (i : Int) ∧ (i : Int) < (len : Int)) := by omega
  simp [Instr.indexAt, asIntOf, Sem.run_bind, run_underlying hd, run_sizeOf hs, hi, addr_add]
theorem run_indexAt_array {P : Program} {t e n m : Nat} (hd : P.underlying t = some (.array m e)) (hs : SizeOf P e n) (w : World) (b s i : Nat) (hi : i < m) :
    (Instr.indexAt t (.pointer (some ⟨b, s, none⟩)) (.int .i64 (i : Int))).run P w = .ok (.pointer (some ⟨b, s + i * n, none⟩)) w := by
  simp [Instr.indexAt, asIntOf, Sem.run_bind, run_underlying hd, run_sizeOf hs, hi, addr_add, Instr.sureAddr]
theorem kind_sl {P : Program} {t : Nat} {ti : TI} (hT : TIok P t ti) {τ : Ty} (hk : ti.kind = .sl τ) : ∃ e, P.underlying t = some (.slice e) ∧ ElemOK P e τ := by
  obtain ⟨d, hd, hkd, _⟩ := hT.kind
  rw [hk] at hkd
  cases d <;> first | exact ⟨_, hd, hkd⟩ | exact hkd.elim
theorem kind_arr {P : Program} {t n w : Nat} {a : Bool} {ti : TI} (hT : TIok P t ti) (hk : ti.kind = .arr n w a) : ∃ e, P.underlying t = some (.array n e) ∧ SizeOf P e w ∧ IsAgg P e a := by
  obtain ⟨d, hd, hkd, _⟩ := hT.kind
  rw [hk] at hkd
  cases d <;> try exact hkd.elim
  obtain ⟨rfl, h1, h2⟩ := hkd
  exact ⟨_, hd, h1, h2⟩
theorem kind_str {P : Program} {t : Nat} {ti : TI} (hT : TIok P t ti) (hk : ti.kind = .str) : P.underlying t = some .string := by
  obtain ⟨d, hd, hkd, _⟩ := hT.kind
  rw [hk] at hkd
  cases d <;> first | exact hd | exact hkd.elim
theorem intsK_some {R : Type} {cs : List V} {K : List Int → Option R} {r : R} (h : intsK cs K = some r) : ∃ ns : List Int, cs = ns.map i64 ∧ K ns = some r := by
  fun_induction intsK cs K with
  | case1 K => exact ⟨[], rfl, h⟩
  | case2 n vs K ih =>
    obtain ⟨ns, e, h⟩ := ih h
    exact ⟨n :: ns, by rw [e]; rfl, h⟩
  | case3 => cases h
theorem brK_some {R : Type} {i : Int} {r : R} : ∀ {n : Nat} {K : Nat → Option R}, brK i n K = some r → ∃ j, j < n ∧ i = (j : Int) ∧ K j = some r
  | 0, K, h => by simp [brK] at h
  | n + 1, K, h => by
    simp only [brK] at h
    cases hb : decide (i = (n : Int)) <;> simp only [hb, cond_true, cond_false] at h
    · obtain ⟨j, h1, h2, h3⟩ := brK_some h
      exact ⟨j, by omega, h2, h3⟩
    · exact ⟨n, by omega, of_decide_eq_true hb, h⟩
theorem idxAddrK_sound {R : Type} {P : Program} {t : Nat} {ti : TI} (hT : TIok P t ti) {st : Store} {x i : V} {K : V → Option R} {r : R} (h : idxAddrK ti st x i K = some r) :
    ∃ v, K v = some r ∧ ∀ ρ F w cx ci, Core ρ F st w → RelT ρ F w x cx → RelT ρ F w i ci → ∃ c, (Instr.indexAt t cx ci).run P w = .ok c w ∧ RelT ρ F w v c := by
  unfold idxAddrK at h
  split at h
  · rename_i τ t' l i hk
    obtain ⟨e, hd, hs, _⟩ := kind_sl hT hk
    split at h <;> try (cases h; done)
    rename_i l' hc
    obtain ⟨rfl, rfl⟩ := castL_eq hc
    obtain ⟨n, rfl, hn, d, hld, h⟩ := rdL_some h
    refine ⟨_, h, fun ρ F w cx ci H ⟨a, cap, e1, _, hh⟩ (e2 : ci = _) => ?_⟩
    subst e1; subst e2
    rcases hh with rfl | ⟨b, s, rfl, hF, hat⟩
    · simp at hn
    · exact ⟨_, run_indexAt_slice hd hs w b s _ cap n hn, b, s + n * t'.width, rfl, hF, allB_of (cells_plain t' d), hat.row hld⟩
  · rename_i τ id i hk
    obtain ⟨e, hd, hs, _⟩ := kind_sl hT hk
    split at h <;> try (cases h; done)
    rename_i t' l hl
    split at h <;> try (cases h; done)
    rename_i l' hc
    obtain ⟨rfl, rfl⟩ := castL_eq hc
    obtain ⟨n, rfl, hn, d, hld, h⟩ := rdL_some h
    refine ⟨_, h, fun ρ F w cx ci H ⟨t0, a, len, cap, hρ, e1⟩ (e2 : ci = _) => ?_⟩
    subst e1; subst e2
    obtain ⟨rfl, hlen, hcap, hat⟩ := row_at H hρ hl
    simp only at hn
    rcases hat with rfl | ⟨b, s, rfl, hat⟩
    · simp at hn
    · exact ⟨_, run_indexAt_slice hd hs w b s len cap n (by omega), t', b, s, len, cap, hρ, by simp; omega, by simp⟩
  · rename_i τ id lo hi i hk
    obtain ⟨e, hd, hs, _⟩ := kind_sl hT hk
    split at h <;> try (cases h; done)
    rename_i t' l hl
    split at h <;> try (cases h; done)
    rename_i l' hc
    obtain ⟨rfl, rfl⟩ := castL_eq hc
    obtain ⟨n, rfl, hn, d, hld, h⟩ := rdL_some h
    refine ⟨_, h, fun ρ F w cx ci H ⟨t0, a, len, cap, hρ, h1, h2, h3, e1⟩ (e2 : ci = _) => ?_⟩
    subst e1; subst e2
    obtain ⟨rfl, hlen, hcap, hat⟩ := row_at H hρ hl
    simp at hn
    rcases hat with rfl | ⟨b, s, rfl, hat⟩
    · simp at hn
    · rw [if_neg (by omega)]
      refine ⟨_, ?_, t', b, s, len, cap, hρ, by simp; omega, rfl⟩
      have := run_indexAt_slice hd hs w b (s + lo * t'.width) (hi - lo) (cap - lo) n (by omega)
      simp only [Option.map_some, addr_add, this, Int.toNat_natCast, Nat.add_mul, Nat.add_zero, Nat.add_assoc]
  · rename_i n cs i hk
    obtain ⟨e, hd, hs, ha⟩ := kind_arr hT hk
    obtain ⟨hle, h⟩ := takeK_some h
    obtain ⟨ns, hns, h⟩ := intsK_some h
    obtain ⟨m, rfl, hm, d, hld, h⟩ := rdL_some h
    refine ⟨_, h, fun ρ F w cx ci H ⟨b, s, e1, hF, hp, hat⟩ (e2 : ci = _) => ?_⟩
    subst e1; subst e2
    have hnl : ns.length = n := by have := congrArg List.length hns; simp at this; omega
    refine ⟨_, run_indexAt_array hd hs w b s m (by omega), b, s + m * 1, rfl, hF, rfl, fun j v hv => ?_⟩
    have : j = 0 := by have := (List.getElem?_eq_some_iff.mp hv).1; simp at this; omega
    subst this
    simp at hv; subst hv
    have := hat m (sv (i64 d)) (by
      rw [List.getElem?_map]
      have : cs[m]? = some (i64 d) := by
        have h1 : (cs.take n)[m]? = some (i64 d) := by rw [hns, List.getElem?_map, hld]; rfl
        rw [List.getElem?_take] at h1; split at h1
        · exact h1
        · cases h1
      rw [this]; rfl)
    simpa using this
  · rename_i n wd a id off i hk
    obtain ⟨e, hd, hs, ha⟩ := kind_arr hT hk
    obtain ⟨m, hm, e, h'⟩ := brK_some h
    subst e
    refine ⟨_, h', fun ρ F w cx ci H ⟨b, k, hρ, e1⟩ (e2 : ci = _) => ?_⟩
    subst e1; subst e2
    exact ⟨_, run_indexAt_array hd hs w b off m hm, b, k, hρ, by simp⟩
  · rename_i n wd a id row col i hk
    obtain ⟨e, hd, hs, ha⟩ := kind_arr hT hk
    obtain ⟨m, hm, e, h'⟩ := brK_some h
    subst e
    refine ⟨_, h', fun ρ F w cx ci H ⟨t', b, s, len, cap, hρ, hr, e1⟩ (e2 : ci = _) => ?_⟩
    subst e1; subst e2
    exact ⟨_, run_indexAt_array hd hs w b _ m hm, t', b, s, len, cap, hρ, hr, by simp [Nat.add_assoc]⟩
  · cases h
theorem idxK_sound {R : Type} {P : Program} {t : Nat} {ti : TI} (hT : TIok P t ti) {x i : V} {K : V → Option R} {r : R} (h : idxK ti x i K = some r) :
    ∃ v, K v = some r ∧ ∀ ρ F w cx ci, RelT ρ F w x cx → RelT ρ F w i ci → ∃ c, (Instr.index t cx ci).run P w = .ok c w ∧ RelT ρ F w v c := by
  unfold idxK at h
  split at h
  · rename_i s i hk
    have hd := kind_str hT hk
    obtain ⟨n, rfl, hn, d, hld, h⟩ := rdL_some h
    refine ⟨_, h, fun ρ F w cx ci (e1 : cx = _) (e2 : ci = _) => ⟨_, ?_, rfl⟩⟩
    subst e1; subst e2
    have : (⟨⟨s⟩⟩ : ByteArray)[n]? = some d := by
      have hs : n < (⟨⟨s⟩⟩ : ByteArray).size := hn
      have := (List.getElem?_eq_some_iff.mp hld).2
      rw [getElem?_pos (⟨⟨s⟩⟩ : ByteArray) n hs, ← this]; rfl
    simp [Instr.index, asIntOf, Sem.run_bind, run_underlying hd, this]
  · rename_i n cs i hk
    obtain ⟨e, hd, hs, ha⟩ := kind_arr hT hk
    obtain ⟨hle, h⟩ := takeK_some h
    obtain ⟨ns, hns, h⟩ := intsK_some h
    obtain ⟨m, rfl, hm, d, hld, h⟩ := rdL_some h
    refine ⟨_, h, fun ρ F w cx ci ⟨ca, e1, hsz, hca⟩ (e2 : ci = _) => ?_⟩
    subst e1; subst e2
    have hnl : ns.length = n := by have := congrArg List.length hns; simp at this; omega
    have hcs : cs[m]? = some (i64 d) := by
      have h1 : (cs.take n)[m]? = some (i64 d) := by rw [hns, List.getElem?_map, hld]; rfl
      rw [List.getElem?_take] at h1; split at h1
      · exact h1
      · cases h1
    obtain ⟨c, hc, r⟩ := hca m _ hcs
    refine ⟨c, ?_, r⟩
    have hi2 : ¬ (n ≤ m) := by omega
    simp [Instr.index, asIntOf, Sem.run_bind, run_underlying hd, run_sizeOf hs, hi2, part, run_isAgg ha, hc]
  · cases h
theorem lenK_sound {R : Type} {P : Program} {t : Nat} {ti : TI} (hT : TIok P t ti) {st : Store} {x : V} {K : V → Option R} {r : R} (h : lenK ti st x K = some r) :
    ∃ v, K v = some r ∧ ∀ ρ F w cx ty, Core ρ F st w → RelT ρ F w x cx → ∃ c, (Builtin.len_ #[t] ty #[cx]).run P w = .ok c w ∧ RelT ρ F w v c := by
  unfold lenK at h
  split at h
  · rename_i n wd a hk
    obtain ⟨e, hd, hs, ha⟩ := kind_arr hT hk
    exact ⟨_, h, fun ρ F w cx ty H r => ⟨goInt n, by simp [Builtin.len_, run_underlying hd], rfl⟩⟩
  · rename_i s hk
    have hd := kind_str hT hk
    exact ⟨_, h, fun ρ F w cx ty H (e : cx = _) => ⟨goInt s.length, by subst e; simp [Builtin.len_, run_underlying hd]; rfl, rfl⟩⟩
  · rename_i τ hk
    obtain ⟨e, hd, _⟩ := kind_sl hT hk
    exact ⟨_, h, fun ρ F w cx ty H (e : cx = _) => ⟨goInt 0, by subst e; simp [Builtin.len_, run_underlying hd], rfl⟩⟩
  · rename_i τ t' l hk
    obtain ⟨e, hd, _⟩ := kind_sl hT hk
    exact ⟨_, h, fun ρ F w cx ty H ⟨a, cap, e, _⟩ => ⟨goInt l.length, by subst e; simp [Builtin.len_, run_underlying hd], rfl⟩⟩
  · rename_i τ id hk
    obtain ⟨e, hd, _⟩ := kind_sl hT hk
    split at h <;> try (cases h; done)
    rename_i t' l hl
    refine ⟨_, h, fun ρ F w cx ty H ⟨t0, a, len, cap, hρ, e⟩ => ?_⟩
    obtain ⟨rfl, hlen, _⟩ := row_at H hρ hl
    exact ⟨goInt l.length, by subst e; simp [Builtin.len_, run_underlying hd, hlen], rfl⟩
  · rename_i τ id lo hi hk
    obtain ⟨e, hd, _⟩ := kind_sl hT hk
    exact ⟨_, h, fun ρ F w cx ty H ⟨t0, a, len, cap, hρ, h1, h2, h3, e⟩ => ⟨goInt ((hi - lo : Nat) : Int), by subst e; simp [Builtin.len_, run_underlying hd], rfl⟩⟩
  · cases h
theorem foldK_min {R : Type} {P : Program} {vs : List V} {a : Int} {K : V → Option R} {r : R} (h : foldK mn a vs K = some r) :
    ∃ v, K v = some r ∧ ∀ ρ F w (cs : List Value), cs.length = vs.length → (∀ (i : Nat) (v : V), vs[i]? = some v → ∃ c, cs[i]? = some c ∧ RelT ρ F w v c) →
      ∃ c, (cs.foldlM Builtin.min2 (.int .i64 a)).run P w = .ok c w ∧ RelT ρ F w v c := by
  fun_induction foldK mn a vs K with
  | case1 a K => exact ⟨_, h, fun ρ F w cs hl _ => ⟨.int .i64 a, by cases cs <;> simp at hl ⊢, rfl⟩⟩
  | case2 a b vs K ih =>
    obtain ⟨v', hv, ih⟩ := ih h
    refine ⟨v', hv, fun ρ F w cs hl hc => ?_⟩
    cases cs with
    | nil => simp at hl
    | cons c cs =>
      obtain ⟨c0, e0, r0⟩ := hc 0 _ rfl
      simp at e0; subst e0
      cases (r0 : c = _)
      obtain ⟨c', h1, h2⟩ := ih ρ F w cs (by simpa using hl) (fun i v hv => by simpa using hc (i + 1) v (by simpa using hv))
      refine ⟨c', ?_, h2⟩
      simp only [List.foldlM_cons, Sem.run_bind, Builtin.min2, Sem.run_pure, Result.andThen_ok]
      exact h1
  | case3 => cases h
theorem foldK_max {R : Type} {P : Program} {vs : List V} {a : Int} {K : V → Option R} {r : R} (h : foldK mx a vs K = some r) :
    ∃ v, K v = some r ∧ ∀ ρ F w (cs : List Value), cs.length = vs.length → (∀ (i : Nat) (v : V), vs[i]? = some v → ∃ c, cs[i]? = some c ∧ RelT ρ F w v c) →
      ∃ c, (cs.foldlM Builtin.max2 (.int .i64 a)).run P w = .ok c w ∧ RelT ρ F w v c := by
  fun_induction foldK mx a vs K with
  | case1 a K => exact ⟨_, h, fun ρ F w cs hl _ => ⟨.int .i64 a, by cases cs <;> simp at hl ⊢, rfl⟩⟩
  | case2 a b vs K ih =>
    obtain ⟨v', hv, ih⟩ := ih h
    refine ⟨v', hv, fun ρ F w cs hl hc => ?_⟩
    cases cs with
    | nil => simp at hl
    | cons c cs =>
      obtain ⟨c0, e0, r0⟩ := hc 0 _ rfl
      simp at e0; subst e0
      cases (r0 : c = _)
      obtain ⟨c', h1, h2⟩ := ih ρ F w cs (by simpa using hl) (fun i v hv => by simpa using hc (i + 1) v (by simpa using hv))
      refine ⟨c', ?_, h2⟩
      simp only [List.foldlM_cons, Sem.run_bind, Builtin.max2, Sem.run_pure, Result.andThen_ok]
      exact h1
  | case3 => cases h
end Ev
