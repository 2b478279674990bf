/- What is read by a pattern and written back stands for the same. -/
import Derived.Test.YtnoodoiehlcblaaPat
import Derived.Test.YtnoodoiehlcblaaReg3
set_option linter.unusedVariables false
set_option linter.unusedSimpArgs false
set_option linter.unnecessarySimpa false
namespace Ev
open Go

def Orig.loc (ρ : Rho) : Orig → Option Loc
  | .id n => ρ n
  | .nil t => some (.row t none 0 0)
def Fit (ρ ρ' : Rho) (x : Mp) : Prop := ∀ c s, (c, s) ∈ x → ρ' c = s.loc ρ
theorem Fit.mono {ρ ρ' : Rho} {x y : Mp} (h : Fit ρ ρ' y) (k : ∀ p ∈ x, p ∈ y) : Fit ρ ρ' x := fun c s hs => h c s (k _ hs)
def JB (st : Store) (x : Mp) (src : Orig) (blk : Blk) : Prop :=
  ∀ ρ ρ' F w, Fit ρ ρ' x → (∀ id loc b, ρ id = some loc → look st id = some b → HeapAt ρ F w loc b) → ∀ loc, src.loc ρ = some loc → HeapAt ρ' F w loc blk
structure Got (st : Store) (M x : Mp) (bs : Store) : Prop where
  keys : x.map Prod.fst = bs.map Prod.fst
  blk : ∀ c b, (c, b) ∈ bs → ∃ s, (c, s) ∈ x ∧ JB st M s b
  src : ∀ c n, (c, Orig.id n) ∈ x → look st n ≠ none
theorem Got.nil {st : Store} {M : Mp} : Got st M [] [] := ⟨rfl, fun c b h => by simp at h, fun c n h => by simp at h⟩
theorem JB.mono {st : Store} {x y : Mp} {s : Orig} {b : Blk} (h : JB st x s b) (k : ∀ p ∈ x, p ∈ y) : JB st y s b := fun ρ ρ' F w hf => h ρ ρ' F w (hf.mono k)
theorem Got.append {st : Store} {M N x y : Mp} {a b : Store} (h : Got st M x a) (k : Got st N y b) (hM : ∀ p ∈ M, p ∈ N) : Got st N (x ++ y) (a ++ b) := by
  refine ⟨by simp [h.keys, k.keys], fun c blk hc => ?_, fun c n hc => ?_⟩
  · rcases List.mem_append.mp hc with hc | hc
    · obtain ⟨s, hs, j⟩ := h.blk c blk hc
      exact ⟨s, by simp [hs], j.mono hM⟩
    · obtain ⟨s, hs, j⟩ := k.blk c blk hc
      exact ⟨s, by simp [hs], j⟩
  · rcases List.mem_append.mp hc with hc | hc
    · exact h.src c n hc
    · exact k.src c n hc
theorem Got.one {st : Store} {M : Mp} {c : Nat} {s : Orig} {b : Blk} (h : JB st M s b) (hs : ∀ n, s = .id n → look st n ≠ none) : Got st M [(c, s)] [(c, b)] :=
  ⟨rfl, fun c' b' hc => by simp at hc; obtain ⟨rfl, rfl⟩ := hc; exact ⟨s, by simp, h⟩, fun c' n hc => by simp at hc; exact hs n hc.2.symm⟩
theorem isSrc_mem {c n : Nat} : ∀ {m : Mp}, isSrc c n m = true → (c, Orig.id n) ∈ m
  | [], h => by simp [isSrc] at h
  | (k, s) :: r, h => by
    simp only [isSrc] at h
    cases hk : Nat.beq k c <;> simp only [hk, cond_true, cond_false] at h
    · exact List.mem_cons_of_mem _ (isSrc_mem h)
    · have := Nat.eq_of_beq_eq_true hk
      subst this
      cases hs : s.is n <;> simp only [hs, cond_true, cond_false] at h
      · exact List.mem_cons_of_mem _ (isSrc_mem h)
      · cases s with
        | nil t => simp [Orig.is] at hs
        | id j =>
          have := Nat.eq_of_beq_eq_true hs
          subst this; simp
theorem relT_encC {l : LP} {d : l.den} {ρ : Rho} {F : Nat → Prop} {w : World} {c : Value} (h : RelC ρ F w (encC l d) c) : RelT ρ F w (encC l d) c := by
  cases l <;> exact h
theorem decC_sound {R : Type} {st : Store} {l : LP} {v : V} {m : Mp} {K : l.den → Mp → Option R} {r : R} (h : decC st l v m K = some r) :
    ∃ d x, K d (m ++ x) = some r ∧ Got st (m ++ x) x (blkC l d) ∧ (∀ ρ F w c, RelT ρ F w v c → RelC ρ F w v c) ∧ ∀ ρ ρ' F w c, Fit ρ ρ' (m ++ x) → RelC ρ F w v c → RelC ρ' F w (encC l d) c := by
  cases l with
  | int k =>
    cases v <;> simp only [decC] at h <;> try (cases h; done)
    rename_i k' n
    by_cases e : k = k'
    · subst e
      simp only [decide_true, cond_true] at h
      exact ⟨n, [], by simpa using h, Got.nil, fun _ _ _ _ r => r, fun ρ ρ' F w c _ r => r⟩
    · simp [e] at h
  | bool =>
    cases v <;> simp only [decC] at h <;> try (cases h; done)
    rename_i b
    exact ⟨b, [], by simpa using h, Got.nil, fun _ _ _ _ r => r, fun ρ ρ' F w c _ r => r⟩
  | str =>
    cases v <;> simp only [decC] at h <;> try (cases h; done)
    rename_i b
    exact ⟨b, [], by simpa using h, Got.nil, fun _ _ _ _ r => r, fun ρ ρ' F w c _ r => r⟩
  | r t =>
    cases v <;> simp only [decC] at h <;> try (cases h; done)
    · exact ⟨[], [], by simpa using h, Got.nil, fun _ _ _ _ r => r, fun ρ ρ' F w c _ r => by
        have e : c = .slice none 0 0 := r
        exact ⟨none, 0, e, by simp, .inl rfl⟩⟩
    · rename_i t' l
      split at h <;> try (cases h; done)
      rename_i l' hl
      obtain ⟨e, hl⟩ := castL_eq hl
      subst e; subst hl
      exact ⟨_, [], by simpa using h, Got.nil, fun _ _ _ _ r => r, fun ρ ρ' F w c _ r => r⟩
  | o cid t =>
    cases v <;> simp only [decC] at h <;> try (cases h; done)
    · refine ⟨[], [(cid, .nil t)], h, Got.one (fun ρ ρ' F w hf _ loc hl => ?_) (fun n hn => by cases hn), fun _ _ _ _ r => r, fun ρ ρ' F w c hf r => ?_⟩
      · cases hl
        exact ⟨rfl, rfl, Nat.le_refl _, .inl rfl⟩
      · have e : c = .slice none 0 0 := r
        exact ⟨t, none, 0, 0, hf cid (.nil t) (by simp), e⟩
    · rename_i id
      split at h <;> try (cases h; done)
      rename_i t' l hlk
      split at h <;> try (cases h; done)
      rename_i l' hl
      obtain ⟨e, hl⟩ := castL_eq hl
      subst e; subst hl
      refine ⟨_, [(cid, .id id)], h, Got.one (fun ρ ρ' F w hf hh loc hl => ?_) (fun n hn => by cases hn; rw [hlk]; simp), fun _ _ _ _ r => r, fun ρ ρ' F w c hf r => ?_⟩
      · have := hh id loc _ hl hlk
        cases loc with
        | box b n => exact this.elim
        | row t a len cap => exact this
      · obtain ⟨t1, a, len, cap, hρ, e⟩ := r
        exact ⟨t1, a, len, cap, (hf cid (.id id) (by simp)).trans hρ, e⟩
  | al cid t =>
    cases v <;> simp only [decC] at h <;> try (cases h; done)
    rename_i id
    cases hb : isSrc cid id m <;> simp only [hb, cond_true, cond_false] at h
    · cases h
    refine ⟨(), [], by simpa using h, Got.nil, fun _ _ _ _ r => r, fun ρ ρ' F w c hf r => ?_⟩
    obtain ⟨t1, a, len, cap, hρ, e⟩ := r
    exact ⟨t1, a, len, cap, (hf cid (.id id) (by simp [isSrc_mem hb])).trans hρ, e⟩
theorem decCs_sound {R : Type} {st : Store} : ∀ {ls : List LP} {vs : List V} {m : Mp} {K : dens ls → Mp → Option R} {r : R}, decCs st ls vs m K = some r →
    ∃ d x, K d (m ++ x) = some r ∧ Got st (m ++ x) x (blkCs ls d) ∧ (encCs ls d).length = vs.length ∧ ∀ ρ ρ' F w, Fit ρ ρ' (m ++ x) → ∀ (i : Nat) v', (encCs ls d)[i]? = some v' → ∃ v, vs[i]? = some v ∧ ∀ c, RelC ρ F w v c → RelC ρ' F w v' c
  | [], [], m, K, r, h => ⟨(), [], by simpa [decCs] using h, Got.nil, rfl, fun ρ ρ' F w _ i v' hv => by simp [encCs] at hv⟩
  | l :: ls, v :: vs, m, K, r, h => by
    simp only [decCs] at h
    obtain ⟨d, x, h, g, _, hr⟩ := decC_sound h
    obtain ⟨t, y, h, g', hl, hr'⟩ := decCs_sound h
    have aso : m ++ (x ++ y) = m ++ x ++ y := (List.append_assoc _ _ _).symm
    refine ⟨(d, t), x ++ y, by rw [aso]; exact h, by rw [aso]; exact g.append g' fun p hp => List.mem_append_left _ hp, by simp [encCs, hl], fun ρ ρ' F w hf i v' hv => ?_⟩
    rw [aso] at hf
    cases i with
    | zero =>
      simp [encCs] at hv; subst hv
      exact ⟨v, rfl, fun c => hr ρ ρ' F w c (hf.mono fun p hp => List.mem_append_left _ hp)⟩
    | succ i => simpa using hr' ρ ρ' F w hf i v' (by simpa [encCs] using hv)
  | [], _ :: _, m, K, r, h => by simp [decCs] at h
  | _ :: _, [], m, K, r, h => by simp [decCs] at h
theorem agg_enc {ρ ρ' : Rho} {F : Nat → Prop} {w : World} {vs vs' : List V} (hl : vs'.length = vs.length) (h : ∀ (i : Nat) v', vs'[i]? = some v' → ∃ v, vs[i]? = some v ∧ ∀ c, RelC ρ F w v c → RelC ρ' F w v' c) {c : Value}
    (r : RelA ρ F w (.agg vs) c) : RelA ρ' F w (.agg vs') c := by
  obtain ⟨ca, e, hs, r⟩ := r
  refine ⟨ca, e, by omega, fun i v' hv => ?_⟩
  obtain ⟨v, hv, k⟩ := h i v' hv
  obtain ⟨c, hc, r⟩ := r i v hv
  exact ⟨c, hc, k c r⟩
theorem box_enc {st : Store} {x : Mp} {id : Nat} {cs cs' : List V} (hl : look st id = some (.box cs)) (hlen : cs'.length = cs.length)
    (h : ∀ ρ ρ' F w, Fit ρ ρ' x → ∀ (i : Nat) v', cs'[i]? = some v' → ∃ v, cs[i]? = some v ∧ ∀ c, RelC ρ F w v c → RelC ρ' F w v' c) : JB st x (.id id) (.box cs') := by
  intro ρ ρ' F w hf hh loc hloc
  have := hh id loc _ hloc hl
  cases loc with
  | row t a len cap => exact this.elim
  | box b n =>
    obtain ⟨h1, arr, hr, hs, hc⟩ := this
    refine ⟨by omega, arr, hr, hs, fun i v' hv => ?_⟩
    obtain ⟨v, hv, k⟩ := h ρ ρ' F w hf i v' hv
    obtain ⟨c, hc, r⟩ := hc i v hv
    exact ⟨c, hc, k c r⟩
theorem plain_same {ρ ρ' : Rho} {F : Nat → Prop} {w : World} {v : V} (hp : v.plain = true) (c : Value) (r : RelC ρ F w v c) : RelC ρ' F w v c := by
  rcases plain_not hp with ⟨k, n, rfl⟩ | ⟨b, rfl⟩ | ⟨s, rfl⟩ <;> exact r
theorem decP_some {l : LP} {v : V} {d : l.den} (h : decP l v = some d) : v = encC l d := by
  cases l with
  | int k =>
    cases v <;> simp only [decP] at h <;> try (cases h; done)
    rename_i k' n
    by_cases e : k = k'
    · subst e; simp at h; subst h; rfl
    · simp [e] at h
  | bool => cases v <;> simp only [decP] at h <;> first | (cases h; done) | (cases h; rfl)
  | str => cases v <;> simp only [decP] at h <;> first | (cases h; done) | (cases h; rfl)
  | r t => cases v <;> simp only [decP] at h <;> cases h
  | o c t => cases v <;> simp only [decP] at h <;> cases h
  | al c t => cases v <;> simp only [decP] at h <;> cases h
theorem decPs_some : ∀ {ls : List LP} {vs : List V} {d : dens ls}, decPs ls vs = some d → vs = encCs ls d
  | [], [], d, h => rfl
  | l :: ls, v :: vs, d, h => by
    simp only [decPs, Option.bind_eq_some_iff] at h
    obtain ⟨a, h1, b, h2, h⟩ := h
    cases h
    simp [encCs, ← decP_some h1, ← decPs_some h2]
  | [], _ :: _, d, h => by simp [decPs] at h
  | _ :: _, [], d, h => by simp [decPs] at h
theorem fn_same {ρ ρ' : Rho} {F : Nat → Prop} {w : World} {g : Nat} {cs : List V} {c : Value} (r : RelT ρ F w (.fn g [.sptr cs]) c) : RelT ρ' F w (.fn g [.sptr cs]) c := by
  obtain ⟨ca, e1, e2, k⟩ := r
  refine ⟨ca, e1, e2, fun i v hv => ?_⟩
  obtain ⟨c, hc, r⟩ := k i v hv
  refine ⟨c, hc, ?_⟩
  cases i with
  | zero => simp at hv; subst hv; exact r
  | succ i => simp at hv
theorem decS_sound {R : Type} {st : Store} : ∀ {ps : List SP} {vs : List V} {m : Mp} {K : densS ps → Mp → Option R} {r : R}, decS st ps vs m K = some r →
    ∃ t x, K t (m ++ x) = some r ∧ Got st (m ++ x) x (encB ps t) ∧ (encF ps t).length = vs.length ∧ ∀ ρ ρ' F w, Fit ρ ρ' (m ++ x) → ∀ (i : Nat) c, RelT ρ F w (get vs i) c → RelT ρ' F w (get (encF ps t) i) c
  | [], vs, m, K, r, h => by
    cases vs with
    | nil => exact ⟨(), [], by simpa [decS] using h, Got.nil, rfl, fun ρ ρ' F w _ i c _ => RelT.undef c⟩
    | cons _ _ => simp [decS] at h
  | .no :: ps, [], m, K, r, h => by simp [decS] at h
  | .one _ :: ps, [], m, K, r, h => by simp [decS] at h
  | .t _ :: ps, [], m, K, r, h => by simp [decS] at h
  | .agg _ :: ps, [], m, K, r, h => by simp [decS] at h
  | .box _ _ :: ps, [], m, K, r, h => by simp [decS] at h
  | .boxt _ _ :: ps, [], m, K, r, h => by simp [decS] at h
  | .fn _ _ :: ps, [], m, K, r, h => by simp [decS] at h
  | .sp _ :: ps, [], m, K, r, h => by simp [decS] at h
  | .no :: ps, v :: vs, m, K, r, h => by
    simp only [decS] at h
    obtain ⟨t, x, h, g, hl, hr⟩ := decS_sound h
    refine ⟨t, x, h, g, by simp [encF, hl], fun ρ ρ' F w hf i c r => ?_⟩
    cases i with
    | zero => exact RelT.undef c
    | succ i => exact hr ρ ρ' F w hf i c r
  | .one l :: ps, v :: vs, m, K, r, h => by
    simp only [decS] at h
    obtain ⟨d, x, h, g, hb, hr⟩ := decC_sound h
    obtain ⟨t, y, h, g', hl, hr'⟩ := decS_sound h
    have aso : m ++ (x ++ y) = m ++ x ++ y := (List.append_assoc _ _ _).symm
    refine ⟨(d, t), x ++ y, by rw [aso]; exact h, by rw [aso]; exact g.append g' fun p hp => List.mem_append_left _ hp, by simp [encF, hl], fun ρ ρ' F w hf i c r => ?_⟩
    rw [aso] at hf
    cases i with
    | succ i => exact hr' ρ ρ' F w hf i c r
    | zero => exact relT_encC (hr ρ ρ' F w c (hf.mono fun p hp => List.mem_append_left _ hp) (hb _ _ _ _ r))
  | .t τ :: ps, v :: vs, m, K, r, h => by
    cases v <;> simp only [decS] at h <;> try (cases h; done)
    rename_i cs
    split at h <;> try (cases h; done)
    rename_i d hd
    obtain ⟨t, y, h, g', hl, hr'⟩ := decS_sound h
    refine ⟨(d, t), y, h, g', by simp [encF, hl], fun ρ ρ' F w hf i c r => ?_⟩
    cases i with
    | succ i => exact hr' ρ ρ' F w hf i c r
    | zero =>
      simp only [encF, get]
      have e := ofCells_cells hd
      rw [e]
      refine agg_enc (vs := cs) rfl (fun i v' hv => ⟨v', hv, fun c => plain_same (cells_plain τ d v' (by rw [e]; exact List.mem_of_getElem? hv)) c⟩) r
  | .agg ls :: ps, v :: vs, m, K, r, h => by
    cases v <;> simp only [decS] at h <;> try (cases h; done)
    rename_i cs
    obtain ⟨d, x, h, g, hn, hr⟩ := decCs_sound h
    obtain ⟨t, y, h, g', hl, hr'⟩ := decS_sound h
    have aso : m ++ (x ++ y) = m ++ x ++ y := (List.append_assoc _ _ _).symm
    refine ⟨(d, t), x ++ y, by rw [aso]; exact h, by rw [aso]; exact g.append g' fun p hp => List.mem_append_left _ hp, by simp [encF, hl], fun ρ ρ' F w hf i c r => ?_⟩
    rw [aso] at hf
    cases i with
    | succ i => exact hr' ρ ρ' F w hf i c r
    | zero => exact agg_enc hn (hr ρ ρ' F w (hf.mono fun p hp => List.mem_append_left _ hp)) r
  | .box cid ls :: ps, v :: vs, m, K, r, h => by
    obtain ⟨id, rfl⟩ : ∃ id, v = .lptr id 0 := by
      cases v with
      | lptr id off =>
        cases off with
        | zero => exact ⟨id, rfl⟩
        | succ n => simp [decS] at h
      | _ => simp [decS] at h
    simp only [decS] at h
    split at h <;> try (cases h; done)
    rename_i cs hlk
    obtain ⟨d, x, h, g, hn, hr⟩ := decCs_sound h
    obtain ⟨t, y, h, g', hl, hr'⟩ := decS_sound h
    have g0 : Got st (m ++ [(cid, .id id)] ++ x) ([(cid, .id id)] ++ x) ([(cid, .box (encCs ls d))] ++ blkCs ls d) := by
      refine ⟨by simp [g.keys], fun c b hc => ?_, fun c n hc => ?_⟩
      · rcases List.mem_append.mp hc with hc | hc
        · simp at hc; obtain ⟨rfl, rfl⟩ := hc
          exact ⟨.id id, by simp, box_enc hlk hn hr⟩
        · obtain ⟨s, hs, j⟩ := g.blk c b hc
          exact ⟨s, by simp [hs], j⟩
      · rcases List.mem_append.mp hc with hc | hc
        · simp at hc; rw [hc.2, hlk]; simp
        · exact g.src c n hc
    have aso : m ++ (([(cid, .id id)] ++ x) ++ y) = m ++ [(cid, .id id)] ++ x ++ y := by simp
    refine ⟨(d, t), ([(cid, .id id)] ++ x) ++ y, by rw [aso]; exact h, by rw [aso]; simpa [encB] using g0.append g' fun p hp => List.mem_append_left _ hp, by simp [encF, hl], fun ρ ρ' F w hf i c r => ?_⟩
    rw [aso] at hf
    cases i with
    | succ i => exact hr' ρ ρ' F w hf i c r
    | zero =>
      obtain ⟨b, n, hρ, e⟩ := r
      exact ⟨b, n, (hf cid (.id id) (by simp)).trans hρ, e⟩
  | .boxt cid τ :: ps, v :: vs, m, K, r, h => by
    obtain ⟨id, rfl⟩ : ∃ id, v = .lptr id 0 := by
      cases v with
      | lptr id off =>
        cases off with
        | zero => exact ⟨id, rfl⟩
        | succ n => simp [decS] at h
      | _ => simp [decS] at h
    simp only [decS] at h
    split at h <;> try (cases h; done)
    rename_i cs hlk
    split at h <;> try (cases h; done)
    rename_i d hd
    obtain ⟨t, y, h, g', hl, hr'⟩ := decS_sound h
    have e := ofCells_cells hd
    have g0 : Got st (m ++ [(cid, .id id)]) [(cid, .id id)] [(cid, .box (τ.cells d))] := Got.one (box_enc hlk (by rw [e]) fun ρ ρ' F w hf i v' hv => ⟨v', by rw [← e]; exact hv, fun c => plain_same (cells_plain τ d v' (List.mem_of_getElem? hv)) c⟩) (fun n hn => by cases hn; rw [hlk]; simp)
    have aso : m ++ ([(cid, .id id)] ++ y) = m ++ [(cid, .id id)] ++ y := (List.append_assoc _ _ _).symm
    refine ⟨(d, t), [(cid, .id id)] ++ y, by rw [aso]; exact h, by rw [aso]; simpa [encB] using g0.append g' fun p hp => List.mem_append_left _ hp, by simp [encF, hl], fun ρ ρ' F w hf i c r => ?_⟩
    rw [aso] at hf
    cases i with
    | succ i => exact hr' ρ ρ' F w hf i c r
    | zero =>
      obtain ⟨b, n, hρ, e⟩ := r
      exact ⟨b, n, (hf cid (.id id) (by simp)).trans hρ, e⟩

  | .fn g ls :: ps, v :: vs, m, K, r, h => by
    obtain ⟨g', cs, rfl⟩ : ∃ g' cs, v = .fn g' [.sptr cs] := by
      cases v with
      | fn g' cap =>
        cases cap with
        | nil => simp [decS] at h
        | cons x xs =>
          cases xs with
          | cons _ _ => cases x <;> simp [decS] at h
          | nil => cases x <;> first | exact ⟨_, _, rfl⟩ | simp [decS] at h
      | _ => simp [decS] at h
    simp only [decS] at h
    cases hg : Nat.beq g' g <;> simp only [hg, cond_true, cond_false] at h
    · cases h
    have := Nat.eq_of_beq_eq_true hg
    subst this
    simp only [Option.bind_eq_some_iff] at h
    obtain ⟨d, hd, h⟩ := h
    have e := decPs_some hd
    obtain ⟨t, y, h, g1, hl, hr'⟩ := decS_sound h
    refine ⟨(d, t), y, h, g1, by simp [encF, hl], fun ρ ρ' F w hf i c r => ?_⟩
    cases i with
    | succ i => exact hr' ρ ρ' F w hf i c r
    | zero =>
      simp only [encF, get]
      rw [← e]
      exact fn_same r
  | .sp ls :: ps, v :: vs, m, K, r, h => by
    obtain ⟨cs, rfl⟩ : ∃ cs, v = .sptr cs := by
      cases v with
      | sptr cs => exact ⟨_, rfl⟩
      | _ => simp [decS] at h
    simp only [decS, Option.bind_eq_some_iff] at h
    obtain ⟨d, hd, h⟩ := h
    have e := decPs_some hd
    obtain ⟨t, y, h, g1, hl, hr'⟩ := decS_sound h
    refine ⟨(d, t), y, h, g1, by simp [encF, hl], fun ρ ρ' F w hf i c r => ?_⟩
    cases i with
    | succ i => exact hr' ρ ρ' F w hf i c r
    | zero =>
      simp only [encF, get]
      rw [← e]
      exact r

/-! ### The whole state -/
theorem hasKey_not {c : Nat} : ∀ {m : Mp}, hasKey c m = false → ∀ s, (c, s) ∉ m
  | [], _, s, h => by simp at h
  | (k, t) :: r, hk, s, h => by
    simp only [hasKey] at hk
    cases hb : Nat.beq k c <;> simp [hb] at hk
    rcases List.mem_cons.mp h with e | h
    · cases e; simp at hb
    · exact hasKey_not hk s h
theorem hasSrc_not {n : Nat} : ∀ {m : Mp}, hasSrc n m = false → ∀ c, (c, Orig.id n) ∉ m
  | [], _, s, h => by simp at h
  | (k, t) :: r, hk, s, h => by
    simp only [hasSrc] at hk
    cases hb : t.is n <;> simp [hb] at hk
    rcases List.mem_cons.mp h with e | h
    · cases e; simp [Orig.is] at hb
    · exact hasSrc_not hk s h
theorem okMap_spec {p : Nat} : ∀ {m : Mp}, okMap p m = true → (∀ c s s', (c, s) ∈ m → (c, s') ∈ m → s = s') ∧ (∀ c c' n, (c, Orig.id n) ∈ m → (c', Orig.id n) ∈ m → c = c') ∧ (∀ c s, (c, s) ∈ m → c < p → s = .id c)
  | [], _ => ⟨fun c s s' h => by simp at h, fun c c' n h => by simp at h, fun c s h => by simp at h⟩
  | (k, t) :: r, h => by
    simp only [okMap] at h
    cases h1 : hasKey k r <;> simp only [h1, cond_true, cond_false] at h <;> try (cases h; done)
    obtain ⟨h2, h⟩ : (∀ n, t = .id n → hasSrc n r = false) ∧ cond (cond (Nat.blt k p) (t.is k) true) (okMap p r) false = true := by
      cases t with
      | nil t => exact ⟨fun n hn => (by cases hn), h⟩
      | id n =>
        cases h2 : hasSrc n r <;> simp only [h2, cond_true, cond_false] at h
        · exact ⟨fun n' hn => (by cases hn; exact h2), h⟩
        · cases h
    cases h3 : cond (Nat.blt k p) (t.is k) true <;> simp only [h3, cond_true, cond_false] at h <;> try (cases h; done)
    obtain ⟨a, b, c⟩ := okMap_spec h
    have hk := hasKey_not h1
    refine ⟨fun x s s' hs hs' => ?_, fun x x' n hs hs' => ?_, fun x s hs hlt => ?_⟩
    · rcases List.mem_cons.mp hs with e | g
      · cases e
        rcases List.mem_cons.mp hs' with e | g'
        · cases e; rfl
        · exact absurd g' (hk _)
      · rcases List.mem_cons.mp hs' with e | g'
        · cases e; exact absurd g (hk _)
        · exact a x s s' g g'
    · rcases List.mem_cons.mp hs with e | g
      · cases e
        rcases List.mem_cons.mp hs' with e | g'
        · cases e; rfl
        · exact absurd g' (hasSrc_not (h2 n rfl) _)
      · rcases List.mem_cons.mp hs' with e | g'
        · cases e; exact absurd g (hasSrc_not (h2 n rfl) _)
        · exact b x x' n g g'
    · rcases List.mem_cons.mp hs with e | g
      · cases e
        rw [show Nat.blt k p = true by simpa [Nat.blt_eq] using hlt, cond_true] at h3
        cases t with
        | id n => simp only [Orig.is] at h3; rw [Nat.eq_of_beq_eq_true h3]
        | nil t => cases h3
      · exact c x s g hlt
theorem look_mem {σ : Store} {c : Nat} {b : Blk} (h : look σ c = some b) : (c, b) ∈ σ := by
  induction σ with
  | nil => simp [look] at h
  | cons p r ih =>
    obtain ⟨i, b'⟩ := p
    simp only [look] at h
    cases hb : Nat.beq i c <;> simp only [hb, cond_true, cond_false] at h
    · exact List.mem_cons_of_mem _ (ih h)
    · cases h; have := Nat.eq_of_beq_eq_true hb; subst this; simp
theorem look_key {σ : Store} {c : Nat} (h : c ∈ σ.map Prod.fst) : look σ c ≠ none := by
  induction σ with
  | nil => simp at h
  | cons p r ih =>
    obtain ⟨i, b'⟩ := p
    simp only [look]
    cases hb : Nat.beq i c
    · simp only [cond_false]
      refine ih ?_
      simp only [List.map_cons, List.mem_cons] at h
      rcases h with h | h
      · subst h; simp at hb
      · exact h
    · simp
/-- The ids under their new names. -/
noncomputable def renR (ρ : Rho) (m : Mp) : Rho := fun c => by
  classical
  exact if h : ∃ s, (c, s) ∈ m then (Classical.choose h).loc ρ else none
theorem renR_at {p : Nat} {ρ : Rho} {m : Mp} (hm : okMap p m = true) {c : Nat} {s : Orig} (h : (c, s) ∈ m) : renR ρ m c = s.loc ρ := by
  classical
  have he : ∃ s, (c, s) ∈ m := ⟨s, h⟩
  unfold renR
  rw [dif_pos he, (okMap_spec hm).1 c _ s (Classical.choose_spec he) h]
theorem renR_some {p : Nat} {ρ : Rho} {m : Mp} (hm : okMap p m = true) {c : Nat} {l : Loc} (h : renR ρ m c = some l) : ∃ s, (c, s) ∈ m ∧ s.loc ρ = some l := by
  classical
  by_cases he : ∃ s, (c, s) ∈ m
  · obtain ⟨s, hs⟩ := he
    exact ⟨s, hs, by rw [← renR_at hm hs]; exact h⟩
  · unfold renR at h; rw [dif_neg he] at h; cases h
theorem orig_block {ρ : Rho} {s : Orig} {l : Loc} {b : Nat} (h : s.loc ρ = some l) (hb : l.block = some b) : ∃ n, s = .id n ∧ ρ n = some l := by
  cases s with
  | id n => exact ⟨n, rfl, h⟩
  | nil t => cases h; simp [Loc.block] at hb
/-- What a change of names and freezing keep. -/
structure Kept (p : Nat) (ρ : Rho) (F : Nat → Prop) (s : St) (w : World) (ρ' : Rho) (F' : Nat → Prop) (s' : St) : Prop where
  core : Core ρ' F' s'.st w
  dom : Dom ρ' s'.st
  fr : ∀ t x, RelT ρ F w (get s.fr t) x → RelT ρ' F' w (get s'.fr t) x
  mb : ∀ b, ρ'.M b → ρ.M b
  stb : ∀ b, F' b → F b ∨ ρ.M b
  par : ∀ j, j < p → look s'.st j ≠ none → ρ' j = ρ j ∧ look s.st j ≠ none
  len : s'.fr.length = s.fr.length
theorem decK_rel {R : Type} {p : Nat} {ps : List SP} {s : St} {K : densS ps → Option R} {r : R} (h : decK p ps s K = some r) :
    ∃ t, K t = some r ∧ ∀ ρ F w, Core ρ F s.st w → Dom ρ s.st → ∃ ρ' F', Kept p ρ F s w ρ' F' (enc ps t) := by
  unfold decK at h
  obtain ⟨s1, h, i1, _, hfz⟩ := frzAll_sound h
  obtain ⟨t, m, h, g, hl, hr⟩ := decS_sound h
  simp only [List.nil_append] at h
  cases hm : okMap p m <;> simp only [hm, cond_true, cond_false] at h
  · cases h
  obtain ⟨m1, m2, m3⟩ := okMap_spec hm
  refine ⟨t, h, fun ρ F w HC DM => ?_⟩
  obtain ⟨ρ1, F1, fz, _⟩ := hfz ρ F w HC (core_lt HC DM)
  have fit : Fit ρ1 (renR ρ1 m) m := fun c s hs => renR_at hm hs
  have M1 : ∀ b, (renR ρ1 m).M b → ∃ n l, ρ1 n = some l ∧ l.block = some b := by
    rintro b ⟨c, l, hc, hb⟩
    obtain ⟨s, hs, e⟩ := renR_some hm hc
    obtain ⟨n, rfl, e⟩ := orig_block e hb
    exact ⟨n, l, e, hb⟩
  have M2 : ∀ b, (renR ρ1 m).M b → ρ.M b := fun b hb => by
    obtain ⟨n, l, h1, h2⟩ := M1 b hb
    exact ⟨n, l, fz.ids n l h1, h2⟩
  refine ⟨renR ρ1 m, F1, ⟨fun c loc blk h1 h2 => ?_, fun i j li lj b hi hj hbi hbj => ?_, fun b hb => ?_⟩, fun c l h1 => ?_, fun i c h => hr ρ1 _ F1 w fit i _ (fz.fr i _ h), M2, fz.stab', fun j hj hk => ?_, hl.trans fz.len⟩
  · obtain ⟨s, hs, j⟩ := g.blk c blk (look_mem h2)
    obtain ⟨s', hs', e⟩ := renR_some hm h1
    have := m1 c s s' hs hs'
    subst this
    exact j ρ1 _ F1 w fit fz.core.heap loc e
  · obtain ⟨si, hsi, ei⟩ := renR_some hm hi
    obtain ⟨sj, hsj, ej⟩ := renR_some hm hj
    obtain ⟨n, rfl, ei⟩ := orig_block ei hbi
    obtain ⟨k, rfl, ej⟩ := orig_block ej hbj
    have := fz.core.inj n k li lj b ei ej hbi hbj
    subst this
    exact m2 i j n hsi hsj
  · refine ⟨(fz.core.stable b hb).1, fun hb' => (fz.core.stable b hb).2 ?_⟩
    obtain ⟨n, l, h1, h2⟩ := M1 b hb'
    exact ⟨n, l, h1, h2⟩
  · obtain ⟨s, hs, e⟩ := renR_some hm h1
    exact look_key (σ := encB ps t) (by rw [← g.keys]; exact List.mem_map.2 ⟨_, hs, rfl⟩)
  · have hmem : j ∈ m.map Prod.fst := by
      rw [g.keys]
      obtain ⟨b, hb⟩ := look_ne hk
      exact List.mem_map.2 ⟨_, look_mem hb, rfl⟩
    obtain ⟨⟨c, s⟩, hs, rfl⟩ := List.mem_map.1 hmem
    have e := m3 c s hs hj
    subst e
    rw [renR_at hm hs]
    have hne := g.src c c hs
    have hni : ¬ (look _ c = none ∨ c ∈ dedup (frzIds _ ps _)) := fun h => hne ((i1 c).2 h)
    simp only [Orig.loc]
    exact ⟨fz.keep c fun h => hni (.inr h), fun h => hni (.inl h)⟩
theorem decK_sound {R : Type} {ps : List SP} {s : St} {K : densS ps → Option R} {r : R} (h : decK 100 ps s K = some r) :
    ∃ t, K t = some r ∧ ∀ C a w, SR C s a w → SR C (enc ps t) a w := by
  obtain ⟨t, h, hr⟩ := decK_rel h
  refine ⟨t, h, fun C a w sr => ?_⟩
  obtain ⟨ρ, F, HC, DM, B, hs⟩ := sr.ex
  obtain ⟨ρ', F', k⟩ := hr ρ F w HC DM
  refine ⟨sr.defers, by rw [k.len]; exact sr.len, ρ', F', k.core, k.dom, ⟨B.chg, fun b hb hlt => B.mb b (k.mb b hb) hlt, fun b hb hlt => ?_, fun j l hj hl0 hk => ?_⟩, fun t => k.fr t _ (hs t)⟩
  · rcases k.stb b hb with h | h
    · exact B.stb b h hlt
    · exact .inr (B.mb b h hlt)
  · obtain ⟨e, h⟩ := k.par j hj hk
    rw [e]; exact B.par j l hj hl0 h
end Ev
