/- What a loop keeps from round to round: patterns of a frame and its store, read as typed values and written back. Definitions alone. What is read by a pattern and written back stands for the same. Code: what the evaluator computes is what the machine does. Functions: what is handed in and what comes back, typed. Definitions alone. Functions: what the evaluator computes of a body is what the function is taken for. What the printed texts of the functions lean on. Structs that are equal if their cells are. -/
import Derived.Test.YtpnlcamcnhpbhaaEvA
import Derived.Test.YtpnlcamcnhpbhaaRegA
import Derived.LoopN
import Derived.Laws.StructEq
section
set_option linter.unusedVariables false
namespace Ev
open Go

inductive LP | int (k : IntKind) | bool | str | r (t : Ty) | o (cid : Nat) (t : Ty) | al (cid : Nat) (t : Ty)
@[reducible] def LP.den : LP → Type
  | .int _ => Int | .bool => Bool | .str => Str | .r t => List t.den | .o _ t => List t.den | .al _ _ => Unit
@[reducible] def dens : List LP → Type
  | [] => Unit
  | l :: ls => l.den × dens ls
inductive SP | no | one (l : LP) | t (τ : Ty) | agg (ls : List LP) | box (cid : Nat) (ls : List LP) | boxt (cid : Nat) (τ : Ty) | fn (g : Nat) (ls : List LP) | sp (ls : List LP)
@[reducible] def densS : List SP → Type
  | [] => Unit
  | .no :: ps => densS ps
  | .one l :: ps => l.den × densS ps
  | .t τ :: ps => τ.den × densS ps
  | .agg ls :: ps => dens ls × densS ps
  | .box _ ls :: ps => dens ls × densS ps
  | .boxt _ τ :: ps => τ.den × densS ps
  | .fn _ ls :: ps => dens ls × densS ps
  | .sp ls :: ps => dens ls × densS ps
inductive Orig | id (n : Nat) | nil (t : Ty)
abbrev Mp := List (Nat × Orig)
/-- Whether 'c' stands for the block 'n' already. -/
def Orig.is (n : Nat) : Orig → Bool
  | .id k => Nat.beq k n
  | .nil _ => false
def isSrc (c n : Nat) : Mp → Bool
  | [] => false
  | (k, s) :: r => cond (cond (Nat.beq k c) (s.is n) false) true (isSrc c n r)
section
variable {R : Type}
def decC (st : Store) : (l : LP) → V → Mp → (l.den → Mp → Option R) → Option R
  | .int k, .int k' n, m, K => cond (decide (k = k')) (K n m) none
  | .bool, .bool b, m, K => K b m
  | .str, .str s, m, K => K s m
  | .r t, .lst t' l, m, K => match castL t' t l with
    | some l => K l m
    | none => none
  | .r t, .nils, m, K => K [] m
  | .o cid t, .own id, m, K => match look st id with
    | some (.rows t' l) => match castL t' t l with
      | some l => K l (m ++ [(cid, .id id)])
      | none => none
    | _ => none
  | .o cid t, .nils, m, K => K [] (m ++ [(cid, .nil t)])
  | .al cid t, .own id, m, K => cond (isSrc cid id m) (K () m) none
  | _, _, _, _ => none
def encC : (l : LP) → l.den → V
  | .int k, n => .int k n
  | .bool, b => .bool b
  | .str, s => .str s
  | .r t, l => .lst t l
  | .o cid t, l => .own cid
  | .al cid t, _ => .own cid
def blkC : (l : LP) → l.den → Store
  | .o cid t, l => [(cid, .rows t l)]
  | .int _, _ => []
  | .bool, _ => []
  | .str, _ => []
  | .r _, _ => []
  | .al _ _, _ => []
def decCs (st : Store) : (ls : List LP) → List V → Mp → (dens ls → Mp → Option R) → Option R
  | [], [], m, K => K () m
  | l :: ls, v :: vs, m, K => decC st l v m fun d m => decCs st ls vs m fun t m => K (d, t) m
  | _, _, _, _ => none
def encCs : (ls : List LP) → dens ls → List V
  | [], _ => []
  | l :: ls, t => encC l t.1 :: encCs ls t.2
def blkCs : (ls : List LP) → dens ls → Store
  | [], _ => []
  | l :: ls, t => blkC l t.1 ++ blkCs ls t.2
/-- Plain cells, read as typed values. -/
def decP : (l : LP) → V → Option l.den
  | .int k, .int k' n => cond (decide (k = k')) (some n) none
  | .bool, .bool b => some b
  | .str, .str s => some s
  | _, _ => none
def decPs : (ls : List LP) → List V → Option (dens ls)
  | [], [] => some ()
  | l :: ls, v :: vs => (decP l v).bind fun d => (decPs ls vs).bind fun t => some (d, t)
  | _, _ => none
def decS (st : Store) : (ps : List SP) → List V → Mp → (densS ps → Mp → Option R) → Option R
  | [], [], m, K => K () m
  | .no :: ps, _ :: vs, m, K => decS st ps vs m K
  | .one l :: ps, v :: vs, m, K => decC st l v m fun d m => decS st ps vs m fun t m => K (d, t) m
  | .t τ :: ps, .agg cs :: vs, m, K => match τ.ofCells cs with
    | some d => decS st ps vs m fun t m => K (d, t) m
    | none => none
  | .agg ls :: ps, .agg cs :: vs, m, K => decCs st ls cs m fun d m => decS st ps vs m fun t m => K (d, t) m
  | .box cid ls :: ps, .lptr id 0 :: vs, m, K => match look st id with
    | some (.box cs) => decCs st ls cs (m ++ [(cid, .id id)]) fun d m => decS st ps vs m fun t m => K (d, t) m
    | _ => none
  | .boxt cid τ :: ps, .lptr id 0 :: vs, m, K => match look st id with
    | some (.box cs) => match τ.ofCells cs with
      | some d => decS st ps vs (m ++ [(cid, .id id)]) fun t m => K (d, t) m
      | none => none
    | _ => none
  | .fn g ls :: ps, .fn g' [.sptr cs] :: vs, m, K => cond (Nat.beq g' g) ((decPs ls cs).bind fun d => decS st ps vs m fun t m => K (d, t) m) none
  | .sp ls :: ps, .sptr cs :: vs, m, K => (decPs ls cs).bind fun d => decS st ps vs m fun t m => K (d, t) m
  | _, _, _, _ => none
def encF : (ps : List SP) → densS ps → List V
  | [], _ => []
  | .no :: ps, t => .undef :: encF ps t
  | .one l :: ps, t => encC l t.1 :: encF ps t.2
  | .t τ :: ps, t => .agg (τ.cells t.1) :: encF ps t.2
  | .agg ls :: ps, t => .agg (encCs ls t.1) :: encF ps t.2
  | .box cid _ :: ps, t => .lptr cid 0 :: encF ps t.2
  | .boxt cid _ :: ps, t => .lptr cid 0 :: encF ps t.2
  | .fn g ls :: ps, t => .fn g [.sptr (encCs ls t.1)] :: encF ps t.2
  | .sp ls :: ps, t => .sptr (encCs ls t.1) :: encF ps t.2
def encB : (ps : List SP) → densS ps → Store
  | [], _ => []
  | .no :: ps, t => encB ps t
  | .one l :: ps, t => blkC l t.1 ++ encB ps t.2
  | .t τ :: ps, t => encB ps t.2
  | .agg ls :: ps, t => blkCs ls t.1 ++ encB ps t.2
  | .box cid ls :: ps, t => (cid, .box (encCs ls t.1)) :: blkCs ls t.1 ++ encB ps t.2
  | .boxt cid τ :: ps, t => (cid, .box (τ.cells t.1)) :: encB ps t.2
  | .fn _ _ :: ps, t => encB ps t.2
  | .sp _ :: ps, t => encB ps t.2
def enc (ps : List SP) (t : densS ps) : St := ⟨encF ps t, encB ps t⟩
def hasKey (c : Nat) : Mp → Bool
  | [] => false
  | (k, _) :: r => cond (Nat.beq k c) true (hasKey c r)
def hasSrc (n : Nat) : Mp → Bool
  | [] => false
  | (_, s) :: r => cond (s.is n) true (hasSrc n r)
def okMap (p : Nat) : Mp → Bool
  | [] => true
  | (c, s) :: r => cond (hasKey c r) false (cond (match s with | .id n => hasSrc n r | .nil _ => false) false (cond (cond (Nat.blt c p) (s.is c) true) (okMap p r) false))
/-- The rows that are handed on for reading only. -/
def frzV : LP → V → List Nat
  | .r _, .own id => [id]
  | .r _, .ownv id _ _ => [id]
  | _, _ => []
def frzVs : List LP → List V → List Nat
  | l :: ls, v :: vs => frzV l v ++ frzVs ls vs
  | _, _ => []
def frzIds (st : Store) : List SP → List V → List Nat
  | .one l :: ps, v :: vs => frzV l v ++ frzIds st ps vs
  | .agg ls :: ps, .agg cs :: vs => frzVs ls cs ++ frzIds st ps vs
  | .box _ ls :: ps, .lptr id 0 :: vs => match look st id with
    | some (.box cs) => frzVs ls cs ++ frzIds st ps vs
    | _ => frzIds st ps vs
  | _ :: ps, _ :: vs => frzIds st ps vs
  | _, _ => []
def decK (p : Nat) (ps : List SP) (s : St) (K : densS ps → Option R) : Option R :=
  frzAll (dedup (frzIds s.st ps s.fr)) s fun s => decS s.st ps s.fr [] fun t m => cond (okMap p m) (K t) none
end
/-- A pattern of 'n' places, of which few are kept. -/
def pat : Nat → Nat → List (Nat × SP) → List SP
  | 0, _, _ => []
  | n + 1, i, [] => .no :: pat n (i + 1) []
  | n + 1, i, (j, p) :: r => cond (Nat.beq i j) (p :: pat n (i + 1) r) (.no :: pat n (i + 1) ((j, p) :: r))
/-- As many rounds as any loop of the program takes: a number that nothing computes. -/
theorem fuel_ex : ∃ n : Nat, n = 36893488147419103232 := ⟨_, rfl⟩
noncomputable def fuel : Nat := Classical.choose fuel_ex
theorem fuel_eq : fuel = 36893488147419103232 := Classical.choose_spec fuel_ex
def iterF {R T : Type} (f : T → (T → Option R) → (T → Option R) → Option R) : Nat → T → (T → Option R) → Option R
  | 0, _, _ => none
  | n + 1, t, K => f t (fun t => iterF f n t K) K
/-- A loop: its pattern, and what a round does. -/
noncomputable def loopL {R : Type} (ps : List SP) (f : densS ps → (densS ps → Option R) → (densS ps → Option R) → Option R) (s : St) (K : St → Option R) : Option R :=
  decK 100 ps s fun t => iterF f fuel t fun t => K (enc ps t)
end Ev
end
section
set_option linter.unusedVariables false
set_option linter.unusedSimpArgs false
set_option linter.unnecessarySimpa false
namespace Ev
open Go

def Orig.loc (ρ : Rho) : Orig → Option Loc
  | .id n => ρ n
  | .nil t => some (.row t none 0 0)
def Fit (ρ ρ' : Rho) (x : Mp) : Prop := ∀ c s, (c, s) ∈ x → ρ' c = s.loc ρ
theorem Fit.mono {ρ ρ' : Rho} {x y : Mp} (h : Fit ρ ρ' y) (k : ∀ p ∈ x, p ∈ y) : Fit ρ ρ' x := fun c s hs => h c s (k _ hs)
def JB (st : Store) (x : Mp) (src : Orig) (blk : Blk) : Prop :=
  ∀ ρ ρ' F w, Fit ρ ρ' x → (∀ id loc b, ρ id = some loc → look st id = some b → HeapAt ρ F w loc b) → ∀ loc, src.loc ρ = some loc → HeapAt ρ' F w loc blk
structure Got (st : Store) (M x : Mp) (bs : Store) : Prop where
  keys : x.map Prod.fst = bs.map Prod.fst
  blk : ∀ c b, (c, b) ∈ bs → ∃ s, (c, s) ∈ x ∧ JB st M s b
  src : ∀ c n, (c, Orig.id n) ∈ x → look st n ≠ none
theorem Got.nil {st : Store} {M : Mp} : Got st M [] [] := ⟨rfl, fun c b h => by simp at h, fun c n h => by simp at h⟩
theorem JB.mono {st : Store} {x y : Mp} {s : Orig} {b : Blk} (h : JB st x s b) (k : ∀ p ∈ x, p ∈ y) : JB st y s b := fun ρ ρ' F w hf => h ρ ρ' F w (hf.mono k)
theorem Got.append {st : Store} {M N x y : Mp} {a b : Store} (h : Got st M x a) (k : Got st N y b) (hM : ∀ p ∈ M, p ∈ N) : Got st N (x ++ y) (a ++ b) := by
  refine ⟨by simp [h.keys, k.keys], fun c blk hc => ?_, fun c n hc => ?_⟩
  · rcases List.mem_append.mp hc with hc | hc
    · obtain ⟨s, hs, j⟩ := h.blk c blk hc
      exact ⟨s, by simp [hs], j.mono hM⟩
    · obtain ⟨s, hs, j⟩ := k.blk c blk hc
      exact ⟨s, by simp [hs], j⟩
  · rcases List.mem_append.mp hc with hc | hc
    · exact h.src c n hc
    · exact k.src c n hc
theorem Got.one {st : Store} {M : Mp} {c : Nat} {s : Orig} {b : Blk} (h : JB st M s b) (hs : ∀ n, s = .id n → look st n ≠ none) : Got st M [(c, s)] [(c, b)] :=
  ⟨rfl, fun c' b' hc => by simp at hc; obtain ⟨rfl, rfl⟩ := hc; exact ⟨s, by simp, h⟩, fun c' n hc => by simp at hc; exact hs n hc.2.symm⟩
theorem isSrc_mem {c n : Nat} : ∀ {m : Mp}, isSrc c n m = true → (c, Orig.id n) ∈ m
  | [], h => by simp [isSrc] at h
  | (k, s) :: r, h => by
    simp only [isSrc] at h
    cases hk : Nat.beq k c <;> simp only [hk, cond_true, cond_false] at h
    · exact List.mem_cons_of_mem _ (isSrc_mem h)
    · have := Nat.eq_of_beq_eq_true hk
      subst this
      cases hs : s.is n <;> simp only [hs, cond_true, cond_false] at h
      · exact List.mem_cons_of_mem _ (isSrc_mem h)
      · cases s with
        | nil t => simp [Orig.is] at hs
        | id j =>
          have := Nat.eq_of_beq_eq_true hs
          subst this; simp
theorem relT_encC {l : LP} {d : l.den} {ρ : Rho} {F : Nat → Prop} {w : World} {c : Value} (h : RelC ρ F w (encC l d) c) : RelT ρ F w (encC l d) c := by
  cases l <;> exact h
theorem decC_sound {R : Type} {st : Store} {l : LP} {v : V} {m : Mp} {K : l.den → Mp → Option R} {r : R} (h : decC st l v m K = some r) :
    ∃ d x, K d (m ++ x) = some r ∧ Got st (m ++ x) x (blkC l d) ∧ (∀ ρ F w c, RelT ρ F w v c → RelC ρ F w v c) ∧ ∀ ρ ρ' F w c, Fit ρ ρ' (m ++ x) → RelC ρ F w v c → RelC ρ' F w (encC l d) c := by
  cases l with
  | int k =>
    cases v <;> simp only [decC] at h <;> try (cases h; done)
    rename_i k' n
    by_cases e : k = k'
    · subst e
      simp only [decide_true, cond_true] at h
      exact ⟨n, [], by simpa using h, Got.nil, fun _ _ _ _ r => r, fun ρ ρ' F w c _ r => r⟩
    · simp [e] at h
  | bool =>
    cases v <;> simp only [decC] at h <;> try (cases h; done)
    rename_i b
    exact ⟨b, [], by simpa using h, Got.nil, fun _ _ _ _ r => r, fun ρ ρ' F w c _ r => r⟩
  | str =>
    cases v <;> simp only [decC] at h <;> try (cases h; done)
    rename_i b
    exact ⟨b, [], by simpa using h, Got.nil, fun _ _ _ _ r => r, fun ρ ρ' F w c _ r => r⟩
  | r t =>
    cases v <;> simp only [decC] at h <;> try (cases h; done)
    · exact ⟨[], [], by simpa using h, Got.nil, fun _ _ _ _ r => r, fun ρ ρ' F w c _ r => by
        have e : c = .slice none 0 0 := r
        exact ⟨none, 0, e, by simp, .inl rfl⟩⟩
    · rename_i t' l
      split at h <;> try (cases h; done)
      rename_i l' hl
      obtain ⟨e, hl⟩ := castL_eq hl
      subst e; subst hl
      exact ⟨_, [], by simpa using h, Got.nil, fun _ _ _ _ r => r, fun ρ ρ' F w c _ r => r⟩
  | o cid t =>
    cases v <;> simp only [decC] at h <;> try (cases h; done)
    · refine ⟨[], [(cid, .nil t)], h, Got.one (fun ρ ρ' F w hf _ loc hl => ?_) (fun n hn => by cases hn), fun _ _ _ _ r => r, fun ρ ρ' F w c hf r => ?_⟩
      · cases hl
        exact ⟨rfl, rfl, Nat.le_refl _, .inl rfl⟩
      · have e : c = .slice none 0 0 := r
        exact ⟨t, none, 0, 0, hf cid (.nil t) (by simp), e⟩
    · rename_i id
      split at h <;> try (cases h; done)
      rename_i t' l hlk
      split at h <;> try (cases h; done)
      rename_i l' hl
      obtain ⟨e, hl⟩ := castL_eq hl
      subst e; subst hl
      refine ⟨_, [(cid, .id id)], h, Got.one (fun ρ ρ' F w hf hh loc hl => ?_) (fun n hn => by cases hn; rw [hlk]; simp), fun _ _ _ _ r => r, fun ρ ρ' F w c hf r => ?_⟩
      · have := hh id loc _ hl hlk
        cases loc with
        | box b n => exact this.elim
        | row t a len cap => exact this
      · obtain ⟨t1, a, len, cap, hρ, e⟩ := r
        exact ⟨t1, a, len, cap, (hf cid (.id id) (by simp)).trans hρ, e⟩
  | al cid t =>
    cases v <;> simp only [decC] at h <;> try (cases h; done)
    rename_i id
    cases hb : isSrc cid id m <;> simp only [hb, cond_true, cond_false] at h
    · cases h
    refine ⟨(), [], by simpa using h, Got.nil, fun _ _ _ _ r => r, fun ρ ρ' F w c hf r => ?_⟩
    obtain ⟨t1, a, len, cap, hρ, e⟩ := r
    exact ⟨t1, a, len, cap, (hf cid (.id id) (by simp [isSrc_mem hb])).trans hρ, e⟩
theorem decCs_sound {R : Type} {st : Store} : ∀ {ls : List LP} {vs : List V} {m : Mp} {K : dens ls → Mp → Option R} {r : R}, decCs st ls vs m K = some r →
    ∃ d x, K d (m ++ x) = some r ∧ Got st (m ++ x) x (blkCs ls d) ∧ (encCs ls d).length = vs.length ∧ ∀ ρ ρ' F w, Fit ρ ρ' (m ++ x) → ∀ (i : Nat) v', (encCs ls d)[i]? = some v' → ∃ v, vs[i]? = some v ∧ ∀ c, RelC ρ F w v c → RelC ρ' F w v' c
  | [], [], m, K, r, h => ⟨(), [], by simpa [decCs] using h, Got.nil, rfl, fun ρ ρ' F w _ i v' hv => by simp [encCs] at hv⟩
  | l :: ls, v :: vs, m, K, r, h => by
    simp only [decCs] at h
    obtain ⟨d, x, h, g, _, hr⟩ := decC_sound h
    obtain ⟨t, y, h, g', hl, hr'⟩ := decCs_sound h
    have aso : m ++ (x ++ y) = m ++ x ++ y := (List.append_assoc _ _ _).symm
    refine ⟨(d, t), x ++ y, by rw [aso]; exact h, by rw [aso]; exact g.append g' fun p hp => List.mem_append_left _ hp, by simp [encCs, hl], fun ρ ρ' F w hf i v' hv => ?_⟩
    rw [aso] at hf
    cases i with
    | zero =>
      simp [encCs] at hv; subst hv
      exact ⟨v, rfl, fun c => hr ρ ρ' F w c (hf.mono fun p hp => List.mem_append_left _ hp)⟩
    | succ i => simpa using hr' ρ ρ' F w hf i v' (by simpa [encCs] using hv)
  | [], _ :: _, m, K, r, h => by simp [decCs] at h
  | _ :: _, [], m, K, r, h => by simp [decCs] at h
theorem agg_enc {ρ ρ' : Rho} {F : Nat → Prop} {w : World} {vs vs' : List V} (hl : vs'.length = vs.length) (h : ∀ (i : Nat) v', vs'[i]? = some v' → ∃ v, vs[i]? = some v ∧ ∀ c, RelC ρ F w v c → RelC ρ' F w v' c) {c : Value}
    (r : RelA ρ F w (.agg vs) c) : RelA ρ' F w (.agg vs') c := by
  obtain ⟨ca, e, hs, r⟩ := r
  refine ⟨ca, e, by omega, fun i v' hv => ?_⟩
  obtain ⟨v, hv, k⟩ := h i v' hv
  obtain ⟨c, hc, r⟩ := r i v hv
  exact ⟨c, hc, k c r⟩
theorem box_enc {st : Store} {x : Mp} {id : Nat} {cs cs' : List V} (hl : look st id = some (.box cs)) (hlen : cs'.length = cs.length)
    (h : ∀ ρ ρ' F w, Fit ρ ρ' x → ∀ (i : Nat) v', cs'[i]? = some v' → ∃ v, cs[i]? = some v ∧ ∀ c, RelC ρ F w v c → RelC ρ' F w v' c) : JB st x (.id id) (.box cs') := by
  intro ρ ρ' F w hf hh loc hloc
  have := hh id loc _ hloc hl
  cases loc with
  | row t a len cap => exact this.elim
  | box b n =>
    obtain ⟨h1, arr, hr, hs, hc⟩ := this
    refine ⟨by omega, arr, hr, hs, fun i v' hv => ?_⟩
    obtain ⟨v, hv, k⟩ := h ρ ρ' F w hf i v' hv
    obtain ⟨c, hc, r⟩ := hc i v hv
    exact ⟨c, hc, k c r⟩
theorem plain_same {ρ ρ' : Rho} {F : Nat → Prop} {w : World} {v : V} (hp : v.plain = true) (c : Value) (r : RelC ρ F w v c) : RelC ρ' F w v c := by
  rcases plain_not hp with ⟨k, n, rfl⟩ | ⟨b, rfl⟩ | ⟨s, rfl⟩ <;> exact r
theorem decP_some {l : LP} {v : V} {d : l.den} (h : decP l v = some d) : v = encC l d := by
  cases l with
  | int k =>
    cases v <;> simp only [decP] at h <;> try (cases h; done)
    rename_i k' n
    by_cases e : k = k'
    · subst e; simp at h; subst h; rfl
    · simp [e] at h
  | bool => cases v <;> simp only [decP] at h <;> first | (cases h; done) | (cases h; rfl)
  | str => cases v <;> simp only [decP] at h <;> first | (cases h; done) | (cases h; rfl)
  | r t => cases v <;> simp only [decP] at h <;> cases h
  | o c t => cases v <;> simp only [decP] at h <;> cases h
  | al c t => cases v <;> simp only [decP] at h <;> cases h
theorem decPs_some : ∀ {ls : List LP} {vs : List V} {d : dens ls}, decPs ls vs = some d → vs = encCs ls d
  | [], [], d, h => rfl
  | l :: ls, v :: vs, d, h => by
    simp only [decPs, Option.bind_eq_some_iff] at h
    obtain ⟨a, h1, b, h2, h⟩ := h
    cases h
    simp [encCs, ← decP_some h1, ← decPs_some h2]
  | [], _ :: _, d, h => by simp [decPs] at h
  | _ :: _, [], d, h => by simp [decPs] at h
theorem fn_same {ρ ρ' : Rho} {F : Nat → Prop} {w : World} {g : Nat} {cs : List V} {c : Value} (r : RelT ρ F w (.fn g [.sptr cs]) c) : RelT ρ' F w (.fn g [.sptr cs]) c := by
  obtain ⟨ca, e1, e2, k⟩ := r
  refine ⟨ca, e1, e2, fun i v hv => ?_⟩
  obtain ⟨c, hc, r⟩ := k i v hv
  refine ⟨c, hc, ?_⟩
  cases i with
  | zero => simp at hv; subst hv; exact r
  | succ i => simp at hv
theorem decS_sound {R : Type} {st : Store} : ∀ {ps : List SP} {vs : List V} {m : Mp} {K : densS ps → Mp → Option R} {r : R}, decS st ps vs m K = some r →
    ∃ t x, K t (m ++ x) = some r ∧ Got st (m ++ x) x (encB ps t) ∧ (encF ps t).length = vs.length ∧ ∀ ρ ρ' F w, Fit ρ ρ' (m ++ x) → ∀ (i : Nat) c, RelT ρ F w (get vs i) c → RelT ρ' F w (get (encF ps t) i) c
  | [], vs, m, K, r, h => by
    cases vs with
    | nil => exact ⟨(), [], by simpa [decS] using h, Got.nil, rfl, fun ρ ρ' F w _ i c _ => RelT.undef c⟩
    | cons _ _ => simp [decS] at h
  | .no :: ps, [], m, K, r, h => by simp [decS] at h
  | .one _ :: ps, [], m, K, r, h => by simp [decS] at h
  | .t _ :: ps, [], m, K, r, h => by simp [decS] at h
  | .agg _ :: ps, [], m, K, r, h => by simp [decS] at h
  | .box _ _ :: ps, [], m, K, r, h => by simp [decS] at h
  | .boxt _ _ :: ps, [], m, K, r, h => by simp [decS] at h
  | .fn _ _ :: ps, [], m, K, r, h => by simp [decS] at h
  | .sp _ :: ps, [], m, K, r, h => by simp [decS] at h
  | .no :: ps, v :: vs, m, K, r, h => by
    simp only [decS] at h
    obtain ⟨t, x, h, g, hl, hr⟩ := decS_sound h
    refine ⟨t, x, h, g, by simp [encF, hl], fun ρ ρ' F w hf i c r => ?_⟩
    cases i with
    | zero => exact RelT.undef c
    | succ i => exact hr ρ ρ' F w hf i c r
  | .one l :: ps, v :: vs, m, K, r, h => by
    simp only [decS] at h
    obtain ⟨d, x, h, g, hb, hr⟩ := decC_sound h
    obtain ⟨t, y, h, g', hl, hr'⟩ := decS_sound h
    have aso : m ++ (x ++ y) = m ++ x ++ y := (List.append_assoc _ _ _).symm
    refine ⟨(d, t), x ++ y, by rw [aso]; exact h, by rw [aso]; exact g.append g' fun p hp => List.mem_append_left _ hp, by simp [encF, hl], fun ρ ρ' F w hf i c r => ?_⟩
    rw [aso] at hf
    cases i with
    | succ i => exact hr' ρ ρ' F w hf i c r
    | zero => exact relT_encC (hr ρ ρ' F w c (hf.mono fun p hp => List.mem_append_left _ hp) (hb _ _ _ _ r))
  | .t τ :: ps, v :: vs, m, K, r, h => by
    cases v <;> simp only [decS] at h <;> try (cases h; done)
    rename_i cs
    split at h <;> try (cases h; done)
    rename_i d hd
    obtain ⟨t, y, h, g', hl, hr'⟩ := decS_sound h
    refine ⟨(d, t), y, h, g', by simp [encF, hl], fun ρ ρ' F w hf i c r => ?_⟩
    cases i with
    | succ i => exact hr' ρ ρ' F w hf i c r
    | zero =>
      simp only [encF, get]
      have e := ofCells_cells hd
      rw [e]
      refine agg_enc (vs := cs) rfl (fun i v' hv => ⟨v', hv, fun c => plain_same (cells_plain τ d v' (by rw [e]; exact List.mem_of_getElem? hv)) c⟩) r
  | .agg ls :: ps, v :: vs, m, K, r, h => by
    cases v <;> simp only [decS] at h <;> try (cases h; done)
    rename_i cs
    obtain ⟨d, x, h, g, hn, hr⟩ := decCs_sound h
    obtain ⟨t, y, h, g', hl, hr'⟩ := decS_sound h
    have aso : m ++ (x ++ y) = m ++ x ++ y := (List.append_assoc _ _ _).symm
    refine ⟨(d, t), x ++ y, by rw [aso]; exact h, by rw [aso]; exact g.append g' fun p hp => List.mem_append_left _ hp, by simp [encF, hl], fun ρ ρ' F w hf i c r => ?_⟩
    rw [aso] at hf
    cases i with
    | succ i => exact hr' ρ ρ' F w hf i c r
    | zero => exact agg_enc hn (hr ρ ρ' F w (hf.mono fun p hp => List.mem_append_left _ hp)) r
  | .box cid ls :: ps, v :: vs, m, K, r, h => by
    obtain ⟨id, rfl⟩ : ∃ id, v = .lptr id 0 := by
      cases v with
      | lptr id off =>
        cases off with
        | zero => exact ⟨id, rfl⟩
        | succ n => simp [decS] at h
      | _ => simp [decS] at h
    simp only [decS] at h
    split at h <;> try (cases h; done)
    rename_i cs hlk
    obtain ⟨d, x, h, g, hn, hr⟩ := decCs_sound h
    obtain ⟨t, y, h, g', hl, hr'⟩ := decS_sound h
    have g0 : Got st (m ++ [(cid, .id id)] ++ x) ([(cid, .id id)] ++ x) ([(cid, .box (encCs ls d))] ++ blkCs ls d) := by
      refine ⟨by simp [g.keys], fun c b hc => ?_, fun c n hc => ?_⟩
      · rcases List.mem_append.mp hc with hc | hc
        · simp at hc; obtain ⟨rfl, rfl⟩ := hc
          exact ⟨.id id, by simp, box_enc hlk hn hr⟩
        · obtain ⟨s, hs, j⟩ := g.blk c b hc
          exact ⟨s, by simp [hs], j⟩
      · rcases List.mem_append.mp hc with hc | hc
        · simp at hc; rw [hc.2, hlk]; simp
        · exact g.src c n hc
    have aso : m ++ (([(cid, .id id)] ++ x) ++ y) = m ++ [(cid, .id id)] ++ x ++ y := by simp
    refine ⟨(d, t), ([(cid, .id id)] ++ x) ++ y, by rw [aso]; exact h, by rw [aso]; simpa [encB] using g0.append g' fun p hp => List.mem_append_left _ hp, by simp [encF, hl], fun ρ ρ' F w hf i c r => ?_⟩
    rw [aso] at hf
    cases i with
    | succ i => exact hr' ρ ρ' F w hf i c r
    | zero =>
      obtain ⟨b, n, hρ, e⟩ := r
      exact ⟨b, n, (hf cid (.id id) (by simp)).trans hρ, e⟩
  | .boxt cid τ :: ps, v :: vs, m, K, r, h => by
    obtain ⟨id, rfl⟩ : ∃ id, v = .lptr id 0 := by
      cases v with
      | lptr id off =>
        cases off with
        | zero => exact ⟨id, rfl⟩
        | succ n => simp [decS] at h
      | _ => simp [decS] at h
    simp only [decS] at h
    split at h <;> try (cases h; done)
    rename_i cs hlk
    split at h <;> try (cases h; done)
    rename_i d hd
    obtain ⟨t, y, h, g', hl, hr'⟩ := decS_sound h
    have e := ofCells_cells hd
    have g0 : Got st (m ++ [(cid, .id id)]) [(cid, .id id)] [(cid, .box (τ.cells d))] := Got.one (box_enc hlk (by rw [e]) fun ρ ρ' F w hf i v' hv => ⟨v', by rw [← e]; exact hv, fun c => plain_same (cells_plain τ d v' (List.mem_of_getElem? hv)) c⟩) (fun n hn => by cases hn; rw [hlk]; simp)
    have aso : m ++ ([(cid, .id id)] ++ y) = m ++ [(cid, .id id)] ++ y := (List.append_assoc _ _ _).symm
    refine ⟨(d, t), [(cid, .id id)] ++ y, by rw [aso]; exact h, by rw [aso]; simpa [encB] using g0.append g' fun p hp => List.mem_append_left _ hp, by simp [encF, hl], fun ρ ρ' F w hf i c r => ?_⟩
    rw [aso] at hf
    cases i with
    | succ i => exact hr' ρ ρ' F w hf i c r
    | zero =>
      obtain ⟨b, n, hρ, e⟩ := r
      exact ⟨b, n, (hf cid (.id id) (by simp)).trans hρ, e⟩

  | .fn g ls :: ps, v :: vs, m, K, r, h => by
    obtain ⟨g', cs, rfl⟩ : ∃ g' cs, v = .fn g' [.sptr cs] := by
      cases v with
      | fn g' cap =>
        cases cap with
        | nil => simp [decS] at h
        | cons x xs =>
          cases xs with
          | cons _ _ => cases x <;> simp [decS] at h
          | nil => cases x <;> first | exact ⟨_, _, rfl⟩ | simp [decS] at h
      | _ => simp [decS] at h
    simp only [decS] at h
    cases hg : Nat.beq g' g <;> simp only [hg, cond_true, cond_false] at h
    · cases h
    have := Nat.eq_of_beq_eq_true hg
    subst this
    simp only [Option.bind_eq_some_iff] at h
    obtain ⟨d, hd, h⟩ := h
    have e := decPs_some hd
    obtain ⟨t, y, h, g1, hl, hr'⟩ := decS_sound h
    refine ⟨(d, t), y, h, g1, by simp [encF, hl], fun ρ ρ' F w hf i c r => ?_⟩
    cases i with
    | succ i => exact hr' ρ ρ' F w hf i c r
    | zero =>
      simp only [encF, get]
      rw [← e]
      exact fn_same r
  | .sp ls :: ps, v :: vs, m, K, r, h => by
    obtain ⟨cs, rfl⟩ : ∃ cs, v = .sptr cs := by
      cases v with
      | sptr cs => exact ⟨_, rfl⟩
      | _ => simp [decS] at h
    simp only [decS, Option.bind_eq_some_iff] at h
    obtain ⟨d, hd, h⟩ := h
    have e := decPs_some hd
    obtain ⟨t, y, h, g1, hl, hr'⟩ := decS_sound h
    refine ⟨(d, t), y, h, g1, by simp [encF, hl], fun ρ ρ' F w hf i c r => ?_⟩
    cases i with
    | succ i => exact hr' ρ ρ' F w hf i c r
    | zero =>
      simp only [encF, get]
      rw [← e]
      exact r

/-! ### The whole state -/
theorem hasKey_not {c : Nat} : ∀ {m : Mp}, hasKey c m = false → ∀ s, (c, s) ∉ m
  | [], _, s, h => by simp at h
  | (k, t) :: r, hk, s, h => by
    simp only [hasKey] at hk
    cases hb : Nat.beq k c <;> simp [hb] at hk
    rcases List.mem_cons.mp h with e | h
    · cases e; simp at hb
    · exact hasKey_not hk s h
theorem hasSrc_not {n : Nat} : ∀ {m : Mp}, hasSrc n m = false → ∀ c, (c, Orig.id n) ∉ m
  | [], _, s, h => by simp at h
  | (k, t) :: r, hk, s, h => by
    simp only [hasSrc] at hk
    cases hb : t.is n <;> simp [hb] at hk
    rcases List.mem_cons.mp h with e | h
    · cases e; simp [Orig.is] at hb
    · exact hasSrc_not hk s h
theorem okMap_spec {p : Nat} : ∀ {m : Mp}, okMap p m = true → (∀ c s s', (c, s) ∈ m → (c, s') ∈ m → s = s') ∧ (∀ c c' n, (c, Orig.id n) ∈ m → (c', Orig.id n) ∈ m → c = c') ∧ (∀ c s, (c, s) ∈ m → c < p → s = .id c)
  | [], _ => ⟨fun c s s' h => by simp at h, fun c c' n h => by simp at h, fun c s h => by simp at h⟩
  | (k, t) :: r, h => by
    simp only [okMap] at h
    cases h1 : hasKey k r <;> simp only [h1, cond_true, cond_false] at h <;> try (cases h; done)
    obtain ⟨h2, h⟩ : (∀ n, t = .id n → hasSrc n r = false) ∧ cond (cond (Nat.blt k p) (t.is k) true) (okMap p r) false = true := by
      cases t with
      | nil t => exact ⟨fun n hn => (by cases hn), h⟩
      | id n =>
        cases h2 : hasSrc n r <;> simp only [h2, cond_true, cond_false] at h
        · exact ⟨fun n' hn => (by cases hn; exact h2), h⟩
        · cases h
    cases h3 : cond (Nat.blt k p) (t.is k) true <;> simp only [h3, cond_true, cond_false] at h <;> try (cases h; done)
    obtain ⟨a, b, c⟩ := okMap_spec h
    have hk := hasKey_not h1
    refine ⟨fun x s s' hs hs' => ?_, fun x x' n hs hs' => ?_, fun x s hs hlt => ?_⟩
    · rcases List.mem_cons.mp hs with e | g
      · cases e
        rcases List.mem_cons.mp hs' with e | g'
        · cases e; rfl
        · exact absurd g' (hk _)
      · rcases List.mem_cons.mp hs' with e | g'
        · cases e; exact absurd g (hk _)
        · exact a x s s' g g'
    · rcases List.mem_cons.mp hs with e | g
      · cases e
        rcases List.mem_cons.mp hs' with e | g'
        · cases e; rfl
        · exact absurd g' (hasSrc_not (h2 n rfl) _)
      · rcases List.mem_cons.mp hs' with e | g'
        · cases e; exact absurd g (hasSrc_not (h2 n rfl) _)
        · exact b x x' n g g'
    · rcases List.mem_cons.mp hs with e | g
      · cases e
        rw [show Nat.blt k p = true by simpa [Nat.blt_eq] using hlt, cond_true] at h3
        cases t with
        | id n => simp only [Orig.is] at h3; rw [Nat.eq_of_beq_eq_true h3]
        | nil t => cases h3
      · exact c x s g hlt
theorem look_mem {σ : Store} {c : Nat} {b : Blk} (h : look σ c = some b) : (c, b) ∈ σ := by
  induction σ with
  | nil => simp [look] at h
  | cons p r ih =>
    obtain ⟨i, b'⟩ := p
    simp only [look] at h
    cases hb : Nat.beq i c <;> simp only [hb, cond_true, cond_false] at h
    · exact List.mem_cons_of_mem _ (ih h)
    · cases h; have := Nat.eq_of_beq_eq_true hb; subst this; simp
theorem look_key {σ : Store} {c : Nat} (h : c ∈ σ.map Prod.fst) : look σ c ≠ none := by
  induction σ with
  | nil => simp at h
  | cons p r ih =>
    obtain ⟨i, b'⟩ := p
    simp only [look]
    cases hb : Nat.beq i c
    · simp only [cond_false]
      refine ih ?_
      simp only [List.map_cons, List.mem_cons] at h
      rcases h with h | h
      · subst h; simp at hb
      · exact h
    · simp
/-- The ids under their new names. -/
noncomputable def renR (ρ : Rho) (m : Mp) : Rho := fun c => by
  classical
  exact if h : ∃ s, (c, s) ∈ m then (Classical.choose h).loc ρ else none
theorem renR_at {p : Nat} {ρ : Rho} {m : Mp} (hm : okMap p m = true) {c : Nat} {s : Orig} (h : (c, s) ∈ m) : renR ρ m c = s.loc ρ := by
  classical
  have he : ∃ s, (c, s) ∈ m := ⟨s, h⟩
  unfold renR
  rw [dif_pos he, (okMap_spec hm).1 c _ s (Classical.choose_spec he) h]
theorem renR_some {p : Nat} {ρ : Rho} {m : Mp} (hm : okMap p m = true) {c : Nat} {l : Loc} (h : renR ρ m c = some l) : ∃ s, (c, s) ∈ m ∧ s.loc ρ = some l := by
  classical
  by_cases he : ∃ s, (c, s) ∈ m
  · obtain ⟨s, hs⟩ := he
    exact ⟨s, hs, by rw [← renR_at hm hs]; exact h⟩
  · unfold renR at h; rw [dif_neg he] at h; cases h
theorem orig_block {ρ : Rho} {s : Orig} {l : Loc} {b : Nat} (h : s.loc ρ = some l) (hb : l.block = some b) : ∃ n, s = .id n ∧ ρ n = some l := by
  cases s with
  | id n => exact ⟨n, rfl, h⟩
  | nil t => cases h; simp [Loc.block] at hb
/-- What a change of names and freezing keep. -/
structure Kept (p : Nat) (ρ : Rho) (F : Nat → Prop) (s : St) (w : World) (ρ' : Rho) (F' : Nat → Prop) (s' : St) : Prop where
  core : Core ρ' F' s'.st w
  dom : Dom ρ' s'.st
  fr : ∀ t x, RelT ρ F w (get s.fr t) x → RelT ρ' F' w (get s'.fr t) x
  mb : ∀ b, ρ'.M b → ρ.M b
  stb : ∀ b, F' b → F b ∨ ρ.M b
  par : ∀ j, j < p → look s'.st j ≠ none → ρ' j = ρ j ∧ look s.st j ≠ none
  len : s'.fr.length = s.fr.length
theorem decK_rel {R : Type} {p : Nat} {ps : List SP} {s : St} {K : densS ps → Option R} {r : R} (h : decK p ps s K = some r) :
    ∃ t, K t = some r ∧ ∀ ρ F w, Core ρ F s.st w → Dom ρ s.st → ∃ ρ' F', Kept p ρ F s w ρ' F' (enc ps t) := by
  unfold decK at h
  obtain ⟨s1, h, i1, _, hfz⟩ := frzAll_sound h
  obtain ⟨t, m, h, g, hl, hr⟩ := decS_sound h
  simp only [List.nil_append] at h
  cases hm : okMap p m <;> simp only [hm, cond_true, cond_false] at h
  · cases h
  obtain ⟨m1, m2, m3⟩ := okMap_spec hm
  refine ⟨t, h, fun ρ F w HC DM => ?_⟩
  obtain ⟨ρ1, F1, fz, _⟩ := hfz ρ F w HC (core_lt HC DM)
  have fit : Fit ρ1 (renR ρ1 m) m := fun c s hs => renR_at hm hs
  have M1 : ∀ b, (renR ρ1 m).M b → ∃ n l, ρ1 n = some l ∧ l.block = some b := by
    rintro b ⟨c, l, hc, hb⟩
    obtain ⟨s, hs, e⟩ := renR_some hm hc
    obtain ⟨n, rfl, e⟩ := orig_block e hb
    exact ⟨n, l, e, hb⟩
  have M2 : ∀ b, (renR ρ1 m).M b → ρ.M b := fun b hb => by
    obtain ⟨n, l, h1, h2⟩ := M1 b hb
    exact ⟨n, l, fz.ids n l h1, h2⟩
  refine ⟨renR ρ1 m, F1, ⟨fun c loc blk h1 h2 => ?_, fun i j li lj b hi hj hbi hbj => ?_, fun b hb => ?_, fz.core.glob⟩, fun c l h1 => ?_, fun i c h => hr ρ1 _ F1 w fit i _ (fz.fr i _ h), M2, fz.stab', fun j hj hk => ?_, hl.trans fz.len⟩
  · obtain ⟨s, hs, j⟩ := g.blk c blk (look_mem h2)
    obtain ⟨s', hs', e⟩ := renR_some hm h1
    have := m1 c s s' hs hs'
    subst this
    exact j ρ1 _ F1 w fit fz.core.heap loc e
  · obtain ⟨si, hsi, ei⟩ := renR_some hm hi
    obtain ⟨sj, hsj, ej⟩ := renR_some hm hj
    obtain ⟨n, rfl, ei⟩ := orig_block ei hbi
    obtain ⟨k, rfl, ej⟩ := orig_block ej hbj
    have := fz.core.inj n k li lj b ei ej hbi hbj
    subst this
    exact m2 i j n hsi hsj
  · refine ⟨(fz.core.stable b hb).1, fun hb' => (fz.core.stable b hb).2 ?_⟩
    obtain ⟨n, l, h1, h2⟩ := M1 b hb'
    exact ⟨n, l, h1, h2⟩
  · obtain ⟨s, hs, e⟩ := renR_some hm h1
    exact look_key (σ := encB ps t) (by rw [← g.keys]; exact List.mem_map.2 ⟨_, hs, rfl⟩)
  · have hmem : j ∈ m.map Prod.fst := by
      rw [g.keys]
      obtain ⟨b, hb⟩ := look_ne hk
      exact List.mem_map.2 ⟨_, look_mem hb, rfl⟩
    obtain ⟨⟨c, s⟩, hs, rfl⟩ := List.mem_map.1 hmem
    have e := m3 c s hs hj
    subst e
    rw [renR_at hm hs]
    have hne := g.src c c hs
    have hni : ¬ (look _ c = none ∨ c ∈ dedup (frzIds _ ps _)) := fun h => hne ((i1 c).2 h)
    simp only [Orig.loc]
    exact ⟨fz.keep c fun h => hni (.inr h), fun h => hni (.inl h)⟩
theorem decK_sound {R : Type} {ps : List SP} {s : St} {K : densS ps → Option R} {r : R} (h : decK 100 ps s K = some r) :
    ∃ t, K t = some r ∧ ∀ C a w, SR C s a w → SR C (enc ps t) a w := by
  obtain ⟨t, h, hr⟩ := decK_rel h
  refine ⟨t, h, fun C a w sr => ?_⟩
  obtain ⟨ρ, F, HC, DM, B, hs⟩ := sr.ex
  obtain ⟨ρ', F', k⟩ := hr ρ F w HC DM
  refine ⟨sr.defers, by rw [k.len]; exact sr.len, ρ', F', k.core, k.dom, ⟨B.chg, fun b hb hlt => B.mb b (k.mb b hb) hlt, fun b hb hlt => ?_, fun j l hj hl0 hk => ?_⟩, fun t => k.fr t _ (hs t)⟩
  · rcases k.stb b hb with h | h
    · exact B.stb b h hlt
    · exact .inr (B.mb b h hlt)
  · obtain ⟨e, h⟩ := k.par j hj hk
    rw [e]; exact B.par j l hj hl0 h
end Ev
end
section
set_option linter.unusedVariables false
set_option linter.unusedSimpArgs false
set_option linter.unnecessarySimpa false
namespace Ev
open Go

/-- The loops of a code are what they are taken for. -/
def LOK {R : Type} (E : Env) (T : Tab) (ann : Nat → Bool) (L : LEnv R) (kr : St → Option R) : Code → Prop
  | .block id (.loop c) => (∃ (ps : List SP) (f : densS ps → (densS ps → Option R) → (densS ps → Option R) → Option R), L id = some (loopL ps f) ∧ ∀ (X : Nat → St → Option R) (rec K : densS ps → Option R) (t : densS ps), ev E T ann L kr c (fun i s => cond (Nat.beq i id) (decK 100 ps s K) (X i s)) (fun s => decK 100 ps s rec) (enc ps t) = f t rec K) ∧ LOK E T ann L kr c
  | .block _ c => LOK E T ann L kr c
  | .seq a b => LOK E T ann L kr a ∧ LOK E T ann L kr b
  | .cond _ a b => LOK E T ann L kr a ∧ LOK E T ann L kr b
  | _ => True

/-- What holds behind a code, of each way out of it. -/
structure Outs {R : Type} (C : Ctx) (r : R) (X : Nat → St → Option R) (K kr : St → Option R) (Q : Exit → Act → World → Prop) : Prop where
  nrm : ∀ s a w, K s = some r → SR C s a w → Q .normal a w
  ex : ∀ i s a w, X i s = some r → SR C s a w → Q (.exit i) a w
  rt : ∀ s a w, kr s = some r → SR C s a w → Q .ret a w
theorem opd_bool {s : St} {a : Act} {w : World} {ρ : Rho} {F : Nat → Prop} {c : Operand} {t : Bool} (h : opd s.fr c = .bool t) (hf : ∀ t, RelT ρ F w (get s.fr t) (a.tmps.getD t undef)) : a.eval c = .bool t := by
  have r := opd_rel (ρ := ρ) (F := F) (w := w) (fr := s.fr) (a := a) c fun t _ => hf t
  rw [h] at r
  exact r
theorem ev_block {R : Type} {E : Env} {T : Tab} {ann : Nat → Bool} {L : LEnv R} {kr : St → Option R} {id : Nat} {c : Code} (hc : ¬ ∃ b, c = .loop b) {X : Nat → St → Option R} {K : St → Option R} {s : St} :
    ev E T ann L kr (.block id c) X K s = ev E T ann L kr c (fun i s => cond (Nat.beq i id) (K s) (X i s)) K s := by
  cases c <;> first | rfl | exact absurd ⟨_, rfl⟩ hc
theorem lok_block {R : Type} {E : Env} {T : Tab} {ann : Nat → Bool} {L : LEnv R} {kr : St → Option R} {id : Nat} {c : Code} (hc : ¬ ∃ b, c = .loop b) (h : LOK E T ann L kr (.block id c)) : LOK E T ann L kr c := by
  cases c <;> first | exact h | exact absurd ⟨_, rfl⟩ hc
theorem ev_sound {R : Type} {P : Program} {E : Env} {T : Tab} (hT : TabOK P T) (hE : EnvOK P E) (hm : P.follows .mixedOrders = true) {ann : Nat → Bool} {L : LEnv R} {kr : St → Option R} {r : R} {C : Ctx} :
    (c : Code) → (X : Nat → St → Option R) → (K : St → Option R) → (s : St) → LOK E T ann L kr c → ev E T ann L kr c X K s = some r → (Q : Exit → Act → World → Prop) → Outs C r X K kr Q → (a : Act) → (w : World) → SR C s a w → c.wp P Q a w
  | .skip, X, K, s, hL, h, Q, O, a, w, hs => wp_skip (O.nrm s a w (by simpa [ev] using h) hs)
  | .region id ops d, X, K, s, hL, h, Q, O, a, w, hs => region_sound hT hE hm h (fun s' a w hk h => O.nrm s' a w hk h) hs
  | .seq c d, X, K, s, hL, h, Q, O, a, w, hs => by
    simp only [ev] at h
    simp only [LOK] at hL
    refine wp_seq (ev_sound hT hE hm c X _ s hL.1 h (Exit.then (d.wp P Q) Q) ⟨fun s' a w hk hs' => ?_, O.ex, O.rt⟩ a w hs)
    exact ev_sound hT hE hm d X K s' hL.2 hk Q O a w hs'
  | .cond c x y, X, K, s, hL, h, Q, O, a, w, hs => by
    simp only [ev] at h
    simp only [LOK] at hL
    split at h <;> try (cases h; done)
    rename_i t ht
    obtain ⟨ρ, F, HC, DM, B, hf⟩ := hs.ex
    refine wp_cond (t := t) (opd_bool ht hf) ?_
    cases t with
    | true => exact ev_sound hT hE hm x X K s hL.1 h Q O a w hs
    | false => exact ev_sound hT hE hm y X K s hL.2 h Q O a w hs
  | .exit id, X, K, s, hL, h, Q, O, a, w, hs => wp_exit (O.ex id s a w (by simpa [ev] using h) hs)
  | .ret, X, K, s, hL, h, Q, O, a, w, hs => wp_ret (O.rt s a w (by simpa [ev] using h) hs)
  | .block id d, X, K, s, hL, h, Q, O, a, w, hs => by
    by_cases hd : ∃ c, d = .loop c
    · obtain ⟨c, rfl⟩ := hd
      simp only [LOK] at hL
      obtain ⟨⟨ps, f, hl, hf⟩, hL⟩ := hL
      simp only [ev, hl, loopL] at h
      obtain ⟨t, h, hsr⟩ := decK_sound h
      replace hs := hsr C a w hs
      refine wp_block (wp_loop_rounds fuel ?_)
      clear hl
      generalize fuel = n at h ⊢
      clear hsr
      induction n generalizing t a w with
      | zero => simp [iterF] at h
      | succ n ih =>
        simp only [iterF] at h
        rw [← hf X] at h
        rw [rounds_succ]
        refine ev_sound hT hE hm c _ _ _ hL h (Exit.then (Code.rounds P c (Exit.inBlock id Q) n) (Exit.inBlock id Q)) ⟨fun s' a' w' hk hs' => ?_, fun i s' a' w' hx hs' => ?_, fun s' a' w' hk hs' => O.rt s' a' w' hk hs'⟩ a w hs
        · obtain ⟨t', hk, hsr'⟩ := decK_sound hk
          exact ih a' w' t' (hsr' C a' w' hs') hk
        · cases hb : Nat.beq i id
          · rw [hb, cond_false] at hx
            have : i ≠ id := fun e => by subst e; simp at hb
            show (if i = id then _ else _)
            rw [if_neg this]
            exact O.ex i s' a' w' hx hs'
          · rw [hb, cond_true] at hx
            obtain ⟨t', hk, hsr'⟩ := decK_sound hx
            have := Nat.eq_of_beq_eq_true hb
            show (if i = id then _ else _)
            rw [if_pos this]
            exact O.nrm _ a' w' hk (hsr' C a' w' hs')
    · rw [ev_block hd] at h
      refine wp_block (ev_sound hT hE hm d _ K s (lok_block hd hL) h (Exit.inBlock id Q) ⟨fun s' a' w' hk hs' => O.nrm s' a' w' hk hs', fun i s' a' w' hx hs' => ?_, fun s' a' w' hk hs' => O.rt s' a' w' hk hs'⟩ a w hs)
      show (if i = id then _ else _)
      cases hb : Nat.beq i id
      · rw [hb, cond_false] at hx
        have : i ≠ id := fun e => by subst e; simp at hb
        rw [if_neg this]
        exact O.ex i s' a' w' hx hs'
      · rw [hb, cond_true] at hx
        have := Nat.eq_of_beq_eq_true hb
        rw [if_pos this]
        exact O.nrm _ a' w' hx hs'
  | .loop _, X, K, s, hL, h, Q, O, a, w, hs => by simp [ev] at h
  | .rangeFunc _ _ _ _, X, K, s, hL, h, Q, O, a, w, hs => by simp [ev] at h
  | .scope _, X, K, s, hL, h, Q, O, a, w, hs => by simp [ev] at h
  | .label _, X, K, s, hL, h, Q, O, a, w, hs => by simp [ev] at h
  | .goto _, X, K, s, hL, h, Q, O, a, w, hs => by simp [ev] at h
  | .refuse _, X, K, s, hL, h, Q, O, a, w, hs => by simp [ev] at h
end Ev
end
section
set_option linter.unusedVariables false
namespace Ev
open Go

def LP.lf : LP → Lf
  | .int _ => .c | .bool => .c | .str => .c | .r t => .r t | .o _ t => .m t | .al _ t => .m t
def SP.sh : SP → Sh
  | .no => .one .c
  | .one l => .one l.lf
  | .t τ => .agg (List.replicate τ.width .c)
  | .agg ls => .agg (ls.map LP.lf)
  | .box _ _ => .one .p
  | .boxt _ _ => .one .p
  | .fn _ _ => .one .f
  | .sp _ => .one .s
def oS : List LP → List SP
  | [] => []
  | .o c t :: ls => .one (.o c t) :: oS ls
  | _ :: ls => oS ls
def oV : List LP → List V
  | [] => []
  | .o c _ :: ls => .own c :: oV ls
  | _ :: ls => oV ls
/-- Those that the callee may write. -/
def muts : List SP → List SP
  | [] => []
  | .one (.o c t) :: ps => .one (.o c t) :: muts ps
  | .box c ls :: ps => .box c ls :: muts ps
  | .boxt c t :: ps => .boxt c t :: muts ps
  | .agg ls :: ps => oS ls ++ muts ps
  | _ :: ps => muts ps
def mvals : List SP → List V
  | [] => []
  | .one (.o c _) :: ps => .own c :: mvals ps
  | .box c _ :: ps => .lptr c 0 :: mvals ps
  | .boxt c _ :: ps => .lptr c 0 :: mvals ps
  | .agg ls :: ps => oV ls ++ mvals ps
  | _ :: ps => mvals ps
def decV : (l : LP) → V → Option l.den
  | .int k, .int k' n => cond (decide (k = k')) (some n) none
  | .bool, .bool b => some b
  | .str, .str s => some s
  | .r t, .lst t' l => castL t' t l
  | _, _ => none
def decVs : (ls : List LP) → List V → Option (dens ls)
  | [], [] => some ()
  | l :: ls, v :: vs => (decV l v).bind fun d => (decVs ls vs).bind fun t => some (d, t)
  | _, _ => none
def decO : (l : LP) → V → Nat → List Blk → Option (l.den × Nat × List Blk)
  | .o c t, v, n, bs => match v, bs with
    | .own j, .rows t' l :: bs => cond (Nat.beq j n && Nat.beq c n) ((castL t' t l).bind fun d => some (d, n + 1, bs)) none
    | _, _ => none
  | .int k, v, n, bs => (decV (.int k) v).bind fun d => some (d, n, bs)
  | .bool, v, n, bs => (decV .bool v).bind fun d => some (d, n, bs)
  | .str, v, n, bs => (decV .str v).bind fun d => some (d, n, bs)
  | .r τ, v, n, bs => (decV (.r τ) v).bind fun d => some (d, n, bs)
  | .al _ _, _, _, _ => none
def decOs : (ls : List LP) → List V → Nat → List Blk → Option (dens ls × Nat × List Blk)
  | [], [], n, bs => some ((), n, bs)
  | l :: ls, v :: vs, n, bs => (decO l v n bs).bind fun x => (decOs ls vs x.2.1 x.2.2).bind fun y => some ((x.1, y.1), y.2.1, y.2.2)
  | _, _, _, _ => none
/-- What is handed in, read to the letter. -/
def decE : (ps : List SP) → List V → Nat → List Blk → Option (densS ps)
  | [], vs, _, bs => match vs, bs with
    | [], [] => some ()
    | _, _ => none
  | .no :: ps, _, _, _ => none
  | .one l :: ps, vs, n, bs => match vs with
    | v :: vs => (decO l v n bs).bind fun x => (decE ps vs x.2.1 x.2.2).bind fun t => some (x.1, t)
    | [] => none
  | .t τ :: ps, vs, n, bs => match vs with
    | .agg cs :: vs => (τ.ofCells cs).bind fun d => (decE ps vs n bs).bind fun t => some (d, t)
    | _ => none
  | .agg ls :: ps, vs, n, bs => match vs with
    | .agg cs :: vs => (decOs ls cs n bs).bind fun d => (decE ps vs d.2.1 d.2.2).bind fun t => some (d.1, t)
    | _ => none
  | .box c ls :: ps, vs, n, bs => match vs, bs with
    | .lptr j 0 :: vs, .box cs :: bs => cond (Nat.beq j n && Nat.beq c n) ((decVs ls cs).bind fun d => (decE ps vs (n + 1) bs).bind fun t => some (d, t)) none
    | _, _ => none
  | .boxt c τ :: ps, vs, n, bs => match vs, bs with
    | .lptr j 0 :: vs, .box cs :: bs => cond (Nat.beq j n && Nat.beq c n) ((τ.ofCells cs).bind fun d => (decE ps vs (n + 1) bs).bind fun t => some (d, t)) none
    | _, _ => none
  | .fn g ls :: ps, vs, n, bs => match vs with
    | .fn g' [.sptr cs] :: vs => cond (Nat.beq g' g) ((decPs ls cs).bind fun d => (decE ps vs n bs).bind fun t => some (d, t)) none
    | _ => none
  | .sp ls :: ps, vs, n, bs => match vs with
    | .sptr cs :: vs => (decPs ls cs).bind fun d => (decE ps vs n bs).bind fun t => some (d, t)
    | _ => none
/-- What a function is taken for, of the function that it computes. -/
def mkE (ps rs : List SP) (sh : Bool) (f : densS ps → Option (densS (muts ps ++ rs))) : Entry :=
  { pars := ps.map SP.sh, res := rs.map SP.sh, shares := sh, muts := match muts ps with | [] => false | _ => true,
    sem := fun R av bs K => (decE ps av 0 bs).bind fun a => (f a).bind fun x => K (pack ((encF (muts ps ++ rs) x).drop (muts ps).length)) ((encB (muts ps ++ rs) x).map Prod.snd) }
def LP.cid : LP → Option Nat
  | .o c _ => some c
  | _ => none
def cids : List SP → List Nat
  | [] => []
  | .one (.o c _) :: ps => c :: cids ps
  | .agg ls :: ps => ls.filterMap LP.cid ++ cids ps
  | .box c ls :: ps => c :: ls.filterMap LP.cid ++ cids ps
  | .boxt c _ :: ps => c :: cids ps
  | _ :: ps => cids ps
/-- The end of a call. -/
def retK (T : Tab) (ps rs : List SP) (rv : List ResultVar) (s : St) : Option (densS (muts ps ++ rs)) :=
  resVs T s rv fun vs => decK (cids ps).length (muts ps ++ rs) ⟨mvals ps ++ vs, s.st⟩ some
noncomputable def runF (E : Env) (T : Tab) (ann : Nat → Bool) (ps rs : List SP) (fn : Func) (L : LEnv (densS (muts ps ++ rs))) (a : densS ps) : Option (densS (muts ps ++ rs)) :=
  match fn.body with
  | some c => ev E T ann L (retK T ps rs fn.results.toList) c (fun _ _ => none) (retK T ps rs fn.results.toList) ⟨encF ps a ++ List.replicate (fn.ntmps - ps.length) .undef, encB ps a⟩
  | none => none
def noNo : List SP → Bool
  | [] => true
  | .no :: _ => false
  | _ :: ps => noNo ps
def seqN : Nat → List Nat → Bool
  | _, [] => true
  | n, c :: cs => Nat.beq c n && seqN (n + 1) cs
end Ev
end
section
set_option linter.unusedVariables false
set_option linter.unusedSimpArgs false
set_option linter.unnecessarySimpa false
namespace Ev
open Go

theorem decV_some {l : LP} {v : V} {d : l.den} (h : decV l v = some d) : v = encC l d ∧ blkC l d = [] := by
  cases l with
  | int k =>
    cases v <;> simp only [decV] at h <;> try (cases h; done)
    rename_i k' n
    by_cases e : k = k'
    · subst e; simp at h; subst h; exact ⟨rfl, rfl⟩
    · simp [e] at h
  | bool => cases v <;> simp only [decV] at h <;> first | (cases h; done) | (cases h; exact ⟨rfl, rfl⟩)
  | str => cases v <;> simp only [decV] at h <;> first | (cases h; done) | (cases h; exact ⟨rfl, rfl⟩)
  | r t =>
    cases v <;> simp only [decV] at h <;> try (cases h; done)
    obtain ⟨e, h⟩ := castL_eq h
    subst e; subst h; exact ⟨rfl, rfl⟩
  | o c t => cases v <;> simp only [decV] at h <;> cases h
  | al c t => cases v <;> simp only [decV] at h <;> cases h
theorem decVs_some : ∀ {ls : List LP} {vs : List V} {d : dens ls}, decVs ls vs = some d → vs = encCs ls d ∧ blkCs ls d = []
  | [], [], d, h => ⟨rfl, rfl⟩
  | l :: ls, v :: vs, d, h => by
    simp only [decVs, Option.bind_eq_some_iff] at h
    obtain ⟨a, h1, b, h2, h⟩ := h
    cases h
    obtain ⟨e1, e2⟩ := decV_some h1
    obtain ⟨e3, e4⟩ := decVs_some h2
    simp [encCs, blkCs, ← e1, e2, ← e3, e4]
  | [], _ :: _, d, h => by simp [decVs] at h
  | _ :: _, [], d, h => by simp [decVs] at h
theorem two_beq {a b n : Nat} (h : (Nat.beq a n && Nat.beq b n) = true) : a = n ∧ b = n := by
  rw [Bool.and_eq_true] at h
  exact ⟨Nat.eq_of_beq_eq_true h.1, Nat.eq_of_beq_eq_true h.2⟩
theorem decO_some {l : LP} {v : V} {n : Nat} {bs : List Blk} {x : l.den × Nat × List Blk} (h : decO l v n bs = some x) : v = encC l x.1 ∧ ∀ σ, enterSt x.2.1 x.2.2 = σ → enterSt n bs = blkC l x.1 ++ σ := by
  cases l with
  | o c t =>
    simp only [decO] at h
    split at h <;> try (cases h; done)
    rename_i j t' l bs
    cases hb : (Nat.beq j n && Nat.beq c n) <;> simp only [hb, cond_true, cond_false] at h
    · cases h
    obtain ⟨rfl, rfl⟩ := two_beq hb
    simp only [Option.bind_eq_some_iff] at h
    obtain ⟨d, h1, h⟩ := h
    cases h
    obtain ⟨e, h1⟩ := castL_eq h1
    subst e; subst h1
    exact ⟨rfl, fun σ e => by subst e; rfl⟩
  | al c t => simp only [decO] at h; cases h
  | _ =>
    simp only [decO, Option.bind_eq_some_iff] at h
    obtain ⟨d, h1, h⟩ := h
    cases h
    obtain ⟨e1, e2⟩ := decV_some h1
    exact ⟨e1, fun σ e => by rw [e2]; exact e⟩
theorem decOs_some : ∀ {ls : List LP} {vs : List V} {n : Nat} {bs : List Blk} {x : dens ls × Nat × List Blk}, decOs ls vs n bs = some x → vs = encCs ls x.1 ∧ ∀ σ, enterSt x.2.1 x.2.2 = σ → enterSt n bs = blkCs ls x.1 ++ σ
  | [], [], n, bs, x, h => by
    simp only [decOs] at h
    cases h
    exact ⟨rfl, fun σ e => e⟩
  | l :: ls, v :: vs, n, bs, x, h => by
    simp only [decOs, Option.bind_eq_some_iff] at h
    obtain ⟨a, h1, b, h2, h⟩ := h
    cases h
    obtain ⟨e1, e2⟩ := decO_some h1
    obtain ⟨e3, e4⟩ := decOs_some h2
    refine ⟨by simp only [encCs]; rw [← e1, ← e3], fun σ e => ?_⟩
    simp only [blkCs, List.append_assoc]
    exact e2 _ (e4 σ e)
  | [], _ :: _, n, bs, x, h => by simp [decOs] at h
  | _ :: _, [], n, bs, x, h => by simp [decOs] at h
theorem decE_some : ∀ {ps : List SP} {vs : List V} {n : Nat} {bs : List Blk} {d : densS ps}, decE ps vs n bs = some d → vs = encF ps d ∧ enterSt n bs = encB ps d ∧ vs.length = ps.length := by
  intro ps
  induction ps with
  | nil =>
    intro vs n bs d h
    cases vs <;> cases bs <;> first | exact ⟨rfl, rfl, rfl⟩ | (simp [decE] at h)
  | cons p ps ih =>
    intro vs n bs d h
    cases p with
    | no => simp [decE] at h
    | one l =>
      simp only [decE] at h
      split at h <;> try (cases h; done)
      simp only [Option.bind_eq_some_iff] at h
      obtain ⟨x, h1, t, h2, h⟩ := h
      cases h
      obtain ⟨e1, e2⟩ := decO_some h1
      obtain ⟨e3, e4, e5⟩ := ih h2
      exact ⟨by rw [e1, e3]; rfl, e2 _ e4, by simp [e5]⟩
    | t τ =>
      simp only [decE] at h
      split at h <;> try (cases h; done)
      simp only [Option.bind_eq_some_iff] at h
      obtain ⟨x, h1, t, h2, h⟩ := h
      cases h
      obtain ⟨e3, e4, e5⟩ := ih h2
      exact ⟨by simp only [encF]; rw [ofCells_cells h1, e3], e4, by simp [e5]⟩
    | agg ls =>
      simp only [decE] at h
      split at h <;> try (cases h; done)
      simp only [Option.bind_eq_some_iff] at h
      obtain ⟨x, h1, t, h2, h⟩ := h
      cases h
      obtain ⟨e1, e2⟩ := decOs_some h1
      obtain ⟨e3, e4, e5⟩ := ih h2
      exact ⟨by simp only [encF]; rw [← e1, e3], e2 _ e4, by simp [e5]⟩
    | box c ls =>
      simp only [decE] at h
      split at h <;> try (cases h; done)
      rename_i j vs cs bs
      cases hb : (Nat.beq j n && Nat.beq c n) <;> simp only [hb, cond_true, cond_false] at h
      · cases h
      obtain ⟨rfl, rfl⟩ := two_beq hb
      simp only [Option.bind_eq_some_iff] at h
      obtain ⟨x, h1, t, h2, h⟩ := h
      cases h
      obtain ⟨e3, e4, e5⟩ := ih h2
      obtain ⟨e1, e2⟩ := decVs_some h1
      refine ⟨by simp only [encF]; rw [e3], ?_, by simp [e5]⟩
      simp only [encB, e2, enterSt, ← e1]
      rw [e4]; rfl
    | boxt c τ =>
      simp only [decE] at h
      split at h <;> try (cases h; done)
      rename_i j vs cs bs
      cases hb : (Nat.beq j n && Nat.beq c n) <;> simp only [hb, cond_true, cond_false] at h
      · cases h
      obtain ⟨rfl, rfl⟩ := two_beq hb
      simp only [Option.bind_eq_some_iff] at h
      obtain ⟨x, h1, t, h2, h⟩ := h
      cases h
      obtain ⟨e3, e4, e5⟩ := ih h2
      refine ⟨by simp only [encF]; rw [e3], ?_, by simp [e5]⟩
      simp only [encB, enterSt, ofCells_cells h1]
      rw [e4]
    | fn g ls =>
      simp only [decE] at h
      split at h <;> try (cases h; done)
      rename_i g' cs vs
      cases hg : Nat.beq g' g <;> simp only [hg, cond_true, cond_false] at h
      · cases h
      have := Nat.eq_of_beq_eq_true hg
      subst this
      simp only [Option.bind_eq_some_iff] at h
      obtain ⟨x, h1, t, h2, h⟩ := h
      cases h
      obtain ⟨e3, e4, e5⟩ := ih h2
      have e1 := decPs_some h1
      exact ⟨by simp only [encF]; rw [← e1, e3], e4, by simp [e5]⟩
    | sp ls =>
      simp only [decE] at h
      split at h <;> try (cases h; done)
      simp only [Option.bind_eq_some_iff] at h
      obtain ⟨x, h1, t, h2, h⟩ := h
      cases h
      obtain ⟨e3, e4, e5⟩ := ih h2
      have e1 := decPs_some h1
      exact ⟨by simp only [encF]; rw [← e1, e3], e4, by simp [e5]⟩
/-! ### Numbers of blocks -/
theorem keysC {l : LP} {d : l.den} : (blkC l d).map Prod.fst = match l with | .o c _ => [c] | _ => [] := by
  cases l <;> rfl
theorem keysCs : ∀ {ls : List LP} {d : dens ls}, (blkCs ls d).map Prod.fst = ls.filterMap LP.cid
  | [], d => rfl
  | l :: ls, d => by
    simp only [blkCs, List.map_append, keysC, keysCs, List.filterMap_cons]
    cases l <;> rfl
theorem keysS : ∀ {ps : List SP} {d : densS ps}, (encB ps d).map Prod.fst = cids ps
  | [], d => rfl
  | .no :: ps, d => keysS (ps := ps)
  | .one l :: ps, d => by
    simp only [encB, List.map_append, keysC, keysS (ps := ps)]
    cases l <;> rfl
  | .t τ :: ps, d => keysS (ps := ps)
  | .agg ls :: ps, d => by simp only [encB, List.map_append, keysCs, keysS (ps := ps), cids]
  | .box c ls :: ps, d => by simp only [encB, List.map_append, List.map_cons, keysCs, keysS (ps := ps), cids]
  | .boxt c τ :: ps, d => by simp only [encB, List.map_cons, keysS (ps := ps), cids]
  | .fn _ _ :: ps, d => keysS (ps := ps)
  | .sp _ :: ps, d => keysS (ps := ps)
theorem seqN_enter : ∀ {σ : Store} {n : Nat}, seqN n (σ.map Prod.fst) = true → enterSt n (σ.map Prod.snd) = σ
  | [], n, _ => rfl
  | (i, b) :: σ, n, h => by
    simp only [List.map_cons, seqN, Bool.and_eq_true] at h
    have := Nat.eq_of_beq_eq_true h.1
    subst this
    simp only [List.map_cons, enterSt, seqN_enter h.2]
theorem encF_len : ∀ {ps : List SP} {d : densS ps}, (encF ps d).length = ps.length
  | [], d => rfl
  | .no :: ps, d => by simp only [encF, List.length_cons, encF_len]
  | .one l :: ps, d => by simp only [encF, List.length_cons, encF_len]
  | .t τ :: ps, d => by simp only [encF, List.length_cons, encF_len]
  | .agg ls :: ps, d => by simp only [encF, List.length_cons, encF_len]
  | .box c ls :: ps, d => by simp only [encF, List.length_cons, encF_len]
  | .boxt c τ :: ps, d => by simp only [encF, List.length_cons, encF_len]
  | .fn _ _ :: ps, d => by simp only [encF, List.length_cons, encF_len]
  | .sp _ :: ps, d => by simp only [encF, List.length_cons, encF_len]
theorem relT_encF {ρ : Rho} {F : Nat → Prop} {w : World} {c : Value} : ∀ {ps : List SP} {d : densS ps} {i : Nat}, RelT ρ F w (get (encF ps d) i) c → RelA ρ F w (get (encF ps d) i) c
  | [], d, i, h => by cases i <;> exact h
  | p :: ps, d, i + 1, h => by
    cases p <;> exact relT_encF (ps := ps) (i := i) h
  | p :: ps, d, 0, h => by
    cases p with
    | one l => cases l <;> exact h
    | _ => exact h
theorem oV_len : ∀ {ls : List LP}, (oV ls).length = (oS ls).length
  | [] => rfl
  | l :: ls => by cases l <;> simp only [oV, oS, List.length_cons, oV_len (ls := ls)]
theorem mvals_len : ∀ {ps : List SP}, (mvals ps).length = (muts ps).length
  | [] => rfl
  | .no :: ps => mvals_len (ps := ps)
  | .one l :: ps => by cases l <;> simp only [mvals, muts, List.length_cons, mvals_len (ps := ps)]
  | .t _ :: ps => mvals_len (ps := ps)
  | .agg ls :: ps => by simp only [mvals, muts, List.length_append, oV_len, mvals_len (ps := ps)]
  | .box _ _ :: ps => by simp only [mvals, muts, List.length_cons, mvals_len (ps := ps)]
  | .boxt _ _ :: ps => by simp only [mvals, muts, List.length_cons, mvals_len (ps := ps)]
  | .fn _ _ :: ps => mvals_len (ps := ps)
  | .sp _ :: ps => mvals_len (ps := ps)

/-! ### The end of a call -/
def resG (tmps : Array Value) : ResultVar → Sem Value
  | .tmp t => pure (tmps.getD t undef)
  | .cell a t => do loadVar t (← asAddr (tmps.getD a undef))
def packC (cs : List Value) : Value := if h : cs.toArray.size = 1 then cs.toArray[0] else .tuple cs.toArray
theorem results_run {fn : Func} {tmps : Array Value} {P : Program} {w : World} {cs : List Value} (h : (fn.results.toList.mapM (resG tmps)).run P w = .ok cs w) : (results fn tmps).run P w = .ok (packC cs) w := by
  have e : (fn.results.mapM (resG tmps)) = List.toArray <$> fn.results.toList.mapM (resG tmps) := by
    rw [← List.mapM_toArray]
  have e2 : results fn tmps = (do let vs ← fn.results.mapM (resG tmps); pure (if h : vs.size = 1 then vs[0] else .tuple vs)) := by
    unfold results
    congr 1
  rw [e2, e]
  simp [h, packC]
theorem resVs_sound {R : Type} {P : Program} {T : Tab} (hT : TabOK P T) {s : St} : ∀ {rv : List ResultVar} {K : List V → Option R} {r : R}, resVs T s rv K = some r → ∃ vs, K vs = some r ∧ vs.length = rv.length ∧
    ∀ ρ F w (tmps : Array Value), Core ρ F s.st w → (∀ t, RelT ρ F w (get s.fr t) (tmps.getD t undef)) → ∃ cs : List Value, (rv.mapM (resG tmps)).run P w = .ok cs w ∧ cs.length = vs.length ∧ ∀ (i : Nat) v, vs[i]? = some v → ∃ c, cs[i]? = some c ∧ RelT ρ F w v c
  | [], K, r, h => ⟨[], h, rfl, fun ρ F w tmps _ _ => ⟨[], by simp, rfl, fun i v hv => by simp at hv⟩⟩
  | .tmp t :: rs, K, r, h => by
    simp only [resVs] at h
    obtain ⟨vs, hk, hl, hr⟩ := resVs_sound hT h
    refine ⟨_, hk, by simp [hl], fun ρ F w tmps H hf => ?_⟩
    obtain ⟨cs, h1, h2, h3⟩ := hr ρ F w tmps H hf
    refine ⟨tmps.getD t undef :: cs, by simp [resG, h1], by simp [h2], fun i v hv => ?_⟩
    cases i with
    | zero => simp at hv; subst hv; exact ⟨_, rfl, hf t⟩
    | succ i => simpa using h3 i v (by simpa using hv)
  | .cell a t :: rs, K, r, h => by
    simp only [resVs] at h
    split at h <;> try (cases h; done)
    rename_i ti hti
    have hptr : ∀ ρ F w c, RelT ρ F w (get s.fr a) c → ∃ ad, c = .pointer (some ad) := by
      intro ρ F w c r
      unfold loadP at h
      split at h <;> rename_i hx
      · rw [hx] at r; obtain ⟨b, s, e, _⟩ := r; exact ⟨_, e⟩
      · rw [hx] at r; obtain ⟨b, s, _, e⟩ := r; exact ⟨_, e⟩
      · rw [hx] at r; obtain ⟨t, b, s, len, cap, _, _, e⟩ := r; exact ⟨_, e⟩
      · cases h
    obtain ⟨x, hk, hx⟩ := loadP_sound (P := P) (hT _ _ hti).1.size (hT _ _ hti).1.agg h
    obtain ⟨vs, hk, hl, hr⟩ := resVs_sound hT hk
    refine ⟨_, hk, by simp [hl], fun ρ F w tmps H hf => ?_⟩
    obtain ⟨cs, h1, h2, h3⟩ := hr ρ F w tmps H hf
    obtain ⟨c, hc, rc⟩ := hx ρ F w _ H (hf a)
    obtain ⟨ad, had⟩ := hptr ρ F w _ (hf a)
    have hg : (resG tmps (.cell a t)).run P w = .ok c w := by
      show (do loadVar t (← asAddr (tmps.getD a undef)) : Sem Value).run P w = _
      rw [had] at hc ⊢
      simpa [Instr.loadAt, Instr.sureAddr, asAddr] using hc
    refine ⟨c :: cs, by simp [hg, h1], by simp [h2], fun i v hv => ?_⟩
    cases i with
    | zero => simp at hv; subst hv; exact ⟨_, rfl, rc⟩
    | succ i => simpa using h3 i v (by simpa using hv)
/-- What is found at the end of a call. -/
theorem pack_rel {ρ : Rho} {F : Nat → Prop} {w : World} {vs : List V} {cs : List Value} (hl : vs.length = cs.length)
    (h : ∀ (i : Nat) c, cs[i]? = some c → ∃ v, vs[i]? = some v ∧ RelT ρ F w v c ∧ RelA ρ F w v c) : RelT ρ F w (pack vs) (packC cs) := by
  by_cases hn : cs.length = 1
  · match cs, hn with
    | [c], _ =>
      obtain ⟨v, hv, r, _⟩ := h 0 c rfl
      match vs, hl, hv with
      | [x], _, hv => simp at hv; subst hv; exact r
  · have hp : pack vs = .tup vs := by
      match vs, hl with
      | [], _ => rfl
      | [x], hl => exact absurd (by simpa using hl.symm) hn
      | _ :: _ :: _, _ => rfl
    have hq : packC cs = .tuple cs.toArray := by
      unfold packC
      rw [dif_neg (by simpa using hn)]
    rw [hp, hq]
    refine ⟨_, rfl, by simp [hl], fun i v hv => ?_⟩
    have hi : i < cs.length := by have := (List.getElem?_eq_some_iff.mp hv).1; omega
    obtain ⟨v', hv', _, r⟩ := h i cs[i] (by simp)
    rw [hv] at hv'; cases hv'
    exact ⟨_, by simp, r⟩
theorem get_eq {l : List V} {i : Nat} {v : V} (h : l[i]? = some v) : get l i = v := by
  induction l generalizing i with
  | nil => simp at h
  | cons x l ih =>
    cases i with
    | zero => simpa [get] using h
    | succ i => exact ih (by simpa using h)
theorem get_app {l m : List V} {i : Nat} : get (l ++ m) (l.length + i) = get m i := by
  induction l with
  | nil => simp
  | cons x l ih => rw [List.length_cons, show l.length + 1 + i = (l.length + i) + 1 by omega]; exact ih
theorem get_undef {n i : Nat} : get (List.replicate n V.undef) i = .undef := by
  induction n generalizing i with
  | zero => rfl
  | succ n ih => cases i with | zero => rfl | succ i => exact ih
theorem ret_sound {ps rs : List SP} {fn : Func} {P : Program} {T : Tab} (hT : TabOK P T) {s : St} {x : densS (muts ps ++ rs)} (h : retK T ps rs fn.results.toList s = some x) (hq : seqN 0 (cids (muts ps ++ rs)) = true)
    (hc : (cids ps).length ≤ (cids (muts ps ++ rs)).length) (hm : (cids ps).length ≤ 100)
    {w0 : World} {F0 : Nat → Prop} {ρ0 : Rho} (h0 : ∀ id l, ρ0 id = some l → id < (cids ps).length) {a : Act} {w : World} (hs : SR ⟨w0, F0, ρ0⟩ s a w) :
    a.defers = [] ∧ ∃ c, (results fn a.tmps).run P w = .ok c w ∧ ∃ ρ1 F1, Core ρ1 F1 (enterSt 0 ((encB (muts ps ++ rs) x).map Prod.snd)) w ∧ (∀ id l, ρ0 id = some l → ρ1 id = some l) ∧
      (∀ id l, ρ1 id = some l → id < ((encB (muts ps ++ rs) x).map Prod.snd).length) ∧ RelT ρ1 F1 w (pack ((encF (muts ps ++ rs) x).drop (muts ps).length)) c ∧ Chg ρ0.M w0 w ∧
      (∀ b, ρ1.M b → ρ0.M b ∨ w0.heap.size ≤ b) ∧ (∀ b, F1 b → F0 b ∨ w0.heap.size ≤ b) := by
  refine ⟨hs.defers, ?_⟩
  unfold retK at h
  obtain ⟨vs, h, hvl, hvs⟩ := resVs_sound hT h
  obtain ⟨y, e, hk⟩ := decK_rel h
  cases e
  obtain ⟨ρ, F, HC, DM, B, hf⟩ := hs.ex
  obtain ⟨ρ1, F1, k⟩ := hk ρ F w HC DM
  have hst : enterSt 0 ((encB (muts ps ++ rs) x).map Prod.snd) = encB (muts ps ++ rs) x := seqN_enter (by rw [keysS]; exact hq)
  have hlen : (encB (muts ps ++ rs) x).length = (cids (muts ps ++ rs)).length := by rw [← keysS (d := x), List.length_map]
  obtain ⟨cs, hr, hcl, hcs⟩ := hvs ρ F w a.tmps HC hf
  have sub : ∀ id l, ρ0 id = some l → ρ1 id = some l := fun id l hl => by
    have hid := h0 id l hl
    have hne : look (encB (muts ps ++ rs) x) id ≠ none := by
      rw [← hst, look_enter0]
      simp; omega
    obtain ⟨e, hne'⟩ := k.par id hid hne
    rw [e]
    exact B.par id l (by omega) hl hne'
  refine ⟨packC cs, results_run hr, ρ1, F1, by rw [hst]; exact k.core, sub, fun id l hl => ?_, ?_, B.chg, fun b hb => ?_, fun b hb => ?_⟩
  · have := k.dom id l hl
    have h2 : look (enterSt 0 ((encB (muts ps ++ rs) x).map Prod.snd)) id ≠ none := by rw [hst]; exact this
    rw [look_enter0] at h2
    cases hx : ((encB (muts ps ++ rs) x).map Prod.snd)[id]? with
    | none => exact absurd hx h2
    | some b => exact (List.getElem?_eq_some_iff.mp hx).1
  · have hl : (encF (muts ps ++ rs) x).length = (mvals ps).length + vs.length := by
      have := k.len
      simpa [enc] using this
    refine pack_rel (by rw [List.length_drop, hl, mvals_len]; omega) (fun i c hc => ?_)
    have hi : i < vs.length := by have := (List.getElem?_eq_some_iff.mp hc).1; omega
    have hv : (encF (muts ps ++ rs) x)[(mvals ps).length + i]? = some ((encF (muts ps ++ rs) x)[(mvals ps).length + i]'(by omega)) := by simp
    refine ⟨_, by rw [List.getElem?_drop, ← mvals_len]; exact hv, ?_⟩
    obtain ⟨c', hc', rc⟩ := hcs i vs[i] (by simp)
    rw [hc] at hc'; cases hc'
    have r := k.fr ((mvals ps).length + i) c (by
      rw [get_app]
      rw [get_eq (v := vs[i]) (by simp)]
      exact rc)
    have r' := relT_encF r
    simp only [enc] at r r'
    rw [get_eq hv] at r r'
    exact ⟨r, r'⟩
  · by_cases hlt : b < w0.heap.size
    · exact .inl (B.mb b (k.mb b hb) hlt)
    · exact .inr (by omega)
  · by_cases hlt : b < w0.heap.size
    · left
      have key : ρ0.M b → F0 b := fun ⟨id, l, hl, hb'⟩ => absurd ⟨id, l, sub id l hl, hb'⟩ (k.core.stable b hb).2
      rcases k.stb b hb with h | h
      · rcases B.stb b h hlt with h | h
        · exact h
        · exact key h
      · exact key (B.mb b h hlt)
    · exact .inr (by omega)
/-- A function is what it is taken for, if the evaluator says so of its body. -/
theorem run_ok {P : Program} {E : Env} {T : Tab} (hT : TabOK P T) (hE : EnvOK P E) (hm : P.follows .mixedOrders = true) {ann : Nat → Bool} {f : Nat} {fn : Func} {c : Code} {ps rs : List SP} {sh : Bool}
    {L : LEnv (densS (muts ps ++ rs))} {G : densS ps → Option (densS (muts ps ++ rs))} (hf : P.funcs[f]? = some fn) (hb : fn.body = some c)
    (hq : (seqN 0 (cids (muts ps ++ rs)) && Nat.ble (cids ps).length (cids (muts ps ++ rs)).length && Nat.ble (cids ps).length 100) = true)
    (hL : LOK E T ann L (retK T ps rs fn.results.toList) c) (h : ∀ a, runF E T ann ps rs fn L a = G a) : EntOK P f (mkE ps rs sh G) := by
  intro R av bs K r hk
  simp only [mkE, Option.bind_eq_some_iff] at hk
  obtain ⟨a, h1, x, h2, hk⟩ := hk
  refine ⟨_, _, hk, ?_⟩
  obtain ⟨e1, e2, e3⟩ := decE_some h1
  rw [← h a] at h2
  unfold runF at h2
  rw [hb] at h2
  simp only at h2
  simp only [Bool.and_eq_true] at hq
  obtain ⟨⟨q1, q2⟩, q3⟩ := hq
  intro w F0 ρ0 ca HC hid hsz hv
  have hbl : bs.length = (cids ps).length := by
    rw [← keysS (d := a), ← e2, List.length_map]
    have : ∀ (bs : List Blk) n, (enterSt n bs).length = bs.length := by
      intro bs; induction bs with
      | nil => intro n; rfl
      | cons b bs ih => intro n; simp [enterSt, ih]
    rw [this]
  refine calls_of_wp hf hb ?_
  have h0 : ∀ id l, ρ0 id = some l → id < (cids ps).length := fun id l hl => by rw [← hbl]; exact hid id l hl
  have hret : ∀ s a' w', retK T ps rs fn.results.toList s = some x → SR ⟨w, F0, ρ0⟩ s a' w' → bodyPost P fn (fun en w' => ∃ c ρ1 F1, en = .returned c ∧ Core ρ1 F1 (enterSt 0 ((encB (muts ps ++ rs) x).map Prod.snd)) w' ∧ (∀ id l, ρ0 id = some l → ρ1 id = some l) ∧
      (∀ id l, ρ1 id = some l → id < ((encB (muts ps ++ rs) x).map Prod.snd).length) ∧ RelT ρ1 F1 w' (pack ((encF (muts ps ++ rs) x).drop (muts ps).length)) c ∧ Chg ρ0.M w w' ∧ (∀ b, ρ1.M b → ρ0.M b ∨ w.heap.size ≤ b) ∧ (∀ b, F1 b → F0 b ∨ w.heap.size ≤ b)) .ret a' w' := by
    intro s a' w' hr hs
    obtain ⟨g1, c, g2, ρ1, F1, g3⟩ := ret_sound (P := P) hT hr q1 (by simpa using q2) (by simpa using q3) h0 hs
    exact ⟨g1, c, g2, c, ρ1, F1, rfl, g3⟩
  refine ev_sound hT hE hm (r := x) (C := ⟨w, F0, ρ0⟩) c _ _ _ hL h2 _ ⟨fun s a' w' hr hs => hret s a' w' hr hs, fun i s a' w' hx => (by cases hx), fun s a' w' hr hs => hret s a' w' hr hs⟩ _ _ ?_
  refine ⟨rfl, ?_, ρ0, F0, by rw [← e2]; exact HC, fun id l hl => ?_, ⟨Chg.refl _ _, fun b h _ => h, fun b h _ => .inl h, fun j l _ h _ => h⟩, fun t => ?_⟩
  · simp only [List.length_append, List.length_replicate, encF_len, Array.size_append, Array.size_replicate]
    omega
  · simp only
    rw [← e2, look_enter0]
    have := hid id l hl
    simp; omega
  · simp only
    rw [← e1]
    by_cases ht : t < av.length
    · have hg : get (av ++ List.replicate (fn.ntmps - ps.length) V.undef) t = av[t] := get_eq (by rw [List.getElem?_append_left ht]; simp)
      obtain ⟨c, hc, r⟩ := hv t av[t] (by simp)
      have hlt : t < ca.size := by omega
      have hgd : (ca ++ Array.replicate (fn.ntmps - ca.size) undef).getD t undef = c := by
        simp [Array.getElem?_append_left hlt, hc]
      rw [hg, hgd]
      have hrel := relT_encF (ps := ps) (d := a) (i := t) (ρ := ρ0) (F := F0) (w := w) (c := c)
      generalize hz : av[t] = z at r
      cases z <;> first | exact r | exact r.elim
    · obtain ⟨k, rfl⟩ : ∃ k, t = av.length + k := ⟨t - av.length, by omega⟩
      rw [get_app, get_undef]
      trivial
end Ev
end
section
set_option linter.unusedVariables false
set_option linter.unusedSimpArgs false
namespace Ev
open Go

structure OK (P : Program) (f : Nat) (e : Entry) : Prop where
  ent : EntOK P f e
  fn : ∃ fn, P.funcs[f]? = some fn ∧ fn.body.isNone = false ∧ fn.name ≠ "runtime.NumGoroutine"
def envL : List (Nat × Entry) → Env
  | [], _ => none
  | (i, e) :: r, n => cond (Nat.beq i n) (some e) (envL r n)
def OKs (P : Program) : List (Nat × Entry) → Prop
  | [] => True
  | (i, e) :: r => OK P i e ∧ OKs P r
theorem OKs.nil {P : Program} : OKs P [] := trivial
theorem OKs.cons {P : Program} {i : Nat} {e : Entry} {r : List (Nat × Entry)} (h : OK P i e) (k : OKs P r) : OKs P ((i, e) :: r) := ⟨h, k⟩
theorem envL_at {P : Program} : ∀ {l : List (Nat × Entry)}, OKs P l → ∀ f e, envL l f = some e → OK P f e
  | [], _, f, e, h => by simp [envL] at h
  | (i, x) :: r, h, f, e, he => by
    simp only [envL] at he
    cases hb : Nat.beq i f <;> simp only [hb, cond_true, cond_false] at he
    · exact envL_at h.2 f e he
    · cases he; have := Nat.eq_of_beq_eq_true hb; subst this; exact h.1
theorem envL_ok {P : Program} {l : List (Nat × Entry)} (h : OKs P l) : EnvOK P (envL l) := ⟨fun f e he => (envL_at h f e he).ent, fun f e he => (envL_at h f e he).fn⟩
def lenv {R : Type} : List (Nat × (St → (St → Option R) → Option R)) → LEnv R
  | [], _ => none
  | (i, l) :: r, n => cond (Nat.beq i n) (some l) (lenv r n)
def loopsOf : Code → List (Nat × Code)
  | .block id (.loop c) => (id, c) :: loopsOf c
  | .block _ c => loopsOf c
  | .seq a b => loopsOf a ++ loopsOf b
  | .cond _ a b => loopsOf a ++ loopsOf b
  | _ => []
def loopC (fn : Func) (k : Nat) : Code := match fn.body with
  | some c => match (loopsOf c)[k]? with
    | some p => p.2
    | none => .skip
  | none => .skip
def LoopP {R : Type} (E : Env) (T : Tab) (ann : Nat → Bool) (L : LEnv R) (kr : St → Option R) (id : Nat) (c : Code) : Prop :=
  ∃ (ps : List SP) (f : densS ps → (densS ps → Option R) → (densS ps → Option R) → Option R), L id = some (loopL ps f) ∧
    ∀ (X : Nat → St → Option R) (rec K : densS ps → Option R) (t : densS ps), ev E T ann L kr c (fun i s => cond (Nat.beq i id) (decK 100 ps s K) (X i s)) (fun s => decK 100 ps s rec) (enc ps t) = f t rec K
def LoopsP {R : Type} (E : Env) (T : Tab) (ann : Nat → Bool) (L : LEnv R) (kr : St → Option R) : List (Nat × Code) → Prop
  | [] => True
  | (id, c) :: r => LoopP E T ann L kr id c ∧ LoopsP E T ann L kr r
section
variable {R : Type} {E : Env} {T : Tab} {ann : Nat → Bool} {L : LEnv R} {kr : St → Option R}
theorem LoopsP.nil : LoopsP E T ann L kr [] := trivial
theorem LoopsP.cons {id : Nat} {c : Code} {r : List (Nat × Code)} (ps : List SP) (f : densS ps → (densS ps → Option R) → (densS ps → Option R) → Option R) (h : L id = some (loopL ps f))
    (k : ∀ (X : Nat → St → Option R) (rec K : densS ps → Option R) (t : densS ps), ev E T ann L kr c (fun i s => cond (Nat.beq i id) (decK 100 ps s K) (X i s)) (fun s => decK 100 ps s rec) (enc ps t) = f t rec K)
    (m : LoopsP E T ann L kr r) : LoopsP E T ann L kr ((id, c) :: r) := ⟨⟨ps, f, h, k⟩, m⟩
theorem loopsP_app {a b : List (Nat × Code)} (h : LoopsP E T ann L kr (a ++ b)) : LoopsP E T ann L kr a ∧ LoopsP E T ann L kr b := by
  induction a with
  | nil => exact ⟨trivial, h⟩
  | cons p a ih => obtain ⟨i, c⟩ := p; exact ⟨⟨h.1, (ih h.2).1⟩, (ih h.2).2⟩
theorem lok_of : (c : Code) → LoopsP E T ann L kr (loopsOf c) → LOK E T ann L kr c
  | .skip, _ => trivial
  | .region .., _ => trivial
  | .seq a b, h => ⟨lok_of a (loopsP_app h).1, lok_of b (loopsP_app h).2⟩
  | .cond _ a b, h => ⟨lok_of a (loopsP_app h).1, lok_of b (loopsP_app h).2⟩
  | .exit _, _ => trivial
  | .ret, _ => trivial
  | .block id c, h => by
    by_cases hc : ∃ b, c = .loop b
    · obtain ⟨b, rfl⟩ := hc
      exact ⟨h.1, lok_of b h.2⟩
    · have e : loopsOf (.block id c) = loopsOf c := by cases c <;> first | rfl | exact absurd ⟨_, rfl⟩ hc
      have e2 : LOK E T ann L kr (.block id c) = LOK E T ann L kr c := by cases c <;> first | rfl | exact absurd ⟨_, rfl⟩ hc
      rw [e] at h
      rw [e2]
      exact lok_of c h
  | .loop _, _ => trivial
  | .rangeFunc _ _ _ _, _ => trivial
  | .scope _, _ => trivial
  | .label _, _ => trivial
  | .goto _, _ => trivial
  | .refuse _, _ => trivial
end
theorem fn_ok {P : Program} {E : Env} {T : Tab} (hT : TabOK P T) (hE : EnvOK P E) (hm : P.follows .mixedOrders = true) {ann : Nat → Bool} {f : Nat} {fn : Func} {c : Code} {ps rs : List SP} {sh : Bool}
    {L : LEnv (densS (muts ps ++ rs))} {G : densS ps → Option (densS (muts ps ++ rs))} (hf : P.funcs[f]? = some fn) (hb : fn.body = some c)
    (hq : (seqN 0 (cids (muts ps ++ rs)) && Nat.ble (cids ps).length (cids (muts ps ++ rs)).length && Nat.ble (cids ps).length 100) = true)
    (hn : decide (fn.name = "runtime.NumGoroutine") = false)
    {ls : List (Nat × Code)} (hl : loopsOf c = ls) (hL : LoopsP E T ann L (retK T ps rs fn.results.toList) ls) (h : ∀ a, runF E T ann ps rs fn L a = G a) : OK P f (mkE ps rs sh G) :=
  ⟨run_ok hT hE hm hf hb hq (lok_of c (by rw [hl]; exact hL)) h, fn, hf, by rw [hb]; rfl, of_decide_eq_false hn⟩
def bodyC (fn : Func) : Code := match fn.body with
  | some c => c
  | none => .skip
def w64 (n : Int) : Int := IntKind.wrap .i64 n
def noFlat : Tab → Bool
  | [] => true
  | (_, ti) :: r => cond ti.flat false (noFlat r)
theorem noFlat_at : ∀ {T : Tab}, noFlat T = true → ∀ t ti, T.get t = some ti → ti.flat = false
  | [], _, t, ti, h => by simp [Tab.get] at h
  | (i, x) :: r, hb, t, ti, h => by
    simp only [noFlat] at hb
    cases hx : x.flat <;> simp [hx] at hb
    simp only [Tab.get] at h
    cases he : Nat.beq i t <;> simp [he] at h
    · exact noFlat_at hb t ti h
    · subst h; exact hx
theorem tab_of {P : Program} {T : Tab} (h : tabB P T = true) (k : noFlat T = true) : TabOK P T := fun t ti ht => ⟨tabB_ok h t ti ht, fun hf => by rw [noFlat_at k t ti ht] at hf; cases hf⟩
end Ev
end
section
set_option linter.unusedVariables false
set_option linter.unusedSimpArgs false
namespace Ev
open Go
def eqFs (P : Program) (rec : TypeId → Option (List V)) : Nat → List Field → Option (List V)
  | _, [] => some []
  | off, f :: fs => cond (decide (f.name = "_")) none (cond (Nat.beq f.offset off) ((rec f.type).bind fun z => cond (sizeB P f.type z.length) ((eqFs P rec (off + z.length) fs).map fun r => z ++ r) none) none)
/-- The cells of a type whose values are equal if their cells are, as zeros. -/
def eqZ (P : Program) : Nat → TypeId → Option (List V)
  | 0, _ => none
  | n + 1, t => match P.underlying t with
    | some (.int k) => some [.int k 0]
    | some .bool => some [.bool false]
    | some .string => some [.str []]
    | some (.struct fs) => cond (P.stoodInHeld t) none (eqFs P (eqZ P n) 0 fs.toList)
    | _ => none
/-- The value of a type that has these cells. -/
def Made (P : Program) (t : TypeId) (us : List V) (c : Value) : Prop := ∃ ag, IsAgg P t ag ∧ match ag with
  | true => ∃ xs : Array Value, c = .agg xs ∧ xs.toList = us.map sv
  | false => ∃ u, us = [u] ∧ c = sv u
theorem fits_len : ∀ {zs us : List V}, fits zs us = true → us.length = zs.length
  | [], [], _ => rfl
  | [], _ :: _, h => by simp [fits] at h
  | z :: zs, [], h => by cases z <;> simp [fits] at h
  | z :: zs, u :: us, h => by
    have : fits zs us = true := by
      cases z <;> cases u <;> simp only [fits, Bool.and_eq_true] at h <;> first | exact h.2 | exact h | cases h
    simp [fits_len this]
theorem fits_app : ∀ {z r us : List V}, fits (z ++ r) us = true → ∃ u1 u2, us = u1 ++ u2 ∧ fits z u1 = true ∧ fits r u2 = true
  | [], r, us, h => ⟨[], us, rfl, rfl, h⟩
  | x :: z, r, [], h => by cases x <;> simp [fits] at h
  | x :: z, r, u :: us, h => by
    have : fits (z ++ r) us = true := by
      cases x <;> cases u <;> simp only [List.cons_append, fits, Bool.and_eq_true] at h <;> first | exact h.2 | exact h | cases h
    obtain ⟨u1, u2, rfl, h1, h2⟩ := fits_app this
    refine ⟨u :: u1, u2, rfl, ?_, h2⟩
    cases x <;> cases u <;> simp only [List.cons_append, fits, Bool.and_eq_true] at h ⊢ <;> first | exact ⟨h.1, h1⟩ | exact h1 | cases h
theorem fits_trans : ∀ {a b c : List V}, fits a b = true → fits b c = true → fits a c = true
  | [], [], c, _, h => h
  | [], _ :: _, _, h, _ => by simp [fits] at h
  | x :: a, [], _, h, _ => by cases x <;> simp [fits] at h
  | x :: a, y :: b, [], _, h => by cases y <;> simp [fits] at h
  | x :: a, y :: b, z :: c, h, k => by
    cases x <;> cases y <;> simp only [fits, Bool.and_eq_true, decide_eq_true_eq] at h <;> try (cases h; done)
    all_goals
      cases z <;> simp only [fits, Bool.and_eq_true, decide_eq_true_eq] at k ⊢ <;> try (cases k; done)
    · exact ⟨h.1.trans k.1, fits_trans h.2 k.2⟩
    · exact fits_trans h k
    · exact fits_trans h k
theorem eqV_app : ∀ {u1 v1 u2 v2 : List V} {b : Bool}, u1.length = v1.length → eqV (u1 ++ u2) (v1 ++ v2) = some b → ∃ b1 b2, eqV u1 v1 = some b1 ∧ eqV u2 v2 = some b2 ∧ b = (b1 && b2)
  | [], [], u2, v2, b, _, h => ⟨true, b, rfl, h, by simp⟩
  | [], _ :: _, _, _, _, h, _ => by simp at h
  | _ :: _, [], _, _, _, h, _ => by simp at h
  | x :: u1, y :: v1, u2, v2, b, hl, h => by
    cases x <;> cases y <;> simp only [List.cons_append, eqV] at h ⊢ <;> try (cases h; done)
    · rename_i k a k' a'
      cases hk : decide (k = k') <;> simp only [hk, cond_true, cond_false] at h ⊢
      · cases h
      · simp only [Option.bind_eq_some_iff] at h
        obtain ⟨t, ht, h⟩ := h
        obtain ⟨b1, b2, h1, h2, rfl⟩ := eqV_app (by simpa using hl) ht
        cases h
        exact ⟨_, b2, by rw [h1]; rfl, h2, by rw [Bool.and_assoc]⟩
    all_goals
      simp only [Option.bind_eq_some_iff] at h
      obtain ⟨t, ht, h⟩ := h
      obtain ⟨b1, b2, h1, h2, rfl⟩ := eqV_app (by simpa using hl) ht
      cases h
      exact ⟨_, b2, by rw [h1]; rfl, h2, by rw [Bool.and_assoc]⟩
section
variable {P : Program}
theorem eqZ_one {n : Nat} {t : TypeId} {z : List V} (h : eqZ P n t = some z) : ∃ ag, IsAgg P t ag ∧ (ag = false → z.length = 1) := by
  cases n with
  | zero => simp [eqZ] at h
  | succ n =>
    unfold eqZ at h
    split at h <;> try (cases h; done)
    · rename_i k hu; cases h; exact ⟨false, ⟨_, hu, rfl⟩, fun _ => rfl⟩
    · rename_i hu; cases h; exact ⟨false, ⟨_, hu, rfl⟩, fun _ => rfl⟩
    · rename_i hu; cases h; exact ⟨false, ⟨_, hu, rfl⟩, fun _ => rfl⟩
    · rename_i fs hu; exact ⟨true, ⟨_, hu, rfl⟩, fun h => by cases h⟩
theorem made_part {t : TypeId} {z : List V} {n : Nat} (hz : eqZ P n t = some z) (hs : SizeOf P t z.length) {xs : Array Value} {off : Nat} {u1 u2 : List V} (hx : xs.toList.drop off = (u1 ++ u2).map sv) (hl : u1.length = z.length) (w : World) :
    ∃ c, (part t xs off).run P w = .ok c w ∧ Made P t u1 c := by
  obtain ⟨ag, ha, h1⟩ := eqZ_one hz
  cases ag with
  | true =>
    refine ⟨.agg (xs.extract off (off + z.length)), by simp only [part, Sem.run_bind, run_isAgg ha, Result.andThen_ok, if_true, run_sizeOf hs, Sem.run_pure], true, ha, _, rfl, ?_⟩
    rw [Array.toList_extract]
    simp only [List.extract_eq_take_drop, hx]
    rw [← hl]
    simp
  | false =>
    have := h1 rfl
    rw [this] at hl
    obtain ⟨u, rfl⟩ := List.length_eq_one_iff.mp hl
    have hc : xs[off]? = some (sv u) := by
      have := congrArg (fun l => l[0]?) hx
      simpa using this
    exact ⟨sv u, by simp [part, Sem.run_bind, run_isAgg ha, hc], false, ha, u, rfl, rfl⟩
theorem eqFs_sound {n d : Nat} (ih : ∀ (t : TypeId) (z : List V), eqZ P n t = some z → ∀ (c c' : Value) (us vs : List V) (b : Bool) (w : World), Made P t us c → Made P t vs c' → fits z us = true → fits z vs = true → eqV us vs = some b → (Op.equalIn d t c c').run P w = .ok b w)
    {xs ys : Array Value} (w : World) : ∀ (fs : List Field) (off : Nat) (z us vs : List V) (b : Bool), eqFs P (eqZ P n) off fs = some z → xs.toList.drop off = us.map sv → ys.toList.drop off = vs.map sv → fits z us = true → fits z vs = true → eqV us vs = some b →
      (Op.eqFields d xs ys fs).run P w = .ok b w
  | [], off, z, us, vs, b, h, hx, hy, f1, f2, he => by
    simp [eqFs] at h; subst h
    cases us <;> cases vs <;> simp [fits] at f1 f2
    simp [eqV] at he; subst he
    simp [Op.eqFields]
  | f :: fs, off, z, us, vs, b, h, hx, hy, f1, f2, he => by
    simp only [eqFs] at h
    cases hn : decide (f.name = "_") <;> simp only [hn, cond_true, cond_false] at h
    rotate_left
    · cases h
    cases ho : Nat.beq f.offset off <;> simp only [ho, cond_true, cond_false] at h
    · cases h
    simp only [Option.bind_eq_some_iff] at h
    obtain ⟨z1, hz1, h⟩ := h
    cases hs : sizeB P f.type z1.length <;> simp only [hs, cond_true, cond_false] at h
    · cases h
    simp only [Option.map_eq_some_iff] at h
    obtain ⟨z2, hz2, rfl⟩ := h
    obtain ⟨u1, u2, rfl, g1, g2⟩ := fits_app f1
    obtain ⟨v1, v2, rfl, k1, k2⟩ := fits_app f2
    have l1 := fits_len g1
    have l2 := fits_len k1
    obtain ⟨b1, b2, e1, e2, rfl⟩ := eqV_app (by omega) he
    have hoff := Nat.eq_of_beq_eq_true ho
    obtain ⟨c, hc, mc⟩ := made_part hz1 (sizeB_ok hs) hx l1 w
    obtain ⟨c', hc', mc'⟩ := made_part hz1 (sizeB_ok hs) hy l2 w
    have main := ih f.type z1 hz1 c c' u1 v1 b1 w mc mc' g1 k1 e1
    have rest := eqFs_sound ih w fs (off + z1.length) z2 u2 v2 b2 hz2 (by rw [← List.drop_drop, hx, ← l1]; simp) (by rw [← List.drop_drop, hy, ← l2]; simp) g2 k2 e2
    have hne : f.name ≠ "_" := of_decide_eq_false hn
    simp only [Op.eqFields, hne, ne_eq, not_false_eq_true, if_true, Sem.run_bind, hoff, hc, hc', Result.andThen_ok, main]
    cases b1 with
    | true => simpa using rest
    | false => simp
theorem eqZ_sound : ∀ (n : Nat) (t : TypeId) (z : List V), eqZ P n t = some z → ∀ (d : Nat), n ≤ d → ∀ (c c' : Value) (us vs : List V) (b : Bool) (w : World), Made P t us c → Made P t vs c' → fits z us = true → fits z vs = true → eqV us vs = some b → (Op.equalIn d t c c').run P w = .ok b w
  | 0, t, z, h, _, _, _, _, _, _, _, _, _, _, _, _, _ => by simp [eqZ] at h
  | n + 1, t, z, h, d, hd, c, c', us, vs, b, w, m1, m2, f1, f2, he => by
    obtain ⟨d, rfl⟩ : ∃ k, d = k + 1 := ⟨d - 1, by omega⟩
    have one : ∀ {desc : TypeDesc} {us : List V} {c : Value}, P.underlying t = some desc → aggD desc = false → Made P t us c → ∃ u, us = [u] ∧ c = sv u := by
      intro desc us c hu ha ⟨ag, ⟨d', hu', e⟩, m⟩
      rw [hu] at hu'; cases hu'
      rw [ha] at e; subst e; exact m
    have agg : ∀ {desc : TypeDesc} {us : List V} {c : Value}, P.underlying t = some desc → aggD desc = true → Made P t us c → ∃ xs : Array Value, c = .agg xs ∧ xs.toList = us.map sv := by
      intro desc us c hu ha ⟨ag, ⟨d', hu', e⟩, m⟩
      rw [hu] at hu'; cases hu'
      rw [ha] at e; subst e; exact m
    unfold eqZ at h
    split at h <;> try (cases h; done)
    · rename_i k hu
      cases h
      obtain ⟨u, rfl, rfl⟩ := one hu rfl m1
      obtain ⟨v, rfl, rfl⟩ := one hu rfl m2
      cases u <;> simp [fits] at f1
      cases v <;> simp [fits] at f2
      subst f1; subst f2
      simp [eqV] at he; subst he
      simp only [sv]
      rw [run_equalIn_int (k' := k) (h := hu)]
      rfl
    · rename_i hu
      cases h
      obtain ⟨u, rfl, rfl⟩ := one hu rfl m1
      obtain ⟨v, rfl, rfl⟩ := one hu rfl m2
      cases u <;> simp [fits] at f1
      cases v <;> simp [fits] at f2
      simp [eqV] at he; subst he
      simp only [sv]
      rw [run_equalIn_bool' (h := hu)]
      rename_i x y; cases x <;> cases y <;> rfl
    · rename_i hu
      cases h
      obtain ⟨u, rfl, rfl⟩ := one hu rfl m1
      obtain ⟨v, rfl, rfl⟩ := one hu rfl m2
      cases u <;> simp [fits] at f1
      cases v <;> simp [fits] at f2
      simp [eqV] at he; subst he
      simp only [sv]
      rw [run_equalIn_string (h := hu), ByteArray.toList_eq, ByteArray.toList_eq]
      rename_i x y
      by_cases hxy : x = y <;> simp [hxy]
    · rename_i fs hu
      cases hp : P.stoodInHeld t <;> simp only [hp, cond_true, cond_false] at h
      rotate_left
      · cases h
      obtain ⟨xs, rfl, hx⟩ := agg hu rfl m1
      obtain ⟨ys, rfl, hy⟩ := agg hu rfl m2
      have hf : P.fieldsOf t = fs := by simp [Program.fieldsOf, hu]
      rw [run_equalIn_struct w d t xs ys (by rw [hf]; exact hu) hp, hf]
      exact eqFs_sound (fun t z hz c c' us vs b w => eqZ_sound n t z hz d (by omega) c c' us vs b w) w fs.toList 0 z us vs b h (by simpa using hx) (by simpa using hy) f1 f2 he
theorem flat_ok {t : TypeId} {z zs : List V} (h : eqZ P 8 t = some z) (hz : fits z zs = true) (ha : IsAgg P t true) (hg : P.eqGuardType P.depth t = false) : FlatOK P t zs := by
  intro xs ys us vs b w hx hy f1 f2 he
  exact ⟨eqZ_sound 8 t z h Op.maxDepth (by simp [Op.maxDepth]) _ _ us vs b w ⟨true, ha, xs, rfl, hx⟩ ⟨true, ha, ys, rfl, hy⟩ (fits_trans hz f1) (fits_trans hz f2) he, fun op x y => run_eqGuard_agg w op t x y xs ys hg⟩
def flatB (P : Program) (t : TypeId) (zs : List V) : Bool := match eqZ P 8 t with
  | some z => fits z zs && aggB P t true && !P.eqGuardType P.depth t
  | none => false
def flatsB (P : Program) : Tab → Bool
  | [] => true
  | (t, ti) :: r => cond ti.flat (flatB P t ti.zero) true && flatsB P r
theorem flatsB_at : ∀ {T : Tab}, flatsB P T = true → ∀ t ti, T.get t = some ti → ti.flat = true → FlatOK P t ti.zero
  | [], _, t, ti, h, _ => by simp [Tab.get] at h
  | (i, x) :: r, hb, t, ti, h, hf => by
    simp only [flatsB, Bool.and_eq_true] at hb
    simp only [Tab.get] at h
    cases he : Nat.beq i t <;> simp [he] at h
    · exact flatsB_at hb.2 t ti h hf
    · subst h
      have := Nat.eq_of_beq_eq_true he
      subst this
      have h1 := hb.1
      rw [hf, cond_true] at h1
      unfold flatB at h1
      split at h1
      · rename_i z hz
        simp only [Bool.and_eq_true, Bool.not_eq_true'] at h1
        exact flat_ok hz h1.1.1 (aggB_ok h1.1.2) h1.2
      · cases h1
theorem tab_of2 {T : Tab} (h : tabB P T = true) (k : flatsB P T = true) : TabOK P T := fun t ti ht => ⟨tabB_ok h t ti ht, flatsB_at k t ti ht⟩
end
abbrev ShD := List Device × List Cue × List Gust × Int × Unit
abbrev CuD := List Int × Int × Int × Unit
end Ev
end
