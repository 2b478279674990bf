/- Slices as sources and their parts; appends. -/
import Derived.Test.YtnoodoiehlcblaaOps6
set_option linter.unusedVariables false
set_option linter.unusedSimpArgs false
namespace Ev
open Go

/-- A slice that reads as the rows 'm'. -/
def Src (t : Ty) (w : World) (m : List t.den) (c : Value) : Prop := ∃ a cap, c = .slice a m.length cap ∧ m.length ≤ cap ∧ (m = [] ∨ ∃ b s, a = some ⟨b, s, none⟩ ∧ At w b s (flat t m))
theorem src_win {t : Ty} {w : World} {l : List t.den} {lo hi : Nat} {a : Option Addr} {cap : Nat} (h1 : lo ≤ hi) (h2 : hi ≤ l.length) (h3 : l.length ≤ cap)
    (h : l = [] ∨ ∃ b s, a = some ⟨b, s, none⟩ ∧ At w b s (flat t l)) : Src t w ((l.take hi).drop lo) (.slice (if cap - lo = 0 then a else a.map (·.add (lo * t.width))) (hi - lo) (cap - lo)) := by
  have hl : ((l.take hi).drop lo).length = hi - lo := by simp; omega
  refine ⟨(if cap - lo = 0 then a else a.map (·.add (lo * t.width))), cap - lo, by rw [hl], by rw [hl]; omega, ?_⟩
  by_cases he : hi = lo
  · left; apply List.eq_nil_of_length_eq_zero; simp; omega
  · rcases h with rfl | ⟨b, s, rfl, hat⟩
    · simp at h2; omega
    · right
      rw [if_neg (by omega)]
      exact ⟨b, s + lo * t.width, by simp [addr_add], (hat.take hi).drop (by simp; omega)⟩
theorem rowsK_sound {R : Type} {t : Ty} {not : Nat} {st : Store} {v : V} {K : List t.den → Option R} {r : R} (h : rowsK t not st v K = some r) :
    ∃ m, K m = some r ∧ ∀ ρ F w c, Core ρ F st w → RelT ρ F w v c → Src t w m c := by
  unfold rowsK at h
  split at h
  · exact ⟨[], h, fun ρ F w c H (e : c = _) => ⟨none, 0, by rw [e]; rfl, Nat.le_refl _, .inl rfl⟩⟩
  · rename_i t' l
    split at h <;> try (cases h; done)
    rename_i l' hc
    obtain ⟨rfl, rfl⟩ := castL_eq hc
    exact ⟨_, h, fun ρ F w c H ⟨a, cap, e, h1, h2⟩ => ⟨a, cap, e, h1, h2.imp id fun ⟨b, s, e, _, hat⟩ => ⟨b, s, e, hat⟩⟩⟩
  · rename_i id
    cases hb : Nat.beq id not <;> simp only [hb, cond_true, cond_false] at h
    · split at h <;> try (cases h; done)
      rename_i t' l hl
      split at h <;> try (cases h; done)
      rename_i l' hc
      obtain ⟨rfl, rfl⟩ := castL_eq hc
      refine ⟨_, h, fun ρ F w c H ⟨t0, a, len, cap, hρ, e⟩ => ?_⟩
      obtain ⟨rfl, h1, h2, h3⟩ := row_at H hρ hl
      exact ⟨a, cap, by rw [e, ← h1], by simp; omega, h3⟩
    · cases h
  · rename_i id lo hi
    cases hb : Nat.beq id not <;> simp only [hb, cond_true, cond_false] at h
    · split at h <;> try (cases h; done)
      rename_i t' l hl
      split at h <;> try (cases h; done)
      rename_i l' hc
      obtain ⟨rfl, rfl⟩ := castL_eq hc
      refine ⟨_, h, fun ρ F w c H ⟨t0, a, len, cap, hρ, g1, g2, g3, e⟩ => ?_⟩
      obtain ⟨rfl, h1, h2, h3⟩ := row_at H hρ hl
      rw [e]
      simp only
      exact src_win g1 (by omega) (by omega) h3
    · cases h
  · cases h

/-! ### Parts -/
def BndLo (v : Option V) (n : Nat) : Prop := v = some (i64 n) ∨ (v = none ∧ n = 0)
def BndHi (v : Option V) (len n : Nat) : Prop := v = some (i64 n) ∨ (v = none ∧ n = len)
theorem winK_some {R : Type} {t : Ty} {l : List t.den} {lo hi : Option V} {K : Nat → Nat → List t.den → Option R} {r : R} (h : winK t l lo hi K = some r) :
    ∃ a b : Nat, K a b ((l.take b).drop a) = some r ∧ a ≤ b ∧ b ≤ l.length ∧ BndLo lo a ∧ BndHi hi l.length b := by
  unfold winK at h
  split at h <;> try (cases h; done)
  · rename_i a
    obtain ⟨⟨h0, h1⟩, h⟩ := okIf_some h
    exact ⟨a.toNat, l.length, by rw [List.take_length]; exact h, by omega, Nat.le_refl _, .inl (by rw [Int.toNat_of_nonneg h0]), .inr ⟨rfl, rfl⟩⟩
  · rename_i b
    obtain ⟨⟨h0, h1⟩, h⟩ := okIf_some h
    exact ⟨0, b.toNat, by simpa using h, by omega, by omega, .inr ⟨rfl, rfl⟩, .inl (by rw [Int.toNat_of_nonneg h0])⟩
  · rename_i a b
    obtain ⟨⟨h0, h1, h2⟩, h⟩ := okIf_some h
    exact ⟨a.toNat, b.toNat, h, by omega, by omega, .inl (by rw [Int.toNat_of_nonneg h0]), .inl (by rw [Int.toNat_of_nonneg (by omega)])⟩
def CBnd (v : Option V) (c : Option Value) : Prop := match v, c with
  | none, none => True
  | some (.int k n), some c => c = .int k n
  | some _, some _ => True
  | _, _ => False
theorem cLo {lo : Option V} {c : Option Value} {a : Nat} (h : BndLo lo a) (k : CBnd lo c) : c = some (.int .i64 a) ∨ (c = none ∧ a = 0) := by
  rcases h with rfl | ⟨rfl, rfl⟩ <;> cases c <;> simp [CBnd] at k ⊢
  exact k
theorem cHi {hi : Option V} {c : Option Value} {l b : Nat} (h : BndHi hi l b) (k : CBnd hi c) : c = some (.int .i64 b) ∨ (c = none ∧ b = l) := by
  rcases h with rfl | ⟨rfl, rfl⟩ <;> cases c <;> simp [CBnd] at k ⊢
  exact k
theorem run_sliceBound' {P : Program} {w : World} (n y : Nat) (code : BoundsCode) (h : n ≤ y) : (Instr.sliceBound (.int .i64 (n : Int)) y code).run P w = .ok n w := by
  have h2 : (0 ≤ (n : Int) ∧ (n : Int) ≤ (y : Int)) := by omega
  simp [Instr.sliceBound, asIntOf, Sem.run_bind, h]
theorem run_sliceBounds {P : Program} {w : World} {is : Bool} {len cap a b : Nat} {clo chi : Option Value} (h1 : a ≤ b) (h2 : b ≤ len) (h3 : len ≤ cap)
    (hlo : clo = some (.int .i64 a) ∨ (clo = none ∧ a = 0)) (hhi : chi = some (.int .i64 b) ∨ (chi = none ∧ b = len)) :
    (Instr.sliceBounds is len cap clo chi none).run P w = .ok (a, b, cap) w := by
  have hb := fun code => run_sliceBound' (P := P) (w := w) b cap code (by omega)
  have ha := fun code => run_sliceBound' (P := P) (w := w) a b code h1
  rcases hhi with rfl | ⟨rfl, rfl⟩ <;> rcases hlo with rfl | ⟨rfl, rfl⟩ <;>
    simp [Instr.sliceBounds, Sem.run_bind, ha, hb]
theorem run_sliceAt' {P : Program} {t e n : Nat} (hd : P.underlying t = some (.slice e)) (hs : SizeOf P e n) {w : World} {base : Option Addr} {len cap a b : Nat} {clo chi : Option Value} (h1 : a ≤ b) (h2 : b ≤ len) (h3 : len ≤ cap)
    (hlo : clo = some (.int .i64 a) ∨ (clo = none ∧ a = 0)) (hhi : chi = some (.int .i64 b) ∨ (chi = none ∧ b = len)) :
    (Instr.sliceAt t (.slice base len cap) clo chi none).run P w = .ok (.slice (if cap - a = 0 then base else base.map (·.add (a * n))) (b - a) (cap - a)) w := by
  have := run_sliceBounds (P := P) (w := w) (is := true) h1 h2 h3 hlo hhi
  simp only [Instr.sliceAt, Instr.slice, Sem.run_bind, run_underlying hd, Result.andThen_ok, this, run_sizeOf hs, Sem.run_pure]
  by_cases hc : cap = a
  · rw [if_pos hc, if_pos (by omega)]
  · rw [if_neg hc, if_neg (by omega)]
theorem ba_extract (s : List UInt8) (a b : Nat) (h : b ≤ s.length) : (⟨⟨s⟩⟩ : ByteArray).extract a b = ⟨⟨(s.take b).drop a⟩⟩ := by
  apply ByteArray.ext
  rw [ByteArray.data_extract]
  apply Array.ext'
  simp [Array.toList_extract, List.extract_eq_take_drop, List.drop_take]
theorem sliceStr_sound {R : Type} {P : Program} {t : Nat} (hd : P.underlying t = some .string) {l : Str} {lo hi : Option V} {s : St} {K : V → St → Option R} {r : R}
    (h : (match lo, hi with
    | some (.int .i64 a), none => okIf (0 ≤ a ∧ a ≤ l.length) (K (.str (l.drop a.toNat)) s)
    | none, some (.int .i64 b) => okIf (0 ≤ b ∧ b ≤ l.length) (K (.str (l.take b.toNat)) s)
    | some (.int .i64 a), some (.int .i64 b) => okIf (0 ≤ a ∧ a ≤ b ∧ b ≤ l.length) (K (.str ((l.take b.toNat).drop a.toNat)) s)
    | _, _ => none) = some r) :
    ∃ v, K v s = some r ∧ ∀ ρ F w c clo chi, RelT ρ F w (.str l) c → CBnd lo clo → CBnd hi chi → ∃ c', (Instr.sliceAt t c clo chi none).run P w = .ok c' w ∧ RelT ρ F w v c' := by
  have h' : winK .u8 (l.map fun b => (b.toNat : Int)) lo hi (fun a b _ => K (.str ((l.take b).drop a)) s) = some r := by
    unfold winK
    split at h <;> try (cases h; done)
    · obtain ⟨hc, h⟩ := okIf_some h
      simp only [okIf, List.length_map]
      rw [if_pos (by simpa using hc), List.take_length]; exact h
    · obtain ⟨hc, h⟩ := okIf_some h
      simp only [okIf, List.length_map]
      rw [if_pos (by simpa using hc)]; simpa using h
    · obtain ⟨hc, h⟩ := okIf_some h
      simp only [okIf, List.length_map]
      rw [if_pos (by simpa using hc)]; exact h
  obtain ⟨a, b, hk, h1, h2, hlo, hhi⟩ := winK_some h'
  refine ⟨_, hk, fun ρ F w c clo chi (e : c = _) k1 k2 => ⟨.string ⟨⟨(l.take b).drop a⟩⟩, ?_, rfl⟩⟩
  subst e
  simp only [List.length_map] at h2 hhi
  have hb := run_sliceBounds (P := P) (w := w) (is := false) (len := l.length) (cap := l.length) h1 h2 (Nat.le_refl _) (cLo hlo k1) (cHi hhi k2)
  have hsz : (⟨⟨l⟩⟩ : ByteArray).size = l.length := rfl
  simp only [Instr.sliceAt, Instr.slice, Sem.run_bind, run_underlying hd, Result.andThen_ok, hsz, hb, Sem.run_pure, Option.isSome_none, Bool.false_eq_true, if_false, ba_extract l a b h2]
end Ev
