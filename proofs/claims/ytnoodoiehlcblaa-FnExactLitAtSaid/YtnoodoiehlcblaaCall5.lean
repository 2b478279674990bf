/- A call of a function, as an operation. -/
import Derived.Test.YtnoodoiehlcblaaCall4
set_option linter.unusedVariables false
set_option linter.unusedSimpArgs false
namespace Ev
open Go

theorem run_callFunc {P : Program} {f : Nat} {fn : Func} (h1 : P.funcs[f]? = some fn) (h2 : fn.body.isNone = false) (h3 : fn.name ≠ "runtime.NumGoroutine") (args : Array Value) (w : World) :
    (callFunc f args).run P w = .ok (.enter f args) w := by
  obtain ⟨code, hc⟩ : ∃ c, fn.body = some c := by
    cases hb : fn.body with
    | none => rw [hb] at h2; cases h2
    | some c => exact ⟨c, rfl⟩
  simp [callFunc, Sem.run_bind, h1, hc, h3]
theorem run_call {P : Program} {o : Oper} {fo : Operand} {args : Array Operand} {ts : Array Nat} {f : Nat} {fn : Func} {ca : Array Value} (ho : o.op = .call ⟨.value fo, args, ts⟩)
    (h1 : P.funcs[f]? = some fn) (h2 : fn.body.isNone = false) (h3 : fn.name ≠ "runtime.NumGoroutine") (a : Act) (w : World) (hf : a.eval fo = .func (.func f) #[] ca) :
    (execOp a.eval o).run P w = .ok (.enter f (args.map a.eval ++ ca)) w := by
  simp [execOp, ho, resolve, hf, Deferred.ofValue, Sem.run_bind, invoke, run_callFunc h1 h2 h3]
theorem upon_enter_mono {P : Program} {o : Oper} {a : Act} {w : World} {N : Act → World → Prop} {Q : Exit → Act → World → Prop} {f : Nat} {args : Array Value} (he : (execOp a.eval o).run P w = .ok (.enter f args) w)
    {R : Ending → World → Prop} (hc : Calls P f args w R) (h : ∀ en w', R en w' → ∃ c, en = .returned c ∧ N (a.put o.dst c) w') : o.wp P a w N Q := by
  unfold Oper.wp
  rw [he]
  refine Calls.mono hc fun en w' hr => ?_
  obtain ⟨c, rfl, hn⟩ := h en w' hr
  exact hn
theorem nodup_inj {α : Type} {l : List α} (h : l.Nodup) {i j : Nat} {hi : i < l.length} {hj : j < l.length} (e : l[i] = l[j]) : i = j := by
  rcases Nat.lt_trichotomy i j with hlt | heq | hgt
  · exact absurd e (List.pairwise_iff_getElem.mp h i j hi hj hlt)
  · exact heq
  · exact absurd e.symm (List.pairwise_iff_getElem.mp h j i hj hi hgt)
theorem nilB_nil {l : List Nat} (h : nilB l = true) : l = [] := by cases l <;> first | rfl | cases h
set_option maxHeartbeats 1000000 in
theorem callK_sound {R : Type} {P : Program} {E : Env} (hE : EnvOK P E) {ann : Nat → Bool} {o : Oper} {s : St} {fo : Operand} {args : Array Operand} {ts : Array Nat} {f dst : Nat} {cap : List V} {K : V → St → Option R} {r : R}
    (ho : o.op = .call ⟨.value fo, args, ts⟩) (hd : idOf o = dst) (hfo : opd s.fr fo = .fn f cap) (h : callK E f dst (args.toList.map (opd s.fr) ++ cap) s K = some r) :
    ∃ v s', K v s' = some r ∧ OpOK P (calm E ann o = true) o s v s' := by
  unfold callK at h
  split at h
  · cases h
  rename_i e he
  obtain ⟨fn, hf1, hf2, hf3⟩ := hE.fn f e he
  obtain ⟨av, ids, frz, h, hg, hids, hal, hav⟩ := argAs_sound h
  cases hc : (okIds frz ids && (e.muts || nilB ids)) <;> simp only [hc, cond_true, cond_false] at h
  · cases h
  rw [Bool.and_eq_true] at hc
  obtain ⟨hnd, hdisj⟩ := okIds_some hc.1
  obtain ⟨sf, h, z1, z2, hz⟩ := frzAll_sound h
  obtain ⟨bs, h, hbl, hbs⟩ := blksK_some h
  obtain ⟨res, out, h, hends⟩ := hE.ent f e he R av bs _ r h
  obtain ⟨st', h, i1, i2, i3, i4, i5⟩ := impB_some hnd h
  obtain ⟨v, h, hren⟩ := renT_sound h
  have hcl : ∀ id ∈ ids, id ∉ (cond e.shares (dedup frz) []) := by
    intro id hid hm
    cases hs : e.shares <;> rw [hs] at hm
    · simp at hm
    · exact hdisj id hid (dedup_mem hm)
  have hinj : ∀ j k, j < out.length → k < out.length → mapId dst ids j = mapId dst ids k → j = k := by
    have aux : ∀ j k, j < out.length → k < out.length → j ≤ k → mapId dst ids j = mapId dst ids k → j = k := by
      intro j k hj hk hle heq
      by_cases h1 : j < ids.length
      · by_cases h2 : k < ids.length
        · rw [mapId_old (List.getElem?_eq_getElem h1), mapId_old (List.getElem?_eq_getElem h2)] at heq
          exact nodup_inj hnd heq
        · exfalso
          obtain ⟨i, rfl⟩ : ∃ i, k = ids.length + i := ⟨k - ids.length, by omega⟩
          rw [mapId_old (List.getElem?_eq_getElem h1), mapId_new] at heq
          have g1 := (i3 j _ (List.getElem?_eq_getElem h1)).2
          rw [heq] at g1
          exact g1 (i4 i hk).1
      · obtain ⟨i, rfl⟩ : ∃ i, j = ids.length + i := ⟨j - ids.length, by omega⟩
        obtain ⟨i', rfl⟩ : ∃ i, k = ids.length + i := ⟨k - ids.length, by omega⟩
        rw [mapId_new, mapId_new] at heq
        omega
    intro j k hj hk heq
    rcases Nat.le_total j k with hle | hle
    · exact aux j k hj hk hle heq
    · exact (aux k j hk hj hle heq.symm).symm
  have hσ : ∀ k, k < out.length → look st' (mapId dst ids k) = out[k]? := by
    intro k hk
    by_cases h1 : k < ids.length
    · rw [mapId_old (List.getElem?_eq_getElem h1)]; exact (i3 k _ (List.getElem?_eq_getElem h1)).1
    · obtain ⟨i, rfl⟩ : ∃ i, k = ids.length + i := ⟨k - ids.length, by omega⟩
      rw [mapId_new]; exact (i4 i hk).2
  have hσo : ∀ id, (¬ ∃ k, k < out.length ∧ mapId dst ids k = id) → look st' id = look sf.st id := by
    intro id hx
    refine i5 id (fun hid => ?_) (fun i hi e => hx ⟨ids.length + i, hi, by rw [mapId_new, e]⟩)
    obtain ⟨j, hj⟩ := List.getElem?_of_mem hid
    exact hx ⟨j, by have := (List.getElem?_eq_some_iff.mp hj).1; omega, mapId_old hj⟩
  refine ⟨v, _, h, fun ρ F a w H hM hfr hr N Q hN => ?_⟩
  have rargs : ∀ x ∈ args.toList, RelT ρ F w (opd s.fr x) (a.eval x) := fun x hx => opd_rel x fun t e => hr t (by simp only [Reads, ho, Op.operands, Call.operands, Array.mem_append]; right; rw [← e]; simpa using hx)
  have rf : RelT ρ F w (.fn f cap) (a.eval fo) := by rw [← hfo]; exact opd_rel fo fun t e => hr t (by simp only [Reads, ho, Op.operands, Call.operands, Array.mem_append]; left; simp [e])
  obtain ⟨ca, hca, hcs, hcr⟩ := rf
  have hrun := run_call ho hf1 hf2 hf3 a w hca
  obtain ⟨ρf, Ff, Z, Z0⟩ := hz ρ F w H hM
  let ρ0 : Rho := fun j => (ids[j]?).bind ρf
  let F0 : Nat → Prop := fun b => Ff b ∨ ∃ id ∈ frz, ∃ loc, ρ id = some loc ∧ loc.block = some b
  have hF0 : ∀ b, F0 b → e.shares = true → Ff b := by
    rintro b (hb | ⟨id, hid, loc, hl, hb⟩) hs
    · exact hb
    · exact Z.blk id (by rw [hs]; exact mem_dedup hid) loc b hl hb
  have hρids : ∀ j id, ids[j]? = some id → ρ0 j = ρ id := fun j id hj => by
    simp only [ρ0, hj, Option.bind_some]
    exact Z.keep id (hcl id (List.mem_of_getElem? hj))
  have hMf : ∀ b, ρf.M b → ρ.M b := fun b ⟨id, l, h1, h2⟩ => ⟨id, l, Z.ids id l h1, h2⟩
  have hM0 : ∀ b, ρ0.M b → ∃ (j id : Nat) (loc : Loc), ids[j]? = some id ∧ ρf id = some loc ∧ ρ id = some loc ∧ loc.block = some b := by
    rintro b ⟨j, loc, hj, hb⟩
    simp only [ρ0] at hj
    cases hi : ids[j]? with
    | none => simp [hi] at hj
    | some id => simp [hi] at hj; exact ⟨j, id, loc, hi, hj, Z.ids id loc hj, hb⟩
  have T : Told ρ F ids frz ρ0 F0 := ⟨hρids, fun b hb => .inl (Z.stab b hb), fun id hid loc b h1 h2 => .inr ⟨id, hid, loc, h1, h2⟩⟩
  have C0 : Core ρ0 F0 (enterSt 0 bs) w := by
    refine ⟨fun j loc blk h1 h2 => ?_, fun i j li lj b h1 h2 h3 h4 => ?_, fun b hb => ?_⟩
    · rw [look_enter0] at h2
      simp only [ρ0] at h1
      cases hi : ids[j]? with
      | none => simp [hi] at h1
      | some id =>
        simp [hi] at h1
        obtain ⟨b, g1, g2⟩ := hbs j id hi
        rw [h2] at g1; cases g1
        refine (Z.core.heap id loc blk h1 g2).weaken (fun _ _ => rfl) ?_
        cases blk with
        | rows t l => rfl
        | box cs =>
          refine ⟨rfl, fun i v v' k1 k2 c r => ?_⟩
          rw [k1] at k2; cases k2
          obtain ⟨cs0, q1, q2⟩ := z2 id cs (hcl id (List.mem_of_getElem? hi)) g2
          obtain ⟨b0, q3, q4⟩ := hids (by simp [HasIds]) id (List.mem_of_getElem? hi)
          rw [q1] at q3; cases q3
          have hv := allB_get (q2 (q4 cs0 rfl)) v (List.mem_of_getElem? k1)
          cases v <;> simp only [V.idfree] at hv <;> try (cases hv; done)
          all_goals first
            | exact r
            | (obtain ⟨a, cap, e, g3, g4⟩ := r
               exact ⟨a, cap, e, g3, g4.imp (fun h => h) fun ⟨b, s, e, hF, hat⟩ => ⟨b, s, e, .inl hF, hat⟩⟩)
    · simp only [ρ0] at h1 h2
      cases hi : ids[i]? with
      | none => simp [hi] at h1
      | some id =>
        cases hj : ids[j]? with
        | none => simp [hj] at h2
        | some id' =>
          simp [hi] at h1
          simp [hj] at h2
          have := Z.core.inj id id' li lj b h1 h2 h3 h4
          subst this
          have hli := (List.getElem?_eq_some_iff.mp hi)
          have hlj := (List.getElem?_eq_some_iff.mp hj)
          obtain ⟨p1, p2⟩ := hli
          obtain ⟨p3, p4⟩ := hlj
          exact nodup_inj hnd (p2.trans p4.symm)
    · rcases hb with hb | ⟨id, hid, loc, hl, hb⟩
      · refine ⟨(Z.core.stable b hb).1, fun hm => (Z.core.stable b hb).2 ?_⟩
        obtain ⟨j, id, loc, _, h2, _, h4⟩ := hM0 b hm
        exact ⟨id, loc, h2, h4⟩
      · refine ⟨hM b ⟨id, loc, hl, hb⟩, fun hm => ?_⟩
        obtain ⟨j, id', loc', h1, _, h3, h4⟩ := hM0 b hm
        have := H.inj id id' loc loc' b hl h3 hb h4
        subst this
        exact hdisj id (List.mem_of_getElem? h1) hid
  have hcalls := hends w F0 ρ0 (args.map a.eval ++ ca) C0 (fun j l h1 => by
      simp only [ρ0] at h1
      cases hi : ids[j]? with
      | none => simp [hi] at h1
      | some id => have := (List.getElem?_eq_some_iff.mp hi).1; omega) (by simp [hal, hcs]) (fun i v' hv' => by
      have hi : i < args.size + cap.length := by
        have := (List.getElem?_eq_some_iff.mp hv').1
        rw [hal] at this; simpa using this
      by_cases h1 : i < args.size
      · refine ⟨a.eval args[i], by rw [Array.getElem?_append_left (by simpa using h1)]; simp [h1], hav ρ F w ρ0 F0 H T i v' _ hv' fun u hu => ?_⟩
        rw [List.getElem?_append_left (by simpa using h1), List.getElem?_map, Array.getElem?_toList, Array.getElem?_eq_getElem h1] at hu
        simp at hu; subst hu
        exact rargs _ (by simp)
      · have hk : i - args.size < cap.length := by omega
        obtain ⟨c, k1, k2⟩ := hcr (i - args.size) _ (List.getElem?_eq_getElem hk)
        refine ⟨c, by rw [Array.getElem?_append_right (by simpa using Nat.le_of_not_lt h1)]; simpa using k1, hav ρ F w ρ0 F0 H T i v' _ hv' fun u hu => ?_⟩
        rw [List.getElem?_append_right (by simpa using Nat.le_of_not_lt h1)] at hu
        simp only [List.length_map, Array.length_toList] at hu
        rw [List.getElem?_eq_getElem hk] at hu
        cases hu
        exact relC_T (relB_C k2))
  refine upon_enter_mono hrun hcalls fun en w' hret => ?_
  obtain ⟨c, ρ1, F1, rfl, C1, h01, hd1, hval, hchg, hmb, hstb⟩ := hret
  refine ⟨c, rfl, ?_⟩
  have hnew0 : ∀ i, ids.length + i < out.length → ρf (dst + 10000 * i) = none := by
    intro i hi
    have g := (i4 i hi).1
    rcases (z1 _).mp g with g1 | g1
    · cases hx : ρf (dst + 10000 * i) with
      | none => rfl
      | some l =>
        have := Z.ids _ l hx
        rw [hfr _ g1 (by rw [hd]; exact ⟨i, rfl⟩)] at this
        cases this
    · exact Z.gone _ g1
  obtain ⟨B1, B2, B3, B4, B5⟩ := call_back (sh := e.shares) (dst := dst) (ids := ids) (σ := sf.st) (σ' := st') Z.core (fun b hb => hM b (hMf b hb)) i1 i2 hinj (fun j => rfl) hσ hσo (fun k h1 h2 => by
    obtain ⟨i, rfl⟩ : ∃ i, k = ids.length + i := ⟨k - ids.length, by omega⟩
    rw [mapId_new]; exact hnew0 i h2) hF0 C1 h01 hd1 hchg hmb hstb
  refine hN c w' _ _ ⟨B1, ⟨hchg.mono fun b hb => hMf b (B5 b hb), fun b hb => (B4 b hb).imp (hMf b) fun h => h, ?_⟩, hren ρ1 F1 w' _ _ c B3 hval, fun t x hx => RelT.ext0 B2 (Z.fr t x hx), Z.len, ?_, ?_, ?_, ?_⟩
  · rintro b (hb | ⟨_, hb⟩)
    · rcases Z.stab' b hb with h | h
      · exact .inl h
      · exact .inr (.inl h)
    · rcases hstb b hb with (h | ⟨id, hid, loc, h1, h2⟩) | h
      · rcases Z.stab' b h with h | h
        · exact .inl h
        · exact .inr (.inl h)
      · exact .inr (.inl ⟨id, loc, h1, h2⟩)
      · exact .inr (.inr h)
  · intro hdom id l hl
    by_cases hx : ∃ k, k < out.length ∧ mapId dst ids k = id
    · obtain ⟨k, hk, rfl⟩ := hx
      simp only
      rw [hσ k hk, List.getElem?_eq_getElem hk]; simp
    · rw [backRho_out hx] at hl
      simp only
      rw [hσo id hx]
      exact Z.dom hdom id l hl
  · intro id hi hlk
    simp only at hlk
    by_cases hx : ∃ k, k < out.length ∧ mapId dst ids k = id
    · obtain ⟨k, hk, rfl⟩ := hx
      have hkm : k < ids.length := by
        by_cases hkm : k < ids.length
        · exact hkm
        · obtain ⟨i, rfl⟩ : ∃ i, k = ids.length + i := ⟨k - ids.length, by omega⟩
          rw [mapId_new] at hi
          have := idOf_ge o
          omega
      have hj := List.getElem?_eq_getElem hkm
      rw [mapId_old hj]
      exact fun hx => (i3 k _ hj).2 ((z1 _).mpr (.inl hx))
    · rw [hσo id hx] at hlk
      exact fun hx => hlk ((z1 id).mpr (.inl hx))
  · intro id l hi hl hlk
    simp only at hlk
    by_cases hx : ∃ k, k < out.length ∧ mapId dst ids k = id
    · obtain ⟨k, hk, rfl⟩ := hx
      have hkm : k < ids.length := by
        by_cases hkm : k < ids.length
        · exact hkm
        · obtain ⟨i, rfl⟩ : ∃ i, k = ids.length + i := ⟨k - ids.length, by omega⟩
          rw [mapId_new] at hi
          have := idOf_ge o
          omega
      have hj := List.getElem?_eq_getElem hkm
      have e1 := mapId_old (dst := dst) hj
      rw [e1] at hl
      rw [backRho_in hinj hk]
      refine h01 k l ?_
      rw [hρids k _ hj]; exact hl
    · rw [backRho_out hx]
      rw [hσo id hx] at hlk
      have hnf : id ∉ (cond e.shares (dedup frz) []) := fun hm => hlk ((z1 id).mpr (.inr hm))
      rw [Z.keep id hnf]; exact hl
  · intro hcalm
    rw [hd]
    have hcc : e.shares = false ∧ e.muts = false := by
      simp only [calm, ho] at hcalm
      cases fo <;> simp only at hcalm <;> try (cases hcalm; done)
      rename_i g
      simp only [opd, V.fn.injEq] at hfo
      rw [hfo.1, he] at hcalm
      simp at hcalm
      exact ⟨hcalm.2, hcalm.1⟩
    have hids0 : ids = [] := by
      have := hc.2
      rw [hcc.2] at this
      exact nilB_nil (by simpa using this)
    obtain ⟨y1, y2, y3⟩ := Z0 (by rw [hcc.1]; rfl)
    subst y1; subst y2; subst y3
    have hnone : ∀ id k, k < out.length → mapId dst ids k = id → ∃ i, id = dst + 10000 * i ∧ look sf.st id = none := by
      intro id k hk e
      subst hids0
      have := mapId_new (dst := dst) (ids := []) (j := k)
      simp only [List.length_nil, Nat.zero_add] at this
      refine ⟨k, by rw [← e, this], ?_⟩
      rw [← e, this]
      exact (i4 k (by simpa using hk)).1
    refine ⟨rfl, fun id l hl => B2.ids id l (fun h => h) hl, fun id l hl => ?_, fun id b hl => ?_, fun id b hl => ?_, fun b hb => hchg.block b hb fun hm => ?_, fun b hb => .inl hb⟩
    · by_cases hx : ∃ k, k < out.length ∧ mapId dst ids k = id
      · obtain ⟨k, hk, e⟩ := hx
        obtain ⟨i, e1, e2⟩ := hnone id k hk e
        right
        refine ⟨⟨i, e1⟩, ?_⟩
        simp only
        rw [← e, hσ k hk, List.getElem?_eq_getElem hk]; simp
      · rw [backRho_out hx] at hl; exact .inl hl
    · simp only
      rw [hσo id (fun ⟨k, hk, e⟩ => by obtain ⟨i, _, e2⟩ := hnone id k hk e; rw [e2] at hl; cases hl)]; exact hl
    · simp only at hl
      by_cases hx : ∃ k, k < out.length ∧ mapId dst ids k = id
      · obtain ⟨k, hk, e⟩ := hx
        obtain ⟨i, e1, e2⟩ := hnone id k hk e
        exact .inr ⟨i, e1⟩
      · rw [hσo id hx] at hl; exact .inl hl
    · obtain ⟨j, id, loc, h1, _⟩ := hM0 b hm
      rw [hids0] at h1; simp at h1
end Ev
