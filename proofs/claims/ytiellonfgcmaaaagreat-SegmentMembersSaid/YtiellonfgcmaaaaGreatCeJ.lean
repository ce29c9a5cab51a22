/- The abstract evaluator 'Ce': maps. -/
import Derived.Test.YtiellonfgcmaaaaGreatCeI
set_option linter.unusedVariables false
set_option linter.unusedSimpArgs false
set_option linter.unusedSectionVars false
namespace Go.Ce
variable {P : Program} {φ : PM} {w : World} {H H' : Hp} {x x' : Nat} {v : AV}

theorem forIn_unit {α : Type} (g : α → PUnit → Sem (ForInStep PUnit)) (P : Program) (w : World) : ∀ (l : List α), (∀ a ∈ l, (g a ⟨⟩).run P w = .ok (.yield ⟨⟩) w) →
    (forIn l PUnit.unit g : Sem PUnit).run P w = .ok PUnit.unit w := by
  intro l
  induction l with
  | nil => intro _; rfl
  | cons a l ih =>
    intro h
    rw [List.forIn_cons]
    simp only [Sem.run_bind, h a (List.mem_cons_self ..), Result.andThen_ok]
    exact ih (fun b hb => h b (List.mem_cons_of_mem _ hb))

theorem keyA_ok (em : Bool) : ∀ (d D : Nat) (t : TypeId) (a : AV) (av : Value), d ≤ D → keyA P d t a = true → VR φ a av → (Instr.checkKey em D t av).run P w = .ok () w := by
  intro d
  induction d with
  | zero => intro D t a av _ h; cases h
  | succ d ih =>
    intro D t a av hD h ha
    obtain ⟨D, rfl⟩ : ∃ D', D = D' + 1 := ⟨D - 1, by omega⟩
    unfold keyA at h
    unfold Instr.checkKey
    split at h
    · rename_i ms hu
      split at h
      · rename_i u y
        split at h
        · rename_i i hi
          cases ha with
          | iface _ hv =>
            cases hc : i.comparable with
            | false => rw [hc] at h; cases h
            | true =>
              rw [hc, cond_true] at h
              have := ih D u _ _ (by omega) h hv
              simp only [Sem.run_bind, run_underlying hu, Result.andThen_ok, run_typeInfo hi, hc, Bool.not_true, Bool.false_eq_true, if_false]
              simpa using this
        · cases h
      · cases ha
        simp only [Sem.run_bind, run_underlying hu, Result.andThen_ok, Sem.run_pure]
      · cases h
    · rename_i len el hu
      split at h
      · rename_i l
        split at h
        · rename_i s hs
          obtain ⟨inf, hinf, hsi⟩ := sizeA_ok hs
          obtain ⟨vs, rfl, hvs⟩ := agg_of ha
          simp only [Sem.run_bind, run_underlying hu, Result.andThen_ok]
          simp only [Std.Legacy.Range.forIn_eq_forIn_range', Std.Legacy.Range.size, Nat.sub_zero, Nat.add_one_sub_one, Nat.div_one]
          rw [← List.range_eq_range']
          rw [forIn_unit _ P w (List.range len) (fun i hi => ?_)]
          · rfl
          · have hi' := List.all_eq_true.1 h i hi
            split at hi'
            · rename_i p hp
              obtain ⟨pv, h1, h2⟩ := run_part (P := P) (w := w) hp hvs
              have h1 : (part el vs (i * inf.size)).run P w = .ok pv w := by rw [hsi]; simpa using h1
              simp only [Sem.run_bind, run_sizeOf hinf, Result.andThen_ok, h1, ih D el _ _ (by omega) hi' h2, Sem.run_pure]
            · cases hi'
        · cases h
      · cases h
    · rename_i fs hu
      split at h
      · rename_i l
        obtain ⟨vs, rfl, hvs⟩ := agg_of ha
        simp only [Sem.run_bind, run_underlying hu, Result.andThen_ok]
        rw [← Array.forIn_toList]
        rw [forIn_unit _ P w fs.toList (fun f hf => ?_)]
        · rfl
        · have hf' := List.all_eq_true.1 h f hf
          by_cases hn : f.name = "_"
          · rw [if_neg (fun hh => hh hn)]; rfl
          · have e : (f.name == "_") = false := by simpa using hn
            rw [e, cond_false] at hf'
            rw [if_pos hn]
            split at hf'
            · rename_i p hp
              obtain ⟨pv, h1, h2⟩ := run_part (P := P) (w := w) hp hvs
              have h1 : (part f.type vs f.offset).run P w = .ok pv w := by simpa using h1
              simp only [Sem.run_bind, Result.andThen_ok, h1, ih D _ _ _ (by omega) hf' h2, Sem.run_pure]
            · cases hf'
      · cases h
    · rename_i d' h1 h2 h3 hu
      simp only [Sem.run_bind, run_underlying hu, Result.andThen_ok]
      cases d' <;> first | rfl | exact absurd rfl (h1 _) | exact absurd rfl (h2 _ _) | exact absurd rfl (h3 _)
    · cases h

/-! ### Finding a key -/

theorem mapOf_ok {n : Nat} {q : Nat × List (AV × AV × Nat) × Nat} (h : mapOf (H.get n) = .ok q) : H.get n = some ⟨q.1, .map q.2.1 q.2.2⟩ := by
  unfold mapOf at h
  split at h
  · rename_i v es c e; cases h; exact e
  · cases h

theorem Rel.map (r : Rel φ H.get x w) {n : Nat} {ver : Nat} {l : List (AV × AV × Nat)} {clock : Nat} (h : H.get n = some ⟨ver, .map l clock⟩) :
    ∃ b sz es, φ n = some (b, sz) ∧ w.heap[b]? = some (.map es.toArray clock) ∧ ERs φ l es := by
  have := r.blk n _ h
  cases this with
  | map h hb hl => exact ⟨_, _, _, h, hb, hl⟩

/-- An index and a value, or nothing: as the evaluator finds it, as the model does. -/
inductive FR (φ : PM) : Option (Nat × AV) → Option (Nat × Value) → Prop
  | none : FR φ none none
  | some (i : Nat) {a : AV} {v : Value} (h : VR φ a v) : FR φ (some (i, a)) (some (i, v))

theorem findAsking_ok {kt : TypeId} {k : AV} {kv : Value} (hk : VR φ k kv) : ∀ (l : List (AV × AV × Nat)) (es : List MapEntry) (i : Nat) (r : Option (Nat × AV)), findA P kt k l i = .ok r → ERs φ l es →
    ∃ rv, (Instr.findAsking kt kv es i).run P w = .ok rv w ∧ FR φ r rv := by
  intro l
  induction l with
  | nil => intro es i r h he; cases he; cases h; exact ⟨_, rfl, .none⟩
  | cons e l ih =>
    intro es i r h he
    cases he with
    | cons hke hve ht =>
      unfold findA at h
      obtain ⟨b, hb, h2⟩ := R.bind_ok h
      have h3 : (Op.equal kt kv _).run P w = .ok b w := eqA_ok (φ := φ) (w := w) dE 10000 (by decide) _ _ _ _ _ _ hb hk hke
      unfold Instr.findAsking
      simp only [Sem.run_bind, h3, Result.andThen_ok]
      cases b with
      | true => rw [cond_true] at h2; cases h2; exact ⟨_, rfl, .some _ hve⟩
      | false =>
        rw [cond_false] at h2
        simpa using ih _ (i + 1) r h2 ht

theorem findNow_ok {kt : TypeId} {d : TypeDesc} (hu : P.underlying kt = some d) {k : AV} {kv : Value} (hk : VR φ k kv) : ∀ (l : List (AV × AV × Nat)) (es : List MapEntry) (i : Nat) (r : Option (Nat × AV)) (q : Option (Nat × Value)), findA P kt k l i = .ok r → ERs φ l es →
    Instr.findNow d kv es i = some q → FR φ r q := by
  intro l
  induction l with
  | nil => intro es i r q h he hq; cases he; cases h; cases hq; exact .none
  | cons e l ih =>
    intro es i r q h he hq
    cases he with
    | cons hke hve ht =>
      unfold findA at h
      obtain ⟨b, hb, h2⟩ := R.bind_ok h
      have hE : ∀ w, (Op.equal kt kv _).run P w = .ok b w := fun w => eqA_ok (φ := φ) (w := w) dE 10000 (by decide) _ _ _ _ _ _ hb hk hke
      unfold Instr.findNow at hq
      rename_i kx vx ent entl
      have hsame : ∀ c, Instr.sameNow d kv ent.key = some c → c = b := by
        intro c hc
        have h3 := hE default
        unfold Instr.sameNow at hc
        split at hc
        · rename_i k1 k2 p k3 q' hke'
          split at hc
          · rename_i hkk
            cases hc
            rw [hke', ← hkk] at h3
            have h4 := run_equalIn_int (P := P) default 9999 kt k2 k1 p q' hu
            have h5 := h3.symm.trans h4
            injection h5 with h6
            exact h6.symm
          · cases hc
        · rename_i p q' hke'
          cases hc
          rw [hke'] at h3
          have h4 := run_equalIn_string (P := P) default 9999 kt p q' hu
          have h5 := h3.symm.trans h4
          injection h5 with h6
          rw [h6, beq_toListBytes]
        · rename_i p q' hke'
          cases hc
          rw [hke'] at h3
          have h4 := run_equalIn_bool' (P := P) default 9999 kt p q' hu
          have h5 := h3.symm.trans h4
          injection h5 with h6
          exact h6.symm
        · cases hc
      split at hq
      · rename_i hs
        have := hsame _ hs
        subst this
        rw [cond_true] at h2
        cases h2; cases hq
        exact .some _ hve
      · rename_i hs
        have := hsame _ hs
        subst this
        rw [cond_false] at h2
        exact ih _ (i + 1) r q h2 ht hq
      · cases hq

theorem findA_ok {kt : TypeId} {d : TypeDesc} (hu : P.underlying kt = some d) {k : AV} {kv : Value} (hk : VR φ k kv) {l : List (AV × AV × Nat)} {es : List MapEntry} {r : Option (Nat × AV)} (h : findA P kt k l 0 = .ok r) (he : ERs φ l es) :
    ∃ rv, (Instr.findKey kt kv es).run P w = .ok rv w ∧ FR φ r rv := by
  unfold Instr.findKey
  simp only [Sem.run_bind, run_underlying hu, Result.andThen_ok]
  cases hq : Instr.findNow d kv es 0 with
  | some q => exact ⟨q, rfl, findNow_ok hu hk l es 0 r q h he hq⟩
  | none => exact findAsking_ok hk l es 0 r h he

end Go.Ce
