/- The abstract evaluator 'Ce': equality, keys. -/
import Derived.Test.YtiellonfgcmaaaaGreatCeE
import Derived.ChangeKeysEq
set_option linter.unusedVariables false
set_option linter.unusedSimpArgs false
set_option linter.unusedSectionVars false
namespace Go.Ce
variable {P : Program} {φ : PM} {w : World}

theorem agg_of {l : List AV} {v : Value} (h : VR φ (.agg l) v) : ∃ vs, v = .agg vs ∧ VRs φ l vs.toList := by
  cases h with
  | agg h => exact ⟨_, rfl, by simpa using h⟩

/-- The test of two fields or elements, at fuel d. -/
def EqOk (P : Program) (φ : PM) (w : World) (D : Nat) (eq : TypeId → AV → AV → R Bool) : Prop :=
  ∀ t a b r av bv, eq t a b = .ok r → VR φ a av → VR φ b bv → (Op.equalIn D t av bv).run P w = .ok r w

theorem eqFs_ok {D : Nat} {eq : TypeId → AV → AV → R Bool} (he : EqOk P φ w D eq) : ∀ (fs : List Field) {xs ys : List AV} {xv yv : Array Value} {r : Bool}, eqFs P eq fs xs ys = .ok r → VRs φ xs xv.toList → VRs φ ys yv.toList →
    (Op.eqFields D xv yv fs).run P w = .ok r w := by
  intro fs
  induction fs with
  | nil => intro xs ys xv yv r h hx hy; cases h; rfl
  | cons f fs ih =>
    intro xs ys xv yv r h hx hy
    unfold eqFs at h
    unfold Op.eqFields
    by_cases hn : f.name = "_"
    · have : (f.name == "_") = true := by simpa using hn
      rw [this, cond_true] at h
      rw [if_neg (fun hh => hh hn)]
      exact ih h hx hy
    · have : (f.name == "_") = false := by simpa using hn
      rw [this, cond_false] at h
      obtain ⟨a, ha, h2⟩ := R.bind_ok h
      obtain ⟨b, hb, h3⟩ := R.bind_ok h2
      obtain ⟨q, hq, h4⟩ := R.bind_ok h3
      obtain ⟨av, ha1, ha2⟩ := run_part (P := P) (w := w) ha hx
      obtain ⟨bv, hb1, hb2⟩ := run_part (P := P) (w := w) hb hy
      have hq' := he _ _ _ _ _ _ hq ha2 hb2
      rw [if_pos hn]
      simp only [Sem.run_bind, ha1, hb1, hq', Result.andThen_ok]
      cases q with
      | true => rw [cond_true] at h4; simpa using ih h4 hx hy
      | false => rw [cond_false] at h4; cases h4; simp

theorem eqEs_ok {D : Nat} {eq : TypeId → AV → AV → R Bool} {el : TypeId} {s : Nat} (he : EqOk P φ w D eq) : ∀ (n i : Nat) {xs ys : List AV} {xv yv : Array Value} {r : Bool}, eqEs P (eq el) el s xs ys n i = .ok r → VRs φ xs xv.toList → VRs φ ys yv.toList →
    (Op.eqItems D el s xv yv (List.range' i n)).run P w = .ok r w := by
  intro n
  induction n with
  | zero => intro i xs ys xv yv r h hx hy; cases h; rfl
  | succ n ih =>
    intro i xs ys xv yv r h hx hy
    unfold eqEs at h
    rw [List.range'_succ]
    unfold Op.eqItems
    obtain ⟨a, ha, h2⟩ := R.bind_ok h
    obtain ⟨b, hb, h3⟩ := R.bind_ok h2
    obtain ⟨q, hq, h4⟩ := R.bind_ok h3
    obtain ⟨av, ha1, ha2⟩ := run_part (P := P) (w := w) ha hx
    obtain ⟨bv, hb1, hb2⟩ := run_part (P := P) (w := w) hb hy
    have hq' := he _ _ _ _ _ _ hq ha2 hb2
    simp only [Sem.run_bind, ha1, hb1, hq', Result.andThen_ok]
    cases q with
    | true => rw [cond_true] at h4; simpa using ih (i + 1) h4 hx hy
    | false => rw [cond_false] at h4; cases h4; simp

set_option maxHeartbeats 2000000 in
theorem eqA_ok : ∀ (d D : Nat), d ≤ D → EqOk P φ w D (eqA P d) := by
  intro d
  induction d with
  | zero => intro D _ t a b r av bv h; cases h
  | succ d ih =>
    intro D hD t a b r av bv h ha hb
    obtain ⟨D, rfl⟩ : ∃ D', D = D' + 1 := ⟨D - 1, by omega⟩
    have ih' := ih D (by omega)
    unfold eqA at h
    split at h
    · rename_i hu
      split at h
      · cases ha; cases hb; cases h; simp [Op.equalIn, run_underlying hu]
      · cases h
    · rename_i k0 hu
      split at h
      · rename_i k p k' q
        obtain ⟨hk, h2⟩ := cond_ok h
        cases ha; cases hb; cases h2
        have hkk := beqK_ok hk
        rw [eqI_eq]
        simp [Op.equalIn, run_underlying hu, hkk]
      · cases h
    · rename_i hu
      split at h
      · cases h
        obtain ⟨s, rfl, rfl⟩ := str_of ha
        obtain ⟨u, rfl, rfl⟩ := str_of hb
        rw [bytesEq_eq]
        simp [Op.equalIn, run_underlying hu, beq_toListBytes, ByteArray.toList_eq]
      · cases h
    · rename_i el hu
      split at h
      · cases ha; cases hb; cases h; simp [Op.equalIn, run_underlying hu]
      · cases ha; cases hb; cases h; simp [Op.equalIn, run_underlying hu]
      · cases ha; cases hb; cases h; simp [Op.equalIn, run_underlying hu]
      · rename_i n o m q
        unfold eqPtr at h
        obtain ⟨s, hs, h2⟩ := R.bind_ok h
        obtain ⟨hnm, h3⟩ := cond_ok h2
        obtain ⟨hs0, h4⟩ := cond_ok' h3
        obtain ⟨i, hi, hsi⟩ := sizeA_ok hs
        cases ha with
        | ptr hpa =>
          cases hb with
          | ptr hpb =>
            cases h4
            have hnm' := beqT hnm
            rw [hnm', hpb] at hpa
            cases hpa
            have hne : i.size ≠ 0 := by rw [hsi]; exact beqN hs0
            rename_i blk sz0
            have e : ((⟨blk, o, none⟩ : Addr) == ⟨blk, q, none⟩) = Nat.beq o q := by
              rw [Bool.eq_iff_iff]; simp
            simp only [Op.equalIn, Sem.run_bind, run_underlying hu, Result.andThen_ok, run_sizeOf hi, hne, ne_eq, not_false_eq_true, if_true, sameAddr, beq_self_eq_true]
            rw [← e]
            rfl
      · cases h
    · rename_i ms hu
      split at h
      · cases ha; cases hb; cases h; simp [Op.equalIn, run_underlying hu]
      · cases ha; cases hb; cases h; simp [Op.equalIn, run_underlying hu]
      · cases ha; cases hb; cases h; simp [Op.equalIn, run_underlying hu]
      · rename_i tx vx ty vy
        cases ha with
        | iface _ hva =>
          cases hb with
          | iface _ hvb =>
            cases hnb : Nat.beq tx ty with
            | true =>
              rw [hnb, cond_true] at h
              have e := beqT hnb
              subst e
              split at h
              · rename_i i hi
                obtain ⟨hc, h2⟩ := cond_ok h
                have := ih' _ _ _ _ _ _ h2 hva hvb
                simp only [Op.equalIn, Sem.run_bind, run_underlying hu, Result.andThen_ok, ne_eq, not_true_eq_false, if_false, run_typeInfo hi, hc, Bool.not_true, Bool.false_eq_true]
                simpa using this
              · cases h
            | false =>
              rw [hnb, cond_false] at h
              have e := beqN hnb
              cases h
              simp [Op.equalIn, run_underlying hu, e]
      · cases h
    · rename_i fs hu
      split at h
      · obtain ⟨hst, h2⟩ := cond_ok' h
        obtain ⟨va, rfl, hva⟩ := agg_of ha
        obtain ⟨vb, rfl, hvb⟩ := agg_of hb
        have hf : P.fieldsOf t = fs := by simp [Program.fieldsOf, hu]
        rw [run_equalIn_struct w D t va vb (by rw [hf]; exact hu) hst, hf]
        exact eqFs_ok ih' _ h2 hva hvb
      · cases h
    · rename_i len el hu
      split at h
      · obtain ⟨s, hs, h2⟩ := R.bind_ok h
        obtain ⟨i, hi, hsi⟩ := sizeA_ok hs
        obtain ⟨va, rfl, hva⟩ := agg_of ha
        obtain ⟨vb, rfl, hvb⟩ := agg_of hb
        rw [run_equalIn_array w D va vb hu hi, List.range_eq_range']
        have hce : P.cellsOf el = s := by simp [Program.cellsOf, hi, hsi]
        rw [hce]
        exact eqEs_ok ih' _ _ h2 hva hvb
      · cases h
    · rename_i el hu
      split at h
      all_goals first | (cases ha; cases hb; cases h; simp only [Op.equalIn, Sem.run_bind, run_underlying hu, Result.andThen_ok]; rfl) | cases h
    · rename_i kt et hu
      split at h
      all_goals first | (cases ha; cases hb; cases h; simp only [Op.equalIn, Sem.run_bind, run_underlying hu, Result.andThen_ok]; rfl) | cases h
    · rename_i ps rs vr hu
      split at h
      all_goals first | (cases ha; cases hb; cases h; simp only [Op.equalIn, Sem.run_bind, run_underlying hu, Result.andThen_ok]; rfl) | cases h
    · cases h

end Go.Ce
