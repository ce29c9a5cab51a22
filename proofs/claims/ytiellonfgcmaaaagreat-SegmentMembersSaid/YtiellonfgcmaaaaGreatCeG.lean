/- The abstract evaluator 'Ce': comparisons, bounds, addresses, composite values. -/
import Derived.Test.YtiellonfgcmaaaaGreatCeF
set_option linter.unusedVariables false
set_option linter.unusedSimpArgs false
set_option linter.unusedSectionVars false
namespace Go.Ce
variable {P : Program} {φ : PM} {w : World} {H H' : Hp} {x x' : Nat} {v : AV}

def numeric : Value → Bool
  | .int _ _ => true
  | .float _ _ => true
  | .complex _ _ _ => true
  | .string _ => true
  | _ => false

def numA : AV → Bool
  | .int _ _ => true
  | .str _ => true
  | .junk => true
  | _ => false

theorem VR.notNum {a : AV} {av : Value} (h : VR φ a av) (hn : numA a = false) : numeric av = false := by
  cases h <;> first | rfl | cases hn

theorem binOp_eql {t : TypeId} {a b : Value} (h : numeric a = false) : binOp .eql t a b = (do pure (.bool (← Op.equal t a b))) := by
  cases a <;> first | (cases h; done) | (cases b <;> rfl)

theorem binOp_neq {t : TypeId} {a b : Value} (h : numeric a = false) : binOp .neq t a b = (do pure (.bool (!(← Op.equal t a b)))) := by
  cases a <;> first | (cases h; done) | (cases b <;> rfl)

theorem isConst_of {o : Operand} (h : isConstOp o = true) : ∃ c, o = .const c := by
  cases o <;> first | (cases h; done) | exact ⟨_, rfl⟩

theorem eqGuard_free {op : BinOp} {t : TypeId} {xo yo : Operand} {a b : Value} (h1 : a = .nilIface → b ≠ .nilIface) (h2 : ∀ c d, a = .agg c → b ≠ .agg d) : (eqGuard op t xo yo a b).run P w = .ok () w := by
  have key : ∀ op : BinOp, (op = .eql ∨ op = .neq) → (eqGuard op t xo yo a b).run P w = .ok () w := by
    intro op hop
    rcases hop with rfl | rfl <;>
    · cases a <;> first
        | rfl
        | (cases b <;> first | rfl | exact absurd rfl (h1 rfl) | exact absurd rfl (h2 _ _ rfl))
  cases op <;> first | exact key _ (.inl rfl) | exact key _ (.inr rfl) | rfl

theorem nilIface_inv {a : AV} (h : VR φ a .nilIface) : a = .nilIface ∨ a = .junk := by
  cases h <;> simp

theorem agg_inv {a : AV} {c : Array Value} (h : VR φ a (.agg c)) : (∃ l, a = .agg l) ∨ a = .junk := by
  generalize hv : Value.agg c = v at h
  cases h <;> first | (cases hv; done) | simp

theorem guardA_ok {op : BinOp} {t : TypeId} {xo yo : Operand} {a b : AV} {av bv : Value} (h : guardA P t xo yo a b = true) (ha : VR φ a av) (hb : VR φ b bv) :
    (eqGuard op t xo yo av bv).run P w = .ok () w := by
  unfold guardA at h
  split at h
  · cases ha; cases hb
    unfold eqGuard
    rcases (Bool.or_eq_true _ _).mp h with h | h <;> obtain ⟨c, rfl⟩ := isConst_of h <;> cases op <;> simp
  · obtain ⟨va, rfl, _⟩ := agg_of ha
    obtain ⟨vb, rfl, _⟩ := agg_of hb
    have : P.eqGuardType P.depth t = false := by simpa using h
    cases op <;> simp [eqGuard, run_program, this]
  · cases h
  · cases h
  · rename_i h3 h4 h1 h2
    refine eqGuard_free (fun e1 e2 => ?_) (fun c d e1 e2 => ?_)
    · subst e1; subst e2
      rcases nilIface_inv ha with rfl | rfl
      · rcases nilIface_inv hb with rfl | rfl
        · exact h1 rfl rfl
        · exact h4 rfl
      · exact h3 rfl
    · subst e1; subst e2
      rcases agg_inv ha with ⟨l, rfl⟩ | rfl
      · rcases agg_inv hb with ⟨m, rfl⟩ | rfl
        · exact h2 _ _ rfl rfl
        · exact h4 rfl
      · exact h3 rfl

theorem eqlA_ok {op : BinOp} {t : TypeId} {xo yo : Operand} {a b : AV} {av bv : Value} {r : Bool} (h : eqlA P t xo yo a b = .ok r) (ha : VR φ a av) (hb : VR φ b bv) :
    (eqGuard op t xo yo av bv).run P w = .ok () w ∧ (Op.equal t av bv).run P w = .ok r w := by
  unfold eqlA at h
  obtain ⟨hg, h2⟩ := cond_ok h
  exact ⟨guardA_ok hg ha hb, eqA_ok (φ := φ) (w := w) dE 10000 (by decide) _ _ _ _ _ _ h2 ha hb⟩

theorem eqGuard_int {op : BinOp} {t : TypeId} {xo yo : Operand} {k k' : IntKind} {a b : Int} : (eqGuard op t xo yo (.int k a) (.int k' b)).run P w = .ok () w := by
  unfold eqGuard; cases op <;> simp

theorem eqGuard_str {op : BinOp} {t : TypeId} {xo yo : Operand} {a b : ByteArray} : (eqGuard op t xo yo (.string a) (.string b)).run P w = .ok () w := by
  unfold eqGuard; cases op <;> simp

theorem binA_ok {op : BinOp} {t : TypeId} {xo yo : Operand} {a b : AV} {av bv : Value} (h : binA P op t xo yo a b = .ok v) (ha : VR φ a av) (hb : VR φ b bv) :
    ∃ val, (do eqGuard op t xo yo av bv; binOp op t av bv : Sem Value).run P w = .ok val w ∧ VR φ v val := by
  unfold binA at h
  split at h
  · split at h
    · cases ha; cases hb
      obtain ⟨val, h1, h2⟩ := intB_ok (P := P) (φ := φ) (w := w) (t := t) h
      exact ⟨val, by simp only [Sem.run_bind, eqGuard_int, Result.andThen_ok, h1], h2⟩
    · cases h
  · split at h
    · obtain ⟨s, rfl, _⟩ := str_of ha
      obtain ⟨u, rfl, _⟩ := str_of hb
      obtain ⟨val, h1, h2⟩ := strA_ok (P := P) (φ := φ) (w := w) (t := t) h ha hb
      exact ⟨val, by simp only [Sem.run_bind, eqGuard_str, Result.andThen_ok, h1], h2⟩
    · cases h
  · rename_i hni hns
    have hj : ∀ r, eqlA P t xo yo a b = .ok r → numA a = false := by
      intro r hr
      unfold eqlA at hr
      obtain ⟨hg, _⟩ := cond_ok hr
      cases a <;> first | rfl | (exfalso; exact hni _ _ rfl) | (exfalso; exact hns _ rfl) | skip
      all_goals (unfold guardA at hg; cases b <;> first | (cases hg; done) | simp at hg)
    unfold binO at h
    split at h
    · obtain ⟨r, hr, h2⟩ := R.bind_ok h
      obtain ⟨h3, h4⟩ := eqlA_ok (op := .eql) (w := w) hr ha hb
      cases h2
      refine ⟨.bool r, ?_, .bool _⟩
      rw [binOp_eql (ha.notNum (hj _ hr))]
      simp only [Sem.run_bind, h3, Result.andThen_ok, h4, Sem.run_pure]
    · obtain ⟨r, hr, h2⟩ := R.bind_ok h
      obtain ⟨h3, h4⟩ := eqlA_ok (op := .neq) (w := w) hr ha hb
      cases h2
      refine ⟨.bool (!r), ?_, .bool _⟩
      rw [binOp_neq (ha.notNum (hj _ hr))]
      simp only [Sem.run_bind, h3, Result.andThen_ok, h4, Sem.run_pure]
    · cases h

end Go.Ce
