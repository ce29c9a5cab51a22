/- The abstract evaluator 'Ce': regions that draw their order: every order comes to the same. -/
import Derived.Test.YtiellonfgcmaaaaGreatCeR
set_option linter.unusedVariables false
set_option linter.unusedSimpArgs false
set_option linter.unusedSectionVars false
namespace Go.Ce
variable {P : Program}

/-! ### What is known of a temporary -/

noncomputable def known (s : St) (t : Nat) : Option AV := match lookL s.L t with | some v => some v | none => s.T.get t

theorem getT_known (s : St) (t : Nat) : getT s.L s.T t = .junk ∨ known s t = some (getT s.L s.T t) := by
  unfold getT known
  cases lookL s.L t with
  | some v => exact .inr rfl
  | none =>
    show orJunk (s.T.get t) = .junk ∨ s.T.get t = some (orJunk (s.T.get t))
    cases s.T.get t with
    | some v => exact .inr rfl
    | none => exact .inl rfl

structure KOk (km : Nat) (s : St) : Prop where
  loc : ∀ t a, lookL s.L t = some a → kept km t = false
  kep : ∀ t a, s.T.get t = some a → kept km t = true

theorem lookL_cons (t : Nat) (v : AV) (L : Lo) (j : Nat) : lookL (.cons t v L) j = if t = j then some v else lookL L j := by
  show (Bool.rec (lookL L j) (some v) (Nat.beq t j) : Option AV) = _
  by_cases h : t = j
  · subst h; simp
  · rw [beqF h, if_neg h]

theorem putA_known {nt km : Nat} {o : Oper} {s s' : St} {v : AV} {H : Hp} {x : Nat} (h : putA nt km o s v H x = .ok s') (hk : KOk km s) :
    KOk km s' ∧ (∀ t u, known s' t = some u → (o.dst = some t ∧ u = v) ∨ (o.dst ≠ some t ∧ known s t = some u)) ∧ (∀ t, o.dst = some t → t < nt) ∧ s'.H = H ∧ s'.x = x ∧ s'.D = s.D := by
  unfold putA putA5 at h
  cases hd : o.dst with
  | none => rw [hd] at h; cases h; exact ⟨⟨hk.loc, hk.kep⟩, fun t u hu => .inr ⟨by simp, hu⟩, fun t e => (by cases e), rfl, rfl, rfl⟩
  | some d =>
    rw [hd] at h
    have h : putN nt (kept km d) s d v H x = .ok s' := h
    unfold putN putN5 at h
    cases hlt : Nat.blt d nt with
    | false => rw [hlt] at h; cases h
    | true =>
      rw [hlt] at h
      cases hkd : kept km d with
      | false =>
        rw [hkd] at h
        cases h
        refine ⟨⟨fun t a ht => ?_, hk.kep⟩, fun t u hu => ?_, fun t e => by cases e; exact bltT hlt, rfl, rfl, rfl⟩
        · rw [lookL_cons] at ht
          split at ht
          · rename_i e; subst e; exact hkd
          · exact hk.loc t a ht
        · unfold known at hu
          rw [lookL_cons] at hu
          by_cases e : d = t
          · rw [if_pos e] at hu; exact .inl ⟨by rw [e], by cases hu; rfl⟩
          · rw [if_neg e] at hu; exact .inr ⟨fun h => e (by cases h; rfl), hu⟩
      | true =>
        rw [hkd] at h
        cases h
        refine ⟨⟨hk.loc, fun t a ht => ?_⟩, fun t u hu => ?_, fun t e => by cases e; exact bltT hlt, rfl, rfl, rfl⟩
        · have ht : (s.T.ins (dT nt) d v).get t = some a := ht
          rcases Tr.get_ins ht with ⟨rfl, _⟩ | ⟨_, h2⟩
          · exact hkd
          · exact hk.kep t a h2
        · unfold known at hu
          cases hl : lookL s.L t with
          | some a =>
            rw [hl] at hu
            have hne : d ≠ t := fun e => by subst e; rw [hk.loc d a hl] at hkd; cases hkd
            refine .inr ⟨fun h => hne (by cases h; rfl), ?_⟩
            unfold known; rw [hl]; exact hu
          | none =>
            rw [hl] at hu
            have hu : (s.T.ins (dT nt) d v).get t = some u := hu
            rcases Tr.get_ins hu with ⟨rfl, rfl⟩ | ⟨hne, h2⟩
            · exact .inl ⟨rfl, rfl⟩
            · refine .inr ⟨fun h => hne (by cases h; rfl), ?_⟩
              unfold known; rw [hl]; exact h2

/-! ### The trace of the text's own order -/

structure Ev where
  o : Oper
  w : Bool
  v : AV
  p : Hp
  q : Hp
  d : Delta

structure EvOk (E : Env) (rec : Rec) (nt km : Nat) (ops : Array Oper) (bef : Nat → Nat) (st : Nat → St) (rr : Nat → List Rcd) (k : Nat) (e : Ev) : Prop where
  o : ops[k]? = some e.o
  w : wantedA ops (st k).L (st k).T e.o.guard = .ok e.w
  le : (st k).x ≤ (st (k + 1)).x
  put : putA nt km e.o (st k) e.v (applyD e.d (st k).H) (st (k + 1)).x = .ok (st (k + 1))
  sub : ∀ n b, e.p.get n = some b → (st k).H.get n = some b
  run : e.w = true → execA e.o.op E rec (evalT (st k).L (st k).T) e.p (st k).x = .ok e.v e.q (st (k + 1)).x ∧ addR bef (rcdOf k e.p e.q (st k).x) (rr k) = .ok (rr (k + 1)) ∧ e.d = (rcdOf k e.p e.q (st k).x).delta
  off : e.w = false → e.v = .tup [] ∧ e.d = [] ∧ rr (k + 1) = rr k ∧ (st (k + 1)).x = (st k).x ∧ e.p = .e ∧ e.q = .e

theorem casesR_ok {β : Type} {r : O3} {f : AV → Hp → Nat → R β} {k j : Nat} {b : β} (h : (O3.casesOn r f R.no (fun _ _ _ => .no k) (fun _ => .no j) : R β) = .ok b) : ∃ v H x, r = .ok v H x ∧ f v H x = .ok b := by
  cases r with
  | ok v H x => exact ⟨v, H, x, rfl, h⟩
  | no c => cases h
  | pan v H x => cases h
  | or l => cases h

theorem putA_x {nt km : Nat} {o : Oper} {s s' : St} {v : AV} {H : Hp} {x : Nat} (h : putA nt km o s v H x = .ok s') : s'.x = x := by
  unfold putA putA5 at h
  cases hd : o.dst with
  | none => rw [hd] at h; cases h; rfl
  | some d =>
    rw [hd] at h
    have h : putN nt (kept km d) s d v H x = .ok s' := h
    unfold putN putN5 at h
    cases hlt : Nat.blt d nt with
    | false => rw [hlt] at h; cases h
    | true => rw [hlt] at h; cases hk : kept km d <;> rw [hk] at h <;> cases h <;> rfl

theorem drawStep_ok {E : Env} {rec : Rec} {nt km : Nat} {ops : Array Oper} {bef : Nat → Nat} {o : Oper} {k : Nat} {rs rs' : List Rcd} {s s' : St} {b : Bool} (ho : ops[k]? = some o) (hw : wantedA ops s.L s.T o.guard = .ok b)
    (h : drawStep E rec nt km bef o k rs s b = .ok (rs', s')) (st : Nat → St) (rr : Nat → List Rcd) (h1 : st k = s) (h2 : st (k + 1) = s') (h3 : rr k = rs) (h4 : rr (k + 1) = rs') : ∃ e, EvOk E rec nt km ops bef st rr k e := by
  subst h1 h2 h3 h4
  unfold drawStep drawStep5 at h
  cases b with
  | true =>
    rw [cond_true, Tr.force_eq] at h
    obtain ⟨v, q, x, hx, h5⟩ := casesR_ok h
    obtain ⟨hle, h6⟩ := cond_ok h5
    obtain ⟨rs', hr, h7⟩ := R.bind_ok h6
    obtain ⟨s', hp, h8⟩ := R.bind_ok h7
    have e1 : rr (k + 1) = rs' := by injection h8 with h; injection h with a b; exact a.symm
    have e2 : st (k + 1) = s' := by injection h8 with h; injection h with a b; exact b.symm
    have ex : (st (k + 1)).x = x := by rw [e2]; exact putA_x hp
    refine ⟨⟨o, true, v, _, q, (rcdOf k _ q (st k).x).delta⟩, ho, hw, by rw [ex]; exact bleT hle, by rw [ex, e2]; exact hp, fun n b hn => footA_sub hn, fun _ => ⟨by rw [ex]; exact hx, by rw [e1]; exact hr, rfl⟩, fun e => by cases e⟩
  | false =>
    rw [cond_false] at h
    obtain ⟨s', hp, h8⟩ := R.bind_ok h
    have e1 : rr (k + 1) = rr k := by injection h8 with h; injection h with a b; exact a.symm
    have e2 : st (k + 1) = s' := by injection h8 with h; injection h with a b; exact b.symm
    have ex : (st (k + 1)).x = (st k).x := by rw [e2]; exact putA_x hp
    exact ⟨⟨o, false, .tup [], .e, .e, []⟩, ho, hw, by rw [ex]; exact Nat.le_refl _, by rw [ex, e2]; exact hp, fun n b hn => empty_sub n b hn, fun e => (by cases e), fun _ => ⟨rfl, rfl, e1, ex, rfl, rfl⟩⟩

theorem EvOk.congr {E : Env} {rec : Rec} {nt km : Nat} {ops : Array Oper} {bef : Nat → Nat} {st st' : Nat → St} {rr rr' : Nat → List Rcd} {k : Nat} {e : Ev} (h : EvOk E rec nt km ops bef st rr k e)
    (h1 : st' k = st k) (h2 : st' (k + 1) = st (k + 1)) (h3 : rr' k = rr k) (h4 : rr' (k + 1) = rr (k + 1)) : EvOk E rec nt km ops bef st' rr' k e := by
  refine ⟨h.o, ?_, ?_, ?_, ?_, ?_, ?_⟩
  · rw [h1]; exact h.w
  · rw [h1, h2]; exact h.le
  · rw [h1, h2]; exact h.put
  · rw [h1]; exact h.sub
  · rw [h1, h2, h3, h4]; exact h.run
  · rw [h1, h2, h3, h4]; exact h.off

theorem drawA_trace {E : Env} {rec : Rec} {nt km : Nat} {ops : Array Oper} {bef : Nat → Nat} : ∀ {l : List Oper} {i : Nat} {rs : List Rcd} {s s' : St}, (∀ j, j < l.length → l[j]? = ops[i + j]?) → drawA E rec nt km ops bef l i rs s = .ok s' →
    ∃ st rr, st i = s ∧ rr i = rs ∧ st (i + l.length) = s' ∧ ∀ k, i ≤ k → k < i + l.length → ∃ e, EvOk E rec nt km ops bef st rr k e := by
  intro l
  induction l with
  | nil =>
    intro i rs s s' _ h
    cases h
    exact ⟨fun _ => s, fun _ => rs, rfl, rfl, rfl, fun k h1 h2 => by simp at h2; omega⟩
  | cons o l ih =>
    intro i rs s s' hl h
    have h : ((wantedA ops s.L s.T o.guard).bind fun w => (drawStep E rec nt km bef o i rs s w).bind fun q => drawA E rec nt km ops bef l (Nat.succ i) q.1 q.2) = .ok s' := h
    obtain ⟨b, hb, h2⟩ := R.bind_ok h
    obtain ⟨q, hq, h3⟩ := R.bind_ok h2
    have ho : ops[i]? = some o := by have := hl 0 (by simp); simpa using this.symm
    obtain ⟨st, rr, e1, e2, e3, e4⟩ := ih (i := Nat.succ i) (fun j hj => by
      have := hl (j + 1) (by simpa using hj)
      rw [show Nat.succ i + j = i + (j + 1) from by omega, ← this]; rfl) h3
    refine ⟨fun k => if k = i then s else st k, fun k => if k = i then rs else rr k, if_pos rfl, if_pos rfl, ?_, fun k hk1 hk2 => ?_⟩
    · have hne : ¬ (i + (o :: l).length = i) := by rw [List.length_cons]; omega
      show (if i + (o :: l).length = i then s else st (i + (o :: l).length)) = s'
      rw [if_neg hne, ← e3]
      congr 1
      rw [List.length_cons]; omega
    · by_cases hki : k = i
      · subst hki
        exact drawStep_ok ho hb hq _ _ (if_pos rfl) (by rw [if_neg (by omega)]; exact e1) (if_pos rfl) (by rw [if_neg (by omega)]; exact e2)
      · obtain ⟨e, he⟩ := e4 k (by omega) (by simp at hk2; omega)
        exact ⟨e, he.congr (if_neg hki) (if_neg (by omega)) (if_neg hki) (if_neg (by omega))⟩

/-! ### The text's order, name by name -/

section
variable {E : Env} {rec : Rec} {nt km : Nat} {ops : Array Oper} {bef : Nat → Nat} {st : Nat → St} {rr : Nat → List Rcd} {ev : Nat → Ev} {m : Nat}

def dH' (st : Nat → St) (ev : Nat → Ev) (k n : Nat) : Option (Option Blk × Nat) := (dget (ev k).d n).map fun ob => (ob, (st (k + 1)).x)
def dT' (st : Nat → St) (ev : Nat → Ev) (k t : Nat) : Option (Option AV × Nat) := if (ev k).o.dst = some t then some (some (ev k).v, (st (k + 1)).x) else none
noncomputable def hH (st : Nat → St) (n : Nat) : Option Blk × Nat := ((st 0).H.get n, (st 0).x)
noncomputable def hT (st : Nat → St) (t : Nat) : Option AV × Nat := (known (st 0) t, (st 0).x)
noncomputable def oH (st : Nat → St) (ev : Nat → Ev) (S : Nat → Bool) := ov (dH' st ev) S (hH st)
noncomputable def oT (st : Nat → St) (ev : Nat → Ev) (S : Nat → Bool) := ov (dT' st ev) S (hT st)

theorem x_mono (hev : ∀ k, k < m → EvOk E rec nt km ops bef st rr k (ev k)) {i j : Nat} (hij : i ≤ j) (hj : j ≤ m) : (st i).x ≤ (st j).x := by
  induction j with
  | zero => rw [show i = 0 from by omega]; exact Nat.le_refl _
  | succ j ih =>
    by_cases e : i = j + 1
    · rw [e]; exact Nat.le_refl _
    · exact Nat.le_trans (ih (by omega) (by omega)) (hev j (by omega)).le

theorem oH_lvl (hev : ∀ k, k < m → EvOk E rec nt km ops bef st rr k (ev k)) (S : Nat → Bool) (n : Nat) : ∀ {k : Nat}, k ≤ m → (oH st ev S k n).2 ≤ (st k).x := by
  intro k
  induction k with
  | zero => intro _; exact Nat.le_refl _
  | succ k ih =>
    intro hk
    have h1 := Nat.le_trans (ih (by omega)) (hev k (by omega)).le
    unfold oH at *
    cases hd : dH' st ev k n with
    | none => rw [ov_succ_false (.inr hd)]; exact h1
    | some b =>
      cases hs : S k with
      | false => rw [ov_succ_false (.inl hs)]; exact h1
      | true =>
        rw [ov_succ_true hs hd]
        unfold dH' at hd
        cases hg : dget (ev k).d n with
        | none => rw [hg] at hd; cases hd
        | some ob => rw [hg] at hd; cases hd; exact Nat.le_refl _

theorem oT_lvl (hev : ∀ k, k < m → EvOk E rec nt km ops bef st rr k (ev k)) (S : Nat → Bool) (n : Nat) : ∀ {k : Nat}, k ≤ m → (oT st ev S k n).2 ≤ (st k).x := by
  intro k
  induction k with
  | zero => intro _; exact Nat.le_refl _
  | succ k ih =>
    intro hk
    have h1 := Nat.le_trans (ih (by omega)) (hev k (by omega)).le
    unfold oT at *
    cases hd : dT' st ev k n with
    | none => rw [ov_succ_false (.inr hd)]; exact h1
    | some b =>
      cases hs : S k with
      | false => rw [ov_succ_false (.inl hs)]; exact h1
      | true =>
        rw [ov_succ_true hs hd]
        unfold dT' at hd
        split at hd
        · cases hd; exact Nat.le_refl _
        · cases hd

theorem put_H (hev : ∀ k, k < m → EvOk E rec nt km ops bef st rr k (ev k)) {k : Nat} (hk : k < m) (hkk : KOk km (st k)) : (st (k + 1)).H = applyD (ev k).d (st k).H := (putA_known (hev k hk).put hkk).2.2.2.1

theorem text_ok (hev : ∀ k, k < m → EvOk E rec nt km ops bef st rr k (ev k)) (h0 : KOk km (st 0)) : ∀ {k : Nat}, k ≤ m → KOk km (st k) ∧ (∀ n b, (st k).H.get n = some b → (oH st ev (fun _ => true) k n).1 = some b) ∧ ∀ t u, known (st k) t = some u → (oT st ev (fun _ => true) k t).1 = some u := by
  intro k
  induction k with
  | zero => intro _; exact ⟨h0, fun n b h => h, fun t u h => h⟩
  | succ k ih =>
    intro hk
    obtain ⟨h1, h2, h3⟩ := ih (by omega)
    have hp := putA_known (hev k (by omega)).put h1
    refine ⟨hp.1, fun n b hn => ?_, fun t u ht => ?_⟩
    · rw [hp.2.2.2.1] at hn
      rcases applyD_get hn with hd | ⟨hd, hH⟩
      · unfold oH
        rw [ov_succ_true (b := (some b, (st (k + 1)).x)) rfl (by unfold dH'; rw [hd]; rfl)]
      · unfold oH
        rw [ov_succ_false (.inr (by unfold dH'; rw [hd]; rfl))]
        exact h2 n b hH
    · rcases hp.2.1 t u ht with ⟨hd, rfl⟩ | ⟨hd, hK⟩
      · unfold oT
        rw [ov_succ_true (b := (some (ev k).v, (st (k + 1)).x)) rfl (by unfold dT'; rw [if_pos hd])]
      · unfold oT
        rw [ov_succ_false (.inr (by unfold dT'; rw [if_neg hd]))]
        exact h3 t u hK

theorem rr_mono (hev : ∀ k, k < m → EvOk E rec nt km ops bef st rr k (ev k)) {i j : Nat} (hij : i ≤ j) (hj : j ≤ m) : ∀ r ∈ rr i, r ∈ rr j := by
  induction j with
  | zero => rw [show i = 0 from by omega]; exact fun r h => h
  | succ j ih =>
    by_cases e : i = j + 1
    · rw [e]; exact fun r h => h
    · intro r hr
      have h1 := ih (by omega) (by omega) r hr
      have he := hev j (by omega)
      cases hw : (ev j).w with
      | true => exact (addR_ok (he.run hw).2.1).1 r h1
      | false => rw [(he.off hw).2.2.1]; exact h1

/-- Two that touch the same block stand in an order. -/
theorem conf (hev : ∀ k, k < m → EvOk E rec nt km ops bef st rr k (ev k)) {i j n : Nat} (hij : i < j) (hj : j < m) (h : ((∃ ob, (n, ob) ∈ (ev i).d) ∧ n ∈ (ev j).p.keys []) ∨ ((∃ ob, (n, ob) ∈ (ev j).d) ∧ n ∈ (ev i).p.keys [])) : Nat.testBit (bef j) i = true := by
  have hi := hev i (by omega)
  have hjj := hev j hj
  cases hwi : (ev i).w with
  | false =>
    obtain ⟨_, hd, _, _, hp, _⟩ := hi.off hwi
    rcases h with ⟨⟨ob, h1⟩, _⟩ | ⟨_, h1⟩
    · rw [hd] at h1; cases h1
    · rw [hp] at h1; cases h1
  | true =>
    cases hwj : (ev j).w with
    | false =>
      obtain ⟨_, hd, _, _, hp, _⟩ := hjj.off hwj
      rcases h with ⟨_, h1⟩ | ⟨⟨ob, h1⟩, _⟩
      · rw [hp] at h1; cases h1
      · rw [hd] at h1; cases h1
    | true =>
      obtain ⟨_, ai, di⟩ := hi.run hwi
      obtain ⟨_, aj, dj⟩ := hjj.run hwj
      rw [di, dj] at h
      have hri : rcdOf i (ev i).p (ev i).q (st i).x ∈ rr (i + 1) := ((addR_ok ai).2 (by
        rcases h with ⟨⟨ob, h1⟩, _⟩ | ⟨_, h1⟩
        · exact .inr ⟨_, h1⟩
        · exact .inl ⟨_, h1⟩)).1
      have hap := ((addR_ok aj).2 (by
        rcases h with ⟨_, h1⟩ | ⟨⟨ob, h1⟩, _⟩
        · exact .inl ⟨_, h1⟩
        · exact .inr ⟨_, h1⟩)).2
      refine apartR_ok hap _ (rr_mono hev (by omega) (by omega) _ hri) ?_
      rcases h with ⟨⟨ob, h1⟩, h2⟩ | ⟨⟨ob, h1⟩, h2⟩
      · exact .inr (meets_ok h1 h2)
      · exact .inl (meets_ok h1 h2)

end

end Go.Ce
