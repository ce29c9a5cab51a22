/- The abstract evaluator 'Ce': regions in the order of the text, ranges over functions, the rules of code. -/
import Derived.Test.YtiellonfgcmaaaaGreatCeQ
import Derived.LoopNIn
import Derived.Scope
set_option linter.unusedVariables false
set_option linter.unusedSimpArgs false
set_option linter.unusedSectionVars false
namespace Go.Ce
variable {P : Program} {φ : PM} {w : World} {H H' : Hp} {x x' : Nat} {v : AV} {n : Nat} {ro : Option Nat}

theorem RoOk.mono {φ φ' : PM} (e : Ext φ φ') {a b : Option Nat} (h : RoOk φ a b) : RoOk φ' a b := by
  cases h with
  | none => exact .none
  | some h => exact .some (e _ _ h)

theorem TmpOk.mono {φ φ' : PM} (e : Ext φ φ') {km nt : Nat} {L : Lo} {T : Tr AV} {tmps : Array Value} (h : TmpOk φ km nt L T tmps) : TmpOk φ' km nt L T tmps :=
  ⟨h.kept.mono e, fun t a ha => ⟨(h.loc t a ha).1, (h.loc t a ha).2.mono e⟩⟩

theorem evalT_ok {km nt : Nat} {L : Lo} {T : Tr AV} {a : Act} (h : TmpOk φ km nt L T a.tmps) (o : Operand) : VR φ (evalT L T o) (a.eval o) := by
  cases o with
  | tmp t => exact h.get t
  | const v => exact VR.ofVal φ v
  | global g => exact .junk _
  | func f => exact .func .nil .nil

/-! ### Temporaries -/

theorem TmpOk.put {km nt : Nat} {L : Lo} {T : Tr AV} {tmps : Array Value} (h : TmpOk φ km nt L T tmps) {t : Nat} (ht : t < nt) {a : AV} {val : Value} (ha : VR φ a val) :
    (Ce.kept km t = false → TmpOk φ km nt (.cons t a L) T (tmps.setIfInBounds t val)) ∧ (Ce.kept km t = true → TmpOk φ km nt L (T.ins (dT nt) t a) (tmps.setIfInBounds t val)) := by
  have hsz : t < tmps.size := by rw [h.kept.1]; exact ht
  have hself : (tmps.setIfInBounds t val).getD t undef = val := by simp [Array.getD, hsz]
  have hother : ∀ j, j ≠ t → (tmps.setIfInBounds t val).getD j undef = tmps.getD j undef := fun j hj => by
    rw [Array.getD_eq_getD_getElem?, Array.getD_eq_getD_getElem?, Array.getElem?_setIfInBounds, if_neg (fun e => hj e.symm)]
  constructor
  · intro hk
    refine ⟨⟨by simpa using h.kept.1, fun j b hb => ?_⟩, fun j b hb => ?_⟩
    · have h2 := h.kept.2 j b hb
      refine ⟨h2.1, ?_⟩
      rw [hother j (fun e => by rw [e, hk] at h2; cases h2.1)]
      exact h2.2
    · have hb : (Bool.rec (lookL L j) (some a) (Nat.beq t j) : Option AV) = some b := hb
      cases htj : Nat.beq t j with
      | true =>
        rw [htj] at hb
        have := beqT htj
        subst this
        cases hb
        exact ⟨hk, by rw [hself]; exact ha⟩
      | false =>
        rw [htj] at hb
        have h2 := h.loc j b hb
        refine ⟨h2.1, ?_⟩
        rw [hother j (fun e => beqN htj e.symm)]
        exact h2.2
  · intro hk
    refine ⟨⟨by simpa using h.kept.1, fun j b hb => ?_⟩, fun j b hb => ?_⟩
    · rcases Tr.get_ins hb with ⟨rfl, rfl⟩ | ⟨hne, h2⟩
      · exact ⟨hk, by rw [hself]; exact ha⟩
      · have h3 := h.kept.2 j b h2
        exact ⟨h3.1, by rw [hother j hne]; exact h3.2⟩
    · have h2 := h.loc j b hb
      refine ⟨h2.1, ?_⟩
      rw [hother j (fun e => by rw [e, hk] at h2; cases h2.1)]
      exact h2.2

theorem putA_ok {c : Ctx} {o : Oper} {s s' : St} {a : Act} {val : Value} (ht : TmpOk φ c.km c.nt s.L s.T a.tmps) (hv : VR φ v val) (h : putA c.nt c.km o s v H' x' = .ok s') :
    TmpOk φ c.km c.nt s'.L s'.T (a.put o.dst val).tmps ∧ (a.put o.dst val).defers = a.defers ∧ s'.H = H' ∧ s'.x = x' ∧ s'.D = s.D := by
  unfold putA putA5 at h
  cases hd : o.dst with
  | none => rw [hd] at h; cases h; exact ⟨ht, rfl, rfl, rfl, rfl⟩
  | some t =>
    rw [hd] at h
    have h : putN c.nt (kept c.km t) s t v H' x' = .ok s' := h
    unfold putN putN5 at h
    cases hlt : Nat.blt t c.nt with
    | false => rw [hlt] at h; cases h
    | true =>
      rw [hlt] at h
      have hp := ht.put (bltT hlt) hv
      cases hk : kept c.km t with
      | false => rw [hk] at h; cases h; exact ⟨hp.1 hk, rfl, rfl, rfl, rfl⟩
      | true => rw [hk] at h; cases h; exact ⟨hp.2 hk, rfl, rfl, rfl, rfl⟩

theorem wantedA_ok' {ops : Array Oper} {L : Lo} {T : Tr AV} {tmps : Array Value} {o : Oper} (ht : ∀ j want d, o.guard = some (j, want) → guardDst ops j = some d → VR φ (getT L T d) (tmps.getD d undef)) {b : Bool} (h : wantedA ops L T o.guard = .ok b) :
    Region.wanted o (yielded ops tmps) = b := by
  unfold wantedA at h
  unfold Region.wanted
  cases hg : o.guard with
  | none => rw [hg] at h; cases h; rfl
  | some q =>
    obtain ⟨j, want⟩ := q
    rw [hg] at h
    have h : (Option.casesOn (guardDst ops j) (.ok false) (fun d => boolIs (getT L T d) want) : R Bool) = .ok b := h
    show (yielded ops tmps j == some want) = b
    unfold yielded
    have e : (ops[j]?).bind (·.dst) = guardDst ops j := rfl
    rw [e]
    cases hd : guardDst ops j with
    | none => rw [hd] at h; cases h; rfl
    | some d =>
      rw [hd] at h
      have h : boolIs (getT L T d) want = .ok b := h
      have hv := ht j want d hg hd
      have hget : ∀ p, tmps.getD d undef = .bool p → tmps[d]? = some (.bool p) := by
        intro p hp
        rw [Array.getD_eq_getD_getElem?] at hp
        cases hq : tmps[d]? with
        | none => rw [hq] at hp; cases hp
        | some u => rw [hq] at hp; rw [show u = Value.bool p from hp]
      have hno : (∀ p, tmps.getD d undef ≠ .bool p) → ∀ p, tmps[d]? ≠ some (.bool p) := by
        intro hn p hp
        exact hn p (by rw [Array.getD_eq_getD_getElem?, hp]; rfl)
      show ((match (some d).bind (tmps[·]?) with | some (.bool b) => some b | _ => none) == some want) = b
      unfold boolIs at h
      split at h
      · rename_i p hp
        cases h
        rw [hp] at hv
        generalize hu : tmps.getD d undef = u at hv
        cases hv
        have := hget p hu
        simp only [Option.bind_some, this]
        cases p <;> cases want <;> rfl
      · cases h
      · rename_i av hn1 hn2
        cases h
        have hnb : ∀ p, tmps.getD d undef ≠ .bool p := by
          intro p hp
          rw [hp] at hv
          cases hq : getT L T d <;> rw [hq] at hv <;> cases hv
          · exact hn2 hq
          · exact hn1 _ hq
        have := hno hnb
        show ((match tmps[d]? with | some (.bool b) => some b | _ => none) == some want) = false
        cases hq : tmps[d]? with
        | none => rfl
        | some u => cases u <;> first | rfl | exact absurd hq (this _)

theorem wantedA_ok {ops : Array Oper} {km nt : Nat} {L : Lo} {T : Tr AV} {tmps : Array Value} (ht : TmpOk φ km nt L T tmps) {o : Oper} {b : Bool} (h : wantedA ops L T o.guard = .ok b) : Region.wanted o (yielded ops tmps) = b :=
  wantedA_ok' (fun _ _ d _ _ => ht.get d) h

/-! ### Regions in the order of the text -/

theorem Post.trans {c : Ctx} {s s1 s' : St} {w w1 : World} {φ φ1 : PM} {e : AE} {ex : Exit} {a' : Act} {w' : World} (hs : Step φ s.H.get s.x w φ1 s1.H.get s1.x w1) (h : Post φ1 c s1 w1 ro e s' ex a' w') : Post φ c s w ro e s' ex a' w' := by
  obtain ⟨φ2, h0, h1, h2⟩ := h
  exact ⟨φ2, h0, h1, hs.trans h2⟩

theorem PostX.trans {c : Ctx} {s s1 : St} {w w1 : World} {φ φ1 : PM} {r r' : X2} {ex : Exit} {a' : Act} {w' : World} (hs : Step φ s.H.get s.x w φ1 s1.H.get s1.x w1) (hsub : ∀ e s', InX r e s' → InX r' e s') (h : PostX φ1 c s1 w1 ro r ex a' w') : PostX φ c s w ro r' ex a' w' := by
  obtain ⟨e, s', h0, h1⟩ := h
  exact ⟨e, s', hsub _ _ h0, h1.trans hs⟩

theorem StOk.after {c : Ctx} {s s' : St} {a : Act} {o : Oper} {val : Value} {φ' : PM} {w' : World} (h : StOk φ c s a w ro) (hst : Step φ s.H.get s.x w φ' H'.get x' w') (hv : VR φ' v val) (hp : putA c.nt c.km o s v H' x' = .ok s') :
    StOk φ' c s' (a.put o.dst val) w' ro ∧ Step φ s.H.get s.x w φ' s'.H.get s'.x w' := by
  obtain ⟨h1, h2, h3, h4, h5⟩ := putA_ok (h.tmps.mono hst.ext) hv hp
  rw [h3, h4]
  exact ⟨⟨by rw [h3, h4]; exact hst.rel, by rw [h4]; exact hst.fresh h.fresh, h1, by rw [h2, h5]; exact h.defers.mono hst.ext, h.ro.mono hst.ext⟩, hst⟩

theorem defOf_ok {dc : Call} {ρ : Operand → AV} {ρc : Operand → Value} (hρ : ∀ o, VR φ (ρ o) (ρc o)) {d : DE} (h : defOf dc ρ = .ok d) (ty : TypeId) :
    ∃ dv, (resolve ρc dc ty).run P w = .ok dv w ∧ ∀ D ds, DR φ D ds → DR φ (d :: D) (dv :: ds) := by
  have hargs := evs_ok hρ dc.args.toList
  have hmap : dc.args.map ρc = (dc.args.toList.map ρc).toArray := by apply Array.ext'; simp only [Array.toList_map]
  unfold defOf at h
  unfold resolve
  split at h
  · rename_i f hc
    have hfv := hρ f
    split at h
    · rename_i g first cap hfe
      cases h
      rw [hc]
      dsimp only
      rw [hmap]
      rw [hfe] at hfv
      generalize ρc f = fvv at hfv ⊢
      cases hfv with
      | func h1 h2 =>
        rename_i fv cv
        refine ⟨{ target := .fn (.func g) cv.toArray, args := (fv ++ dc.args.toList.map ρc).toArray }, ?_, fun D ds hd => ?_⟩
        · show Result.ok _ _ = _
          congr 2
          simp
        · refine .call ?_ hd
          rw [appS_eq, appS_eq, List.append_assoc]
          exact h1.append (hargs.append h2)
    · cases h
  · cases h

theorem exNormal_ok {r : R St} {e : AE} {s' : St} (h : exNormal r = .ok e s') : r = .ok s' ∧ e = .normal := by
  unfold exNormal at h
  cases r with
  | ok a => cases h; exact ⟨rfl, rfl⟩
  | no c => cases h

theorem exNormal_good {r : R St} (h : (exNormal r).good) : ∃ s', r = .ok s' ∧ exNormal r = .ok .normal s' := by
  cases r with
  | ok a => exact ⟨a, rfl, rfl⟩
  | no c => exact absurd rfl (h c)

theorem deferOf_ok {op : Op} {dc : Call} (h : deferOf op = some dc) : op = .defer dc := by
  cases op <;> first | (cases (show none = some dc from h)) | (rw [Option.some.inj (show some _ = some dc from h)])

/-- One operation of a plain frame. -/
theorem doStep_ok {E : Env} (hE : E.P = P) (hxt : XtOk E) {rec : Rec} (hrec : RecOk P rec) {c : Ctx} (hc : c.rv = false) {o : Oper} {s : St} {a : Act} (h : (doStep E rec c o s).good) (hs : StOk φ c s a w ro) {next : Act → World → Prop} {Q : Exit → Act → World → Prop}
    (hn : ∀ φ' s1 a' w', InX (doStep E rec c o s) .normal s1 → StOk φ' c s1 a' w' ro → Step φ s.H.get s.x w φ' s1.H.get s1.x w' → next a' w')
    (hq : ∀ φ' u ch s1 w', InX (doStep E rec c o s) (.pan u) s1 → PanV φ' u ch → StOk φ' c s1 a w' ro → Step φ s.H.get s.x w φ' s1.H.get s1.x w' → Q (.panic ch) a w') : o.wpIn (FW ro) n P a w next Q := by
  refine ⟨fun _ _ => trivial, ?_⟩
  have hev : ∀ o, VR φ (evalT s.L s.T o) (a.eval o) := fun o => evalT_ok hs.tmps o
  show o.uponIn (FW ro) n P a next Q ((o.semAt ro a.eval).run P w)
  cases hdo : deferOf o.op with
  | some dc =>
    have ho := deferOf_ok hdo
    have e0 : doStep E rec c o s = defStep c o dc s := by unfold doStep doStep5; rw [hdo]
    rw [e0] at h hn
    clear hq
    unfold defStep at h hn
    split at h
    · exact absurd rfl (h 255)
    · rename_i hro
      rw [hro] at hn
      dsimp only at hn
      rw [hc, cond_false] at h hn
      cases hd : defOf dc (evalT s.L s.T) with
      | no k => rw [hd] at h; exact absurd rfl (h k)
      | ok d =>
        rw [hd] at h hn
        have h : (exNormal (putA c.nt c.km o ⟨s.L, s.T, d :: s.D, s.H, s.x⟩ (.tup []) s.H s.x)).good := h
        obtain ⟨s1, hp, he⟩ := exNormal_good h
        have hn := fun φ' a' w' => hn φ' s1 a' w' (by show InX (exNormal (putA c.nt c.km o ⟨s.L, s.T, d :: s.D, s.H, s.x⟩ (.tup []) s.H s.x)) _ _; rw [he]; exact ⟨rfl, rfl⟩)
        have hron : ro = none := by
          have := hs.ro
          rw [hro] at this
          cases this; rfl
        subst hron
        obtain ⟨dv, hres, hdr⟩ := defOf_ok (P := P) (w := w) hev hd o.type
        have hrun : (o.semAt none a.eval).run P w = .ok (.defer dv) w := by
          rw [Oper.semAt_none]
          unfold execOp
          rw [ho]
          dsimp only
          rw [Sem.run_bind, hres, Result.andThen_ok, Sem.run_pure]
        rw [hrun, Oper.uponIn_defer]
        have hs2 : StOk φ c ⟨s.L, s.T, d :: s.D, s.H, s.x⟩ { a with defers := dv :: a.defers } w none := ⟨hs.rel, hs.fresh, hs.tmps, hdr _ _ hs.defers, hs.ro⟩
        obtain ⟨h1, h2⟩ := hs2.after (o := o) (.refl hs.rel) (.tup .nil) hp
        exact hn φ _ w h1 h2
  | none =>
    have e0 : doStep E rec c o s = opEnd c o s (execA o.op E rec (evalT s.L s.T) s.H s.x) := by unfold doStep doStep5; rw [hdo]; rfl
    rw [e0] at h
    have hn : ∀ φ' s1 a' w', InX (opEnd c o s (execA o.op E rec (evalT s.L s.T) s.H s.x)) .normal s1 → StOk φ' c s1 a' w' ro → Step φ s.H.get s.x w φ' s1.H.get s1.x w' → next a' w' := by rw [← e0]; exact hn
    have hq : ∀ φ' u ch s1 w', InX (opEnd c o s (execA o.op E rec (evalT s.L s.T) s.H s.x)) (.pan u) s1 → PanV φ' u ch → StOk φ' c s1 a w' ro → Step φ s.H.get s.x w φ' s1.H.get s1.x w' → Q (.panic ch) a w' := by rw [← e0]; exact hq
    have hgood : (execA o.op E rec (evalT s.L s.T) s.H s.x).good := goOX_good h
    refine execA_ok (ro := ro) (n := n) hE hxt hrec hs.rel hs.fresh hev hgood o a next Q (fun val w' hret => ?_) (fun ch w' hpan => ?_)
    · obtain ⟨v, H1, x1, hin, φ', hv, hst⟩ := hret
      obtain ⟨hg, hsub⟩ := goOX_in h hin
      obtain ⟨s1, hp, he⟩ := exNormal_good hg
      obtain ⟨h1, h2⟩ := hs.after hst hv hp
      exact hn φ' s1 _ w' (hsub _ _ (by rw [he]; exact ⟨rfl, rfl⟩)) h1 h2
    · obtain ⟨v, H1, x1, φ', he, hv, hst⟩ := hpan
      refine hq φ' v ch ⟨s.L, s.T, s.D, H1, x1⟩ w' ?_ hv ⟨hst.rel, hst.fresh hs.fresh, hs.tmps.mono hst.ext, hs.defers.mono hst.ext, hs.ro.mono hst.ext⟩ hst
      rw [he]
      exact ⟨rfl, rfl⟩

theorem opsA_cons {E : Env} {rec : Rec} {c : Ctx} {ops : Array Oper} {o : Oper} {l : List Oper} {s : St} (h : (opsA E rec c ops (o :: l) s).good) :
    ∃ b, wantedA ops s.L s.T o.guard = .ok b ∧ opsA E rec c ops (o :: l) s = goX (opStep E rec c o s b) (bindS (opsA E rec c ops l)) := by
  have h1 : (R.casesOn (wantedA ops s.L s.T o.guard) (fun w => goX (opStep E rec c o s w) (bindS (opsA E rec c ops l))) .no : X2).good := h
  show ∃ b, wantedA ops s.L s.T o.guard = .ok b ∧ (R.casesOn (wantedA ops s.L s.T o.guard) (fun w => goX (opStep E rec c o s w) (bindS (opsA E rec c ops l))) .no : X2) = _
  cases hw : wantedA ops s.L s.T o.guard with
  | no k => rw [hw] at h1; exact absurd rfl (h1 k)
  | ok b => exact ⟨b, rfl, rfl⟩

theorem opStep_plain {E : Env} {rec : Rec} {c : Ctx} (hc : c.rv = false) {o : Oper} {s : St} : opStep E rec c o s true = doStep E rec c o s := by
  show (Bool.casesOn c.rv (doStep E rec c o s) (rvStep E rec c o s) : X2) = _
  rw [hc]

theorem opStep_rv {E : Env} {rec : Rec} {c : Ctx} (hc : c.rv = true) {o : Oper} {s : St} : opStep E rec c o s true = rvStep E rec c o s := by
  show (Bool.casesOn c.rv (doStep E rec c o s) (rvStep E rec c o s) : X2) = _
  rw [hc]

theorem opsA_ok {E : Env} (hE : E.P = P) (hxt : XtOk E) {rec : Rec} (hrec : RecOk P rec) {c : Ctx} (hc : c.rv = false) {ops : Array Oper} {Q : Exit → Act → World → Prop} : ∀ (l : List Oper) (i : Nat) (s : St) (φ : PM) (a : Act) (w : World), (∀ j, l[j]? = ops[i + j]?) →
    (opsA E rec c ops l s).good → StOk φ c s a w ro → (∀ ex a' w', PostX φ c s w ro (opsA E rec c ops l s) ex a' w' → Q ex a' w') → wpOpsIn (FW ro) n P ops Q (List.range' i l.length) a w := by
  intro l
  induction l with
  | nil =>
    intro i s φ a w _ h hs hQ
    exact hQ _ _ _ ⟨.normal, s, ⟨rfl, rfl⟩, φ, .normal, hs, .refl hs.rel⟩
  | cons o l ih =>
    intro i s φ a w hl h hs hQ
    obtain ⟨b, hw, he⟩ := opsA_cons h
    rw [he] at h hQ
    have ho : ops[i]? = some o := by have := hl 0; simpa using this.symm
    have hl' : ∀ j, l[j]? = ops[i + 1 + j]? := fun j => by
      have := hl (j + 1)
      rw [show i + 1 + j = i + (j + 1) from by omega, ← this]; rfl
    have hwant := wantedA_ok (o := o) hs.tmps hw
    rw [List.length_cons, List.range'_succ]
    simp only [wpOpsIn, ho]
    rw [hwant]
    have hgo : ∀ {s1 : St}, InX (opStep E rec c o s b) .normal s1 → (opsA E rec c ops l s1).good ∧ ∀ e s', InX (opsA E rec c ops l s1) e s' → InX (goX (opStep E rec c o s b) (bindS (opsA E rec c ops l))) e s' := fun hin => goX_in (f := bindS (opsA E rec c ops l)) h hin
    cases b with
    | true =>
      rw [if_pos rfl]
      have hg := goX_good h
      rw [opStep_plain hc] at hg
      refine doStep_ok hE hxt hrec hc hg hs (fun φ' s1 a' w' hin h5 h6 => ?_) (fun φ' u ch s1 w' hin hv h5 h6 => ?_)
      · rw [← opStep_plain hc] at hin
        obtain ⟨h7, h8⟩ := hgo hin
        exact ih (i + 1) s1 φ' _ _ hl' h7 h5 fun e a w hq => hQ _ _ _ (hq.trans h6 h8)
      · rw [← opStep_plain hc] at hin
        exact hQ _ _ _ ⟨.pan u, s1, (goX_in h hin).2 _ _ ⟨rfl, rfl⟩, φ', .pan hv, h5, h6⟩
    | false =>
      rw [if_neg (by decide)]
      have hg : (exNormal (putA c.nt c.km o s (.tup []) s.H s.x)).good := goX_good h
      obtain ⟨s1, h4, he1⟩ := exNormal_good hg
      obtain ⟨h5, h6⟩ := hs.after (.refl hs.rel) (.tup .nil) h4
      obtain ⟨h7, h8⟩ := hgo (s1 := s1) (by show InX (exNormal (putA c.nt c.km o s (.tup []) s.H s.x)) _ _; rw [he1]; exact ⟨rfl, rfl⟩)
      exact ⟨fun _ _ => trivial, ih (i + 1) s1 φ _ _ hl' h7 h5 fun e a w hq => hQ _ _ _ (hq.trans h6 h8)⟩

theorem bare_after {c : Ctx} {s s' : St} {a : Act} {o : Oper} {val : Value} {φ' : PM} {w' : World} (h : StOk φ c (bareD s) a w none) (hst : Step φ s.H.get s.x w φ' H'.get x' w') (hv : VR φ' v val) (hp : putA c.nt c.km o s v H' x' = .ok s') :
    StOk φ' c (bareD s') (a.put o.dst val) w' none ∧ Step φ s.H.get s.x w φ' s'.H.get s'.x w' ∧ s'.D = s.D := by
  obtain ⟨h1, h2, h3, h4, h5⟩ := putA_ok (s := s) (a := a) (show TmpOk φ' c.km c.nt s.L s.T a.tmps from h.tmps.mono hst.ext) hv hp
  rw [h3, h4]
  refine ⟨⟨?_, ?_, h1, ?_, h.ro.mono hst.ext⟩, hst, h5⟩
  · show Rel φ' s'.H.get s'.x w'
    rw [h3, h4]; exact hst.rel
  · show Fresh φ' s'.x
    rw [h4]; exact hst.fresh h.fresh
  · rw [h2]; exact h.defers.mono hst.ext

theorem rvStep_normal {E : Env} {rec : Rec} {c : Ctx} {o : Oper} {s s1 : St} {e : AE} (h : rvStep E rec c o s = .ok e s1) : e = .normal := by
  unfold rvStep at h
  split at h
  · cases h
  · cases hir : isRecover _ <;> rw [hir] at h
    · cases h
    · rw [cond_true] at h
      unfold recStep at h
      split at h
      · exact (exNormal_ok h).2
      · exact (exNormal_ok h).2
      · cases h
  · cases hx : execA _ E rec (evalT s.L s.T) s.H s.x <;> rw [hx] at h
    · exact (exNormal_ok h).2
    · cases h
    · cases h
    · cases h

theorem ModeOk.mono {φ φ' : PM} (e : Ext φ φ') {D : List DE} {m : FrameMode} (h : ModeOk φ D m) : ModeOk φ' D m := by
  rcases h with h | ⟨v, ch, h1, h2, h3⟩
  · exact .inl h
  · exact .inr ⟨v, ch, h1, h2.mono e, h3⟩

/-- The same in a deferred call that calls 'recover'. -/
theorem opsS_ok {E : Env} (hE : E.P = P) {rec : Rec} {c : Ctx} (hc : c.rv = true) {ops : Array Oper} {c₀ : Frame} {cs : List Frame} {Q : Exit → Act → List Frame → World → Prop} : ∀ (l : List Oper) (i : Nat) (s : St) (e : AE) (s' : St) (φ : PM) (a : Act) (w : World) (m : FrameMode), (∀ j, l[j]? = ops[i + j]?) →
    opsA E rec c ops l s = .ok e s' → ModeOk φ s.D m → StOk φ c (bareD s) a w none → (∀ φ' m' ex a' w', ModeOk φ' s'.D m' → ExR φ' e ex → StOk φ' c (bareD s') a' w' none → Step φ s.H.get s.x w φ' s'.H.get s'.x w' → Q ex a' ({ c₀ with mode := m' } :: cs) w') →
    wpOpsS P ops Q (List.range' i l.length) a ({ c₀ with mode := m } :: cs) w := by
  intro l
  induction l with
  | nil =>
    intro i s e s' φ a w m _ h hm hs hQ
    cases h
    exact hQ φ m _ a w hm .normal hs (.refl hs.rel)
  | cons o l ih =>
    intro i s e s' φ a w m hl h hm hs hQ
    obtain ⟨b, hw, he⟩ := opsA_cons (E := E) (rec := rec) (c := c) (ops := ops) (o := o) (l := l) (s := s) (by rw [h]; exact good_xok)
    rw [he] at h
    obtain ⟨e1, s1, hstep, h3⟩ := goX_ok h
    have ho : ops[i]? = some o := by have := hl 0; simpa using this.symm
    have hl' : ∀ j, l[j]? = ops[i + 1 + j]? := fun j => by
      have := hl (j + 1)
      rw [show i + 1 + j = i + (j + 1) from by omega, ← this]; rfl
    have hwant := wantedA_ok (φ := φ) (tmps := a.tmps) (o := o) hs.tmps hw
    rw [List.length_cons, List.range'_succ]
    simp only [wpOpsS, ho]
    rw [hwant]
    cases b with
    | false =>
      rw [if_neg (by decide)]
      have hstep : exNormal (putA c.nt c.km o s (.tup []) s.H s.x) = .ok e1 s1 := hstep
      obtain ⟨h4, rfl⟩ := exNormal_ok hstep
      obtain ⟨h5, h6, h7⟩ := bare_after hs (.refl hs.rel) (.tup .nil) h4
      exact ih (i + 1) s1 e s' φ _ _ m hl' h3 (by rw [h7]; exact hm) h5 fun φ' m' ex a' w' q1 q2 q3 q4 => hQ φ' m' ex a' w' q1 q2 q3 (h6.trans q4)
    | true =>
      rw [if_pos rfl]
      rw [opStep_rv hc] at hstep
      obtain rfl := rvStep_normal hstep
      have h3 : opsA E rec c ops l s1 = .ok e s' := h3
      have hev : ∀ o, VR φ (evalT s.L s.T o) (a.eval o) := fun o => evalT_ok (show TmpOk φ c.km c.nt s.L s.T a.tmps from hs.tmps) o
      unfold rvStep at hstep
      split at hstep
      · cases hstep
      · rename_i dc hod
        cases hir : isRecover dc with
        | false => rw [hir] at hstep; cases hstep
        | true =>
          rw [hir, cond_true] at hstep
          have hrun : (execOp a.eval o).run P w = .ok .recover w := by
            unfold isRecover at hir
            split at hir
            · rename_i hcal
              unfold execOp
              rw [hod]
              dsimp only
              unfold resolve
              rw [hcal]
              rfl
            · cases hir
          rw [hrun]
          dsimp only
          unfold recStep at hstep
          rcases hm with ⟨hd, hm⟩ | ⟨u, ch, hd, hv, rfl⟩
          · rw [hd] at hstep
            have hnone : recoverD ({ c₀ with mode := m } :: cs) = none := by rcases hm with rfl | ⟨val, rfl⟩ <;> rfl
            rw [hnone]
            dsimp only
            obtain ⟨h4, _⟩ := exNormal_ok hstep
            obtain ⟨h5, h6, h7⟩ := bare_after (o := o) hs (.refl hs.rel) .nilIface h4
            exact ih (i + 1) s1 e s' φ _ _ m hl' h3 (.inl ⟨h7.trans hd, hm⟩) h5 fun φ' m' ex a' w' q1 q2 q3 q4 => hQ φ' m' ex a' w' q1 q2 q3 (h6.trans q4)
          · rw [hd] at hstep
            cases hv with
            | mk hv =>
              rename_i t u val
              have hsome : recoverD ({ c₀ with mode := .panicking [{ v := val, recovered := false }] } :: cs) = some (val, { c₀ with mode := .panicking [{ v := val, recovered := true }] } :: cs) := rfl
              rw [hsome]
              dsimp only
              obtain ⟨h4, _⟩ := exNormal_ok hstep
              obtain ⟨h5, h6, h7⟩ := bare_after (s := ⟨s.L, s.T, [], s.H, s.x⟩) (o := o) hs (.refl hs.rel) hv h4
              exact ih (i + 1) s1 e s' φ _ _ _ hl' h3 (.inl ⟨h7, .inr ⟨val, rfl⟩⟩) h5 fun φ' m' ex a' w' q1 q2 q3 q4 => hQ φ' m' ex a' w' q1 q2 q3 (h6.trans q4)
      · rename_i op hnd hnc
        cases hx : execA o.op E rec (evalT s.L s.T) s.H s.x with
        | no k => rw [hx] at hstep; cases hstep
        | pan v H1 x1 => rw [hx] at hstep; cases hstep
        | or l1 => rw [hx] at hstep; cases hstep
        | ok v H1 x1 =>
          rw [hx] at hstep
          obtain ⟨h4, _⟩ := exNormal_ok (show exNormal (putA c.nt c.km o s v H1 x1) = _ from hstep)
          obtain ⟨φ', w', nx, val, h5, h6, h7, h8⟩ := lift_ok (o := o) hs.rel (hs.fresh _ (Nat.le_refl _)) hE hev (fun dc e => hnc dc e) hx
          rw [h5]
          obtain ⟨h9, h10, h11⟩ := bare_after (o := o) hs h8 h7 h4
          have hrest := ih (i + 1) s1 e s' φ' _ _ m hl' h3 (by rw [h11]; exact hm.mono h8.ext) h9 fun φ' m' ex a' w' q1 q2 q3 q4 => hQ φ' m' ex a' w' q1 q2 q3 (h10.trans q4)
          rcases h6 with rfl | ⟨rfl, rfl⟩
          · exact hrest
          · exact hrest

/-! ### Ranges over functions -/

theorem alloc_last (w : World) (o : Obj) : (w.alloc o).heap[w.heap.size]? = some o := by
  show (w.heap.push _)[w.heap.size]? = _
  simp

/-- What stands ready when the function that is ranged over is called. -/
theorem enterA_ok {c : Ctx} {s s1 : St} {a : Act} (hs : StOk φ c s a w ro) (h : enterA c s = .ok s1) {df : Nat} {D : List DE} (hD : s1.D = .mark df :: D) (fn : FuncId) (ps : Array Tmp) (asg body : Code) :
    ∃ l mark w1 φ1, (Instr.enterLoop fn a.tmps ps asg body ro).run P w = .ok (l, mark) w1 ∧ DR φ1 (marks c df D) (mark ++ a.defers) ∧ φ1 s1.x = some (l, 0) ∧ Fresh φ1 (s1.x + 1) ∧
      Step φ s.H.get s.x w φ1 (newB s1.H s1.x (.loop .ready none c.fn c.km s.T c.nt ps asg body df)).get (s1.x + 1) w1 := by
  unfold enterA at h
  have hro := hs.ro
  cases hc : c.ro with
  | none =>
    rw [hc] at h hro
    cases hro
    cases h
    cases hD
    have hb1 : BR (φ.add s.x (w.heap.size, 0)) (w.alloc (.deferred (some []))) s.x .defd := .defd PM.add_self (alloc_last _ _)
    have st1 := step_new hs.rel (hs.fresh _ (Nat.le_refl _)) (.deferred (some [])) .defd 0 hb1
    have hf1 := st1.fresh hs.fresh
    have hb2 : BR ((φ.add s.x (w.heap.size, 0)).add (s.x + 1) ((w.alloc (.deferred (some []))).heap.size, 0)) ((w.alloc (.deferred (some []))).alloc (.loop ⟨.ready, none, fn, a.tmps, ps, asg, body, w.heap.size⟩)) (s.x + 1)
        (.loop .ready none c.fn c.km s.T c.nt ps asg body s.x) := by
      refine .loop PM.add_self (bd := w.heap.size) (szd := 0) (fn' := fn) (tmps := a.tmps) ?_ (alloc_last _ _) ?_
      · rw [PM.add_ne (by omega)]; exact PM.add_self
      · exact (hs.tmps.kept.mono st1.ext).mono (PM.add_ext (hf1 _ (Nat.le_refl _)))
    have st2 := step_new st1.rel (hf1 _ (Nat.le_refl _)) (.loop ⟨.ready, none, fn, a.tmps, ps, asg, body, w.heap.size⟩) _ 0 hb2
    have st := st1.trans st2
    refine ⟨_, [{ target := .collected w.heap.size, args := #[] }], _, _, ?_, ?_, PM.add_self, st.fresh hs.fresh, st⟩
    · rfl
    · unfold marks
      rw [hc]
      exact .cons (sz := 0) (st2.ext _ _ PM.add_self) (hs.defers.mono st.ext)
  | some l0 =>
    rw [hc] at h hro
    cases hro with
    | some hl0 =>
      rename_i b sz
      dsimp only at h
      split at h
      · rename_i ver st0 pend0 fn0 km0 T0 nt0 ps0 asg0 body0 df0 hlp
        cases h
        cases hD
        obtain ⟨b', sz', bd, szd, tmps, fnc, hφ, hd, hb, hT⟩ := hs.rel.loop hlp
        rw [hl0] at hφ; cases hφ
        have hb2 : BR (φ.add s.x (w.heap.size, 0)) (w.alloc (.loop ⟨.ready, none, fn, a.tmps, ps, asg, body, bd⟩)) s.x (.loop .ready none c.fn c.km s.T c.nt ps asg body df) := by
          have hx := hs.fresh _ (Nat.le_refl _)
          refine .loop PM.add_self (bd := bd) (szd := szd) (fn' := fn) (tmps := a.tmps) (PM.add_ext hx _ _ hd) (alloc_last _ _) (hs.tmps.kept.mono (PM.add_ext hx))
        have st := step_new hs.rel (hs.fresh _ (Nat.le_refl _)) (.loop ⟨.ready, none, fn, a.tmps, ps, asg, body, bd⟩) _ 0 hb2
        refine ⟨_, [], _, _, ?_, ?_, PM.add_self, st.fresh hs.fresh, st⟩
        · unfold Instr.enterLoop
          simp only [Sem.run_bind, run_getLoop hb, Result.andThen_ok, Sem.run_pure]
          rfl
        · unfold marks
          rw [hc]
          exact hs.defers.mono st.ext
      · cases h


theorem jumpOf_ok {j : Option Code} {e : AE} (h : jumpOf j = .ok e) : (j = none ∧ e = .normal) ∨ (j = some .ret ∧ e = .ret) ∨ ∃ id, j = some (.exit id) ∧ e = .exit id := by
  unfold jumpOf at h
  split at h
  · cases h; exact .inl ⟨rfl, rfl⟩
  · cases h; exact .inr (.inl ⟨rfl, rfl⟩)
  · cases h; exact .inr (.inr ⟨_, rfl, rfl⟩)
  · cases h

theorem casesRX_ok {α : Type} {r : R α} {f : α → X2} {e' : AE} {s' : St} (h : (R.casesOn r f X2.no : X2) = .ok e' s') : ∃ a, r = .ok a ∧ f a = .ok e' s' := by
  cases r with
  | ok a => exact ⟨a, rfl, h⟩
  | no c => cases h

theorem casesRX_good {α : Type} {r : R α} {f : α → X2} (h : (R.casesOn r f X2.no : X2).good) : ∃ a, r = .ok a := by
  cases r with
  | ok a => exact ⟨a, rfl⟩
  | no c => exact absurd rfl (h c)

/-- The end of a range has one way. -/
theorem rangeEnd_good {s : St} {l : Nat} (h : (rangeEnd s l).good) : ∃ e s', rangeEnd s l = .ok e s' := by
  cases hr : rangeEnd s l with
  | ok e s' => exact ⟨e, s', rfl⟩
  | no c => rw [hr] at h; exact absurd rfl (h c)
  | or q =>
    unfold rangeEnd at hr
    split at hr
    · rename_i ver st pend fn km T nt ps asg body df hlp
      split at hr
      · cases hr
      · cases hj : jumpOf pend <;> rw [hj] at hr <;> cases hr
    · cases hr

theorem rangeEnd_ok {s : St} {l b sz : Nat} (r : Rel φ s.H.get s.x w) (hl : φ l = some (b, sz)) {e : AE} {s' : St} (h : rangeEnd s l = .ok e s') :
    ∃ jump w', (Instr.endLoop b).run P w = .ok jump w' ∧ jumpOf jump = .ok e ∧ s' = ⟨s.L, s.T, s.D, s.H.del dH l, s.x⟩ ∧ Step φ s.H.get s.x w φ (s.H.del dH l).get s.x w' := by
  unfold rangeEnd at h
  split at h
  · rename_i ver st pend fn km T nt ps asg body df hlp
    obtain ⟨b', sz', bd, szd, tmps, fnc, hφ, hd, hb, hT⟩ := r.loop hlp
    rw [hl] at hφ; cases hφ
    split at h
    · cases h
    · rename_i st' hnb
      obtain ⟨e', he', h2⟩ := casesRX_ok h
      cases h2
      have hlt : b < w.heap.size := (Array.getElem?_eq_some_iff.1 hb).1
      refine ⟨pend, { w with heap := w.heap.setIfInBounds b (.loop ⟨.exhausted, pend, fnc, tmps, ps, asg, body, bd⟩) }, ?_, he', rfl, ?_⟩
      · unfold Instr.endLoop
        rw [Sem.run_bind, run_getLoop hb, Result.andThen_ok]
        have hst : ¬ ((st == LoopState.busy) = true) := by
          intro e; cases st <;> first | exact hnb rfl | cases e
        rw [if_neg hst, Sem.run_bind, run_setLoop hb, Result.andThen_ok, Sem.run_pure]
      · refine step_kill r (by rw [hlp]; rfl) hl _ rfl rfl rfl (by simp) (fun k hk => ?_)
        show (w.heap.setIfInBounds b _)[k]? = _
        rw [Array.getElem?_setIfInBounds, if_neg (fun e => hk e.symm)]
  · cases h

theorem ex_of {φ : PM} {e : AE} {jump : Option Code} (h : jumpOf jump = .ok e) : (jump = none ∧ e = .normal ∧ ExR φ e .normal) ∨ (jump = some .ret ∧ ExR φ e .ret) ∨ ∃ id, jump = some (.exit id) ∧ ExR φ e (.exit id) := by
  rcases jumpOf_ok h with ⟨rfl, rfl⟩ | ⟨rfl, rfl⟩ | ⟨id, rfl, rfl⟩
  · exact .inl ⟨rfl, rfl, .normal⟩
  · exact .inr (.inl ⟨rfl, .ret⟩)
  · exact .inr (.inr ⟨id, rfl, .exit id⟩)

theorem rangeA_ok {E : Env} (hE : E.P = P) {rec : Rec} (hrec : RecOk P rec) {c : Ctx} {g : Operand} {ps : Array Tmp} {asg body : Code} {s : St} {a : Act} (h : (rangeA E rec c g ps asg body s).good) (hs : StOk φ c s a w ro) :
    (Code.rangeFunc g ps asg body).wpIn (FW ro) n P (PostX φ c s w ro (rangeA E rec c g ps asg body s)) a w := by
  unfold rangeA at h ⊢
  obtain ⟨s1, hs1⟩ := casesRX_good h
  rw [hs1] at h ⊢
  dsimp only at h ⊢
  cases hD0 : s1.D with
  | nil => rw [hD0] at h; exact absurd rfl (h 302)
  | cons d D =>
  cases d with
  | call f args => rw [hD0] at h; exact absurd rfl (h 302)
  | pan v => rw [hD0] at h; exact absurd rfl (h 302)
  | mark df =>
    rw [hD0] at h
    dsimp only at h ⊢
    unfold rangeCallA at h ⊢
    split at h
    · rename_i f first cap hg
      have hbg := goOX_good h
      refine wpIn_rangeFunc fun fn _ => ?_
      obtain ⟨l, mark, w1, φ1, hent, hdr, hl, hfr, hst⟩ := enterA_ok (P := P) hs hs1 hD0 fn ps asg body
      have hgv := (evalT_ok hs.tmps g).mono hst.ext
      rw [hg] at hgv
      generalize hgc : a.eval g = gv at hgv
      cases hgv with
      | func hfirst hcap =>
        rename_i fv cv
        rw [appS_eq] at h hbg ⊢
        have hargs : VRs φ1 (first ++ .yield s1.x :: cap) (fv ++ .func (.yield l) #[] #[] :: cv) := hfirst.append (.cons (.yield hl) hcap)
        obtain ⟨hrun, hok⟩ := bodyCallA_ok hE hrec hst.rel hfr hbg hargs
        refine ⟨l, mark, w1, { target := .fn (.func f) cv.toArray, args := fv.toArray ++ #[.func (.yield l) #[] #[]] }, w1, f, (fv ++ .func (.yield l) #[] #[] :: cv).toArray, w1, hent, ?_, fun _ _ => trivial, ?_, noDepth, ?_⟩
        · unfold resolve
          dsimp only [rangeCall]
          have hm : (#[Operand.const (.func (.yield l) #[] #[])] : Array Operand).map a.eval = #[.func (.yield l) #[] #[]] := by
            simp only [List.map_toArray, List.map_cons, List.map_nil]
            rfl
          rw [hgc, hm]
          rfl
        · show (callFunc f ((fv.toArray ++ #[.func (.yield l) #[] #[]]) ++ cv.toArray)).run P w1 = _
          have : (fv.toArray ++ #[.func (.yield l) #[] #[]]) ++ cv.toArray = (fv ++ .func (.yield l) #[] #[] :: cv).toArray := by simp
          rw [this]
          exact hrun w1
        · have hc : CallsIn (FW ro) (n - 1) P f (fv ++ .func (.yield l) #[] #[] :: cv).toArray w1 _ := hok (n - 1)
          refine CallsIn.mono hc fun e1 w3 he1 => ?_
          cases e1 with
          | panicked ch =>
            obtain ⟨v, H2, x2, φ2, he, _⟩ := he1
            rw [he] at h
            exact absurd rfl (h 309)
          | outgrown => exact he1.elim
          | returned val =>
            obtain ⟨v, H2, x2, hin, φ3, hv3, hst3⟩ := he1
            obtain ⟨hg2, hsub⟩ := goOX_in h hin
            obtain ⟨e, s', h3⟩ := rangeEnd_good hg2
            obtain ⟨jump, w4, hend, hj, rfl, hst4⟩ := rangeEnd_ok (P := P) (s := ⟨s.L, s.T, marks c df D, H2, x2⟩) hst3.rel (hst3.ext _ _ hl) h3
            refine ⟨jump, w4, hend, ?_⟩
            have hall := (hst.trans hst3).trans hst4
            have hst5 : StOk φ3 c ⟨s.L, s.T, marks c df D, H2.del dH s1.x, x2⟩ { a with defers := mark ++ a.defers } w4 ro :=
              ⟨hst4.rel, hst3.fresh hfr, hs.tmps.mono hall.ext, hdr.mono hst3.ext, hs.ro.mono hall.ext⟩
            have hpost : ∀ {ex}, ExR φ3 e ex → PostX φ c s w ro (goOX (bodyCallA E rec f (first ++ .yield s1.x :: cap) (newB s1.H s1.x (.loop .ready none c.fn c.km s.T c.nt ps asg body df)) (Nat.succ s1.x)) (fun _ H2 x2 => rangeEnd ⟨s.L, s.T, marks c df D, H2, x2⟩ s1.x) (fun _ _ _ => .no 309)) ex { a with defers := mark ++ a.defers } w4 :=
              fun hex => ⟨e, _, hsub _ _ (by rw [h3]; exact ⟨rfl, rfl⟩), φ3, hex, hst5, hall⟩
            rcases ex_of (φ := φ3) hj with ⟨rfl, rfl, hex⟩ | ⟨rfl, hex⟩ | ⟨id, rfl, hex⟩
            · exact hpost hex
            · exact wpIn_ret (hpost hex)
            · exact wpIn_exit (hpost hex)
    · exact absurd rfl (h 306)

/-! ### Code -/

theorem noL_ok {c : Ctx} {s : St} {a : Act} (hs : StOk φ c s a w ro) : StOk φ c (noL s) a w ro :=
  ⟨hs.rel, hs.fresh, ⟨hs.tmps.kept, fun t a h => by cases h⟩, hs.defers, hs.ro⟩

/-- What a drawn region owes. -/
def DrawOk (P : Program) (E : Env) (rec : Rec) : Prop :=
  ∀ c id ops s, c.rv = false → regionOk ops.toList = true → (exDraw E rec c ops (nthN (befL ops.toList [])) (lastOf ops.toList) s).good → ∀ φ a w ro n, StOk φ c s a w ro →
    (Code.region id ops true).wpIn (FW ro) n P (PostX φ c s w ro (exDraw E rec c ops (nthN (befL ops.toList [])) (lastOf ops.toList) s)) a w

theorem exRegion_ok {E : Env} (hE : E.P = P) (hxt : XtOk E) {rec : Rec} (hrec : RecOk P rec) (hdraw : DrawOk P E rec) {c : Ctx} (hc : c.rv = false) {id : Nat} {ops : Array Oper} {draw : Bool} {s : St} {a : Act} (h : (exRegion E rec c ops draw s).good) (hs : StOk φ c s a w ro) :
    (Code.region id ops draw).wpIn (FW ro) n P (PostX φ c s w ro (exRegion E rec c ops draw s)) a w := by
  unfold exRegion at h ⊢
  cases draw with
  | false =>
    have h : (opsA E rec c ops ops.toList (noL s)).good := h
    show (Code.region id ops false).wpIn (FW ro) n P (PostX φ c s w ro (opsA E rec c ops ops.toList (noL s))) a w
    refine wpIn_region ?_
    have := opsA_ok (ro := ro) (n := n) hE hxt hrec hc (Q := PostX φ c s w ro (opsA E rec c ops ops.toList (noL s))) ops.toList 0 (noL s) φ a w (fun j => by simp) h (noL_ok hs) (fun ex a' w' hp => hp)
    rw [List.range_eq_range']
    simpa using this
  | true =>
    have h : (bif regionOk ops.toList then exDraw E rec c ops (nthN (befL ops.toList [])) (lastOf ops.toList) s else .no 301 : X2).good := h
    show (Code.region id ops true).wpIn (FW ro) n P (PostX φ c s w ro (bif regionOk ops.toList then exDraw E rec c ops (nthN (befL ops.toList [])) (lastOf ops.toList) s else .no 301 : X2)) a w
    cases hreg : regionOk ops.toList with
    | false => rw [hreg] at h; exact absurd rfl (h 301)
    | true =>
      rw [hreg, cond_true] at h
      rw [cond_true]
      exact hdraw c id ops s hc hreg h φ a w ro n hs

/-- What a loop owes, told by rounds. -/
def LoopOk (P : Program) (rec : Rec) (k : Nat) : Prop :=
  ∀ c b s, (rec c (.loop b) s).good → c.rv = false → ∀ φ a w ro n, StOk φ c s a w ro → Code.roundsIn (FW ro) n P b (PostX φ c s w ro (rec c (.loop b) s)) k a w

theorem roundsIn_mono {F : Fence} {c : Code} {Q Q' : Exit → Act → World → Prop} (hQ : ∀ e a w, Q e a w → Q' e a w) : ∀ (k : Nat) (a : Act) (w : World), Code.roundsIn F n P c Q k a w → Code.roundsIn F n P c Q' k a w := by
  intro k
  induction k with
  | zero => intro a w h; exact h
  | succ k ih =>
    intro a w h
    refine wpIn_mono h fun e a w hq => ?_
    cases e <;> first | exact ih _ _ hq | exact hQ _ _ _ hq

theorem bind_then {r : X2} {f : St → X2} {c : Ctx} {s : St} (h : (goX r (bindS f)).good) {Y : Act → World → Prop}
    (hy : ∀ φ1 s1 a1 w1, (f s1).good → (∀ e s', InX (f s1) e s' → InX (goX r (bindS f)) e s') → StOk φ1 c s1 a1 w1 ro → Step φ s.H.get s.x w φ1 s1.H.get s1.x w1 → Y a1 w1) {ex : Exit} {a1 : Act} {w1 : World} (hp : PostX φ c s w ro r ex a1 w1) : Exit.then Y (PostX φ c s w ro (goX r (bindS f))) ex a1 w1 := by
  obtain ⟨e, s1, hin, φ1, hex, h1, h2⟩ := hp
  obtain ⟨hg, hsub⟩ := goX_in h hin
  cases hex with
  | normal => exact hy φ1 s1 a1 w1 hg hsub h1 h2
  | exit id => exact ⟨.exit id, s1, hsub _ _ ⟨rfl, rfl⟩, φ1, .exit id, h1, h2⟩
  | ret => exact ⟨.ret, s1, hsub _ _ ⟨rfl, rfl⟩, φ1, .ret, h1, h2⟩
  | pan hv => exact ⟨.pan _, s1, hsub _ _ ⟨rfl, rfl⟩, φ1, .pan hv, h1, h2⟩

theorem exPlain_ok {E : Env} (hE : E.P = P) (hxt : XtOk E) {rec : Rec} (hrec : RecOk P rec) (hdraw : DrawOk P E rec) {k : Nat} (hloop : LoopOk P rec k) :
    (∀ c code s, (exPlain code E rec c s).good → c.rv = false → ∀ φ a w ro n, StOk φ c s a w ro → code.wpIn (FW ro) n P (PostX φ c s w ro (exPlain code E rec c s)) a w) ∧ LoopOk P (fun c code s => exPlain code E rec c s) (k + 1) := by
  have hL : LoopOk P (fun c code s => exPlain code E rec c s) (k + 1) := by
    intro c b s h hc φ a w ro n hs
    have h : (goX (rec c b s) (bindS (rec c (.loop b)))).good := h
    show Code.roundsIn (FW ro) n P b (PostX φ c s w ro (goX (rec c b s) (bindS (rec c (.loop b))))) (k + 1) a w
    refine wpIn_mono (hrec.plain _ _ _ (goX_good h) hc φ a w ro n hs) fun ex a1 w1 hp => bind_then h (fun φ1 s1 a1 w1 hr hsub hs1 hst => ?_) hp
    exact roundsIn_mono (fun e a w hq => hq.trans hst hsub) _ _ _ (hloop _ _ _ hr hc φ1 a1 w1 ro n hs1)
  refine ⟨?_, hL⟩
  intro c code s h hc φ a w ro n hs
  cases code with
  | skip => exact wpIn_skip ⟨.normal, s, ⟨rfl, rfl⟩, φ, .normal, hs, .refl hs.rel⟩
  | region id ops draw => exact exRegion_ok hE hxt hrec hdraw hc h hs
  | seq x y =>
    have h : (goX (rec c x s) (bindS (rec c y))).good := h
    show (Code.seq x y).wpIn (FW ro) n P (PostX φ c s w ro (goX (rec c x s) (bindS (rec c y)))) a w
    refine wpIn_seq (wpIn_mono (hrec.plain _ _ _ (goX_good h) hc φ a w ro n hs) fun ex a1 w1 hp => bind_then h (fun φ1 s1 a1 w1 hr hsub hs1 hst => ?_) hp)
    exact wpIn_mono (hrec.plain _ _ _ hr hc φ1 a1 w1 ro n hs1) fun e a w hq => hq.trans hst hsub
  | cond o x y =>
    have h : (match evalT s.L s.T o with | .bool t => bif t then rec c x s else rec c y s | _ => .no 300 : X2).good := h
    show (Code.cond o x y).wpIn (FW ro) n P (PostX φ c s w ro (match evalT s.L s.T o with | .bool t => bif t then rec c x s else rec c y s | _ => .no 300 : X2)) a w
    have ho := evalT_ok hs.tmps o
    split at h
    · rename_i t ht
      rw [ht] at ho
      generalize hcv : a.eval o = cv at ho
      cases ho
      refine wpIn_cond hcv ?_
      cases t with
      | true => exact hrec.plain _ _ _ h hc φ a w ro n hs
      | false => exact hrec.plain _ _ _ h hc φ a w ro n hs
    · exact absurd rfl (h 300)
  | block id b =>
    have h : (goX (rec c b s) (exBlock id)).good := h
    show (Code.block id b).wpIn (FW ro) n P (PostX φ c s w ro (goX (rec c b s) (exBlock id))) a w
    refine wpIn_block (wpIn_mono (hrec.plain _ _ _ (goX_good h) hc φ a w ro n hs) fun ex a1 w1 hp => ?_)
    obtain ⟨e1, s1, hin, φ1, hex, h3, h4⟩ := hp
    obtain ⟨hg, hsub⟩ := goX_in h hin
    cases hex with
    | normal => exact ⟨.normal, s1, hsub _ _ ⟨rfl, rfl⟩, φ1, .normal, h3, h4⟩
    | ret => exact ⟨.ret, s1, hsub _ _ ⟨rfl, rfl⟩, φ1, .ret, h3, h4⟩
    | pan hv => exact ⟨.pan _, s1, hsub _ _ ⟨rfl, rfl⟩, φ1, .pan hv, h3, h4⟩
    | exit id' =>
      have hsub : ∀ e' s', InX (bif Nat.beq id' id then .ok .normal s1 else .ok (.exit id') s1 : X2) e' s' → InX (goX (rec c b s) (exBlock id)) e' s' := hsub
      show (if id' = id then PostX φ c s w ro (goX (rec c b s) (exBlock id)) .normal a1 w1 else PostX φ c s w ro (goX (rec c b s) (exBlock id)) (.exit id') a1 w1)
      cases hid : Nat.beq id' id with
      | true =>
        rw [hid, cond_true] at hsub
        rw [if_pos (beqT hid)]
        exact ⟨.normal, s1, hsub _ _ ⟨rfl, rfl⟩, φ1, .normal, h3, h4⟩
      | false =>
        rw [hid, cond_false] at hsub
        rw [if_neg (beqN hid)]
        exact ⟨.exit id', s1, hsub _ _ ⟨rfl, rfl⟩, φ1, .exit id', h3, h4⟩
  | loop b => exact wpIn_loop_rounds (k + 1) (hL c b s h hc φ a w ro n hs)
  | rangeFunc g ps asg body => exact rangeA_ok hE hrec h hs
  | exit id => exact wpIn_exit ⟨.exit id, s, ⟨rfl, rfl⟩, φ, .exit id, hs, .refl hs.rel⟩
  | ret => exact wpIn_ret ⟨.ret, s, ⟨rfl, rfl⟩, φ, .ret, hs, .refl hs.rel⟩
  | scope b =>
    have h : (match c.ro with | none => rec c b s | some _ => .no 308 : X2).good := h
    show (Code.scope b).wpIn (FW ro) n P (PostX φ c s w ro (match c.ro with | none => rec c b s | some _ => .no 308 : X2)) a w
    have hro := hs.ro
    split at h
    · rename_i hcr
      rw [hcr] at hro
      cases hro
      have h1 := hrec.plain _ _ _ h hc φ a w none n hs
      have h2 : (Code.scope b).wpIn Fence.wide n P (PostX φ c s w none (rec c b s)) a w := wpIn_wide.2 (wp_scope_straight (wp_mono (wpIn_wide.1 h1) fun ex a1 w1 hp => by
        obtain ⟨e, s1, hin, φ1, hex, h3, h4⟩ := hp
        cases hex with
        | normal => exact ⟨_, s1, hin, φ1, .normal, h3, h4⟩
        | exit id => exact ⟨_, s1, hin, φ1, .exit id, h3, h4⟩
        | ret => exact ⟨_, s1, hin, φ1, .ret, h3, h4⟩
        | pan hv => exact ⟨_, s1, hin, φ1, .pan hv, h3, h4⟩))
      exact h2
    · exact absurd rfl (h 308)
  | label l => exact wpIn_label ⟨.normal, s, ⟨rfl, rfl⟩, φ, .normal, hs, .refl hs.rel⟩
  | goto l => exact absurd rfl (h 307)
  | refuse why => exact absurd rfl (h 307)

theorem bare_unRv {c : Ctx} {s : St} {a : Act} (h : StOk φ c (bareD s) a w ro) : StOk φ (Ce.unRv c) (bareD s) a w ro := ⟨h.rel, h.fresh, h.tmps, h.defers, h.ro⟩

theorem exStep_ok {E : Env} (hE : E.P = P) (hxt : XtOk E) {rec : Rec} (hrec : RecOk P rec) (hdraw : DrawOk P E rec) {k : Nat} (hloop : LoopOk P rec k) : RecOk P (fun c code s => exStep code E rec c s) ∧ LoopOk P (fun c code s => exStep code E rec c s) (k + 1) := by
  obtain ⟨hplain, hL⟩ := exPlain_ok hE hxt hrec hdraw hloop
  have heq : ∀ {c code s}, c.rv = false → exStep code E rec c s = exPlain code E rec c s := by
    intro c code s hc
    show (Bool.casesOn c.rv (exPlain code E rec c s) (exRv code E rec c s) : X2) = _
    rw [hc]
  refine ⟨⟨fun c code s h hc => ?_, ?_⟩, fun c b s h hc => ?_⟩
  · intro φ a w ro n hs
    have h : (exStep code E rec c s).good := h
    show code.wpIn (FW ro) n P (PostX φ c s w ro (exStep code E rec c s)) a w
    rw [heq hc] at h ⊢
    exact hplain c code s h hc φ a w ro n hs
  · intro c code s e s' h hc φ a w c₀ cs m hm hs
    have h1 : (Bool.casesOn c.rv (exPlain code E rec c s) (exRv code E rec c s) : X2) = .ok e s' := h
    rw [hc] at h1
    have h2 : exRv code E rec c s = .ok e s' := h1
    clear h h1
    have hother : goX (exPlain code E rec (unRv c) (bareD s)) (fun e s' => bif noD s' then .ok e ⟨s'.L, s'.T, s.D, s'.H, s'.x⟩ else .no 311) = .ok e s' →
        code.wpS P (fun ex a' cs' w' => ∃ φ' m', cs' = { c₀ with mode := m' } :: cs ∧ ModeOk φ' s'.D m' ∧ ExR φ' e ex ∧ StOk φ' c (bareD s') a' w' none ∧ Step φ s.H.get s.x w φ' s'.H.get s'.x w') a ({ c₀ with mode := m } :: cs) w := by
      intro h
      obtain ⟨e1, s1, h3, h4⟩ := goX_ok h
      have h5 := hplain (unRv c) code (bareD s) (by rw [h3]; exact good_xok) rfl φ a w none 0 (bare_unRv hs)
      rw [h3] at h5
      refine wpS_of_wp (wp_mono ((wpIn_wide (n := 0)).1 h5) fun ex a' w' hp => ?_)
      obtain ⟨e2, s2, ⟨he2, hs2⟩, φ', hex, h6, h7⟩ := hp
      subst he2 hs2
      cases hnd : noD s2 with
      | false => rw [hnd] at h4; cases h4
      | true =>
        rw [hnd] at h4
        cases h4
        have hD := noD_ok hnd
        exact ⟨φ', m, rfl, hm.mono h7.ext, hex, ⟨h6.rel, h6.fresh, h6.tmps, by have := h6.defers; rw [hD] at this; exact this, h6.ro⟩, h7⟩
    unfold exRv at h2
    split at h2
    · rename_i x y
      have h3 : goX (rec c x s) (bindS (rec c y)) = .ok e s' := h2
      obtain ⟨e1, s1, h4, h5⟩ := goX_ok h3
      refine wpS_seq ?_
      intro b k hb hr
      obtain ⟨ex, a1, cs1, w1, hq, harr⟩ := hrec.rv _ _ _ _ _ h4 hc φ a w c₀ cs m hm hs b k hb hr
      refine ⟨ex, a1, cs1, w1, ?_, harr⟩
      obtain ⟨φ1, m1, rfl, hm1, hex, hs1, hst⟩ := hq
      cases hex with
      | normal =>
        intro b k hb hr
        obtain ⟨ex2, a2, cs2, w2, hq2, harr2⟩ := hrec.rv _ _ _ _ _ h5 hc φ1 a1 w1 c₀ cs m1 hm1 hs1 b k hb hr
        obtain ⟨φ2, m2, rfl, hm2, hex2, hs2, hst2⟩ := hq2
        exact ⟨ex2, a2, _, w2, ⟨φ2, m2, rfl, hm2, hex2, hs2, hst.trans hst2⟩, harr2⟩
      | exit id => cases h5; exact ⟨φ1, m1, rfl, hm1, .exit id, hs1, hst⟩
      | ret => cases h5; exact ⟨φ1, m1, rfl, hm1, .ret, hs1, hst⟩
      | pan hv => cases h5; exact ⟨φ1, m1, rfl, hm1, .pan hv, hs1, hst⟩
    · rename_i o x y
      have h3 : (match evalT s.L s.T o with | .bool t => bif t then rec c x s else rec c y s | _ => .no 300 : X2) = .ok e s' := h2
      have ho := evalT_ok (show TmpOk φ c.km c.nt s.L s.T a.tmps from hs.tmps) o
      split at h3
      · rename_i t ht
        rw [ht] at ho
        generalize hcv : a.eval o = cv at ho
        cases ho
        refine wpS_cond hcv ?_
        cases t with
        | true => exact hrec.rv _ _ _ _ _ h3 hc φ a w c₀ cs m hm hs
        | false => exact hrec.rv _ _ _ _ _ h3 hc φ a w c₀ cs m hm hs
      · cases h3
    · rename_i id ops
      have h3 : opsA E rec c ops ops.toList (noL s) = .ok e s' := h2
      refine wpS_region ?_
      have hs0 : StOk φ c (bareD (noL s)) a w none := ⟨hs.rel, hs.fresh, ⟨hs.tmps.kept, fun t a h => by cases h⟩, hs.defers, hs.ro⟩
      have := opsS_ok hE hc (c₀ := c₀) (cs := cs) (Q := fun ex a' cs' w' => ∃ φ' m', cs' = { c₀ with mode := m' } :: cs ∧ ModeOk φ' s'.D m' ∧ ExR φ' e ex ∧ StOk φ' c (bareD s') a' w' none ∧ Step φ s.H.get s.x w φ' s'.H.get s'.x w') ops.toList 0 (noL s) e s' φ a w m (fun j => by simp) h3 hm hs0
        (fun φ' m' ex a' w' q1 q2 q3 q4 => ⟨φ', m', rfl, q1, q2, q3, q4⟩)
      rw [List.range_eq_range']
      simpa using this
    · exact hother h2
  · intro φ a w ro n hs
    have h : (exStep (.loop b) E rec c s).good := h
    show Code.roundsIn (FW ro) n P b (PostX φ c s w ro (exStep (.loop b) E rec c s)) (k + 1) a w
    rw [heq hc] at h ⊢
    exact hL c b s h hc φ a w ro n hs

theorem ex_ok {E : Env} (hE : E.P = P) (hxt : XtOk E) (hdraw : ∀ rec, RecOk P rec → DrawOk P E rec) : ∀ k, RecOk P (ex E k) ∧ LoopOk P (ex E k) k := by
  intro k
  induction k with
  | zero =>
    refine ⟨⟨?_, ?_⟩, ?_⟩
    · intro c code s h; exact absurd rfl (h 310)
    · intro c code s e s' h; cases h
    · intro c b s h; exact absurd rfl (h 310)
  | succ k ih => exact exStep_ok hE hxt ih.1 (hdraw _ ih.1) ih.2

end Go.Ce
