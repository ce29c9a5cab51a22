/- The abstract evaluator 'Ce': calls of functions with a body. -/
import Derived.Test.YtiellonfgcmaaaaGreatCeZ
set_option linter.unusedVariables false
set_option linter.unusedSimpArgs false
set_option linter.unusedSectionVars false
namespace Go.Ce
variable {P : Program} {φ : PM} {w : World} {H H' : Hp} {x x' : Nat} {v : AV} {n : Nat} {ro : Option Nat}

theorem condO_ok' {c : Bool} {a : O3} {n : Nat} {v : AV} {H : Hp} {x : Nat} (h : (bif c then .no n else a) = .ok v H x) : c = false ∧ a = .ok v H x := by
  cases c with
  | false => exact ⟨rfl, h⟩
  | true => cases h

/-! ### Parameters -/

theorem insT_ok {km d : Nat} {T : Tr AV} {t : Nat} {u : AV} {j : Nat} {a : AV} (h : (insT km d T t u).get j = some a) (hT : ∀ j a, T.get j = some a → kept km j = true) :
    (j = t ∧ a = u ∧ kept km t = true) ∨ (j ≠ t ∧ T.get j = some a) := by
  unfold insT at h
  cases hk : kept km t with
  | false =>
    rw [hk] at h
    refine .inr ⟨fun e => ?_, h⟩
    have := hT _ _ h
    rw [e, hk] at this
    cases this
  | true =>
    rw [hk] at h
    rcases Tr.get_ins h with ⟨e1, e2⟩ | ⟨e1, e2⟩
    · exact .inl ⟨e1, e2, rfl⟩
    · exact .inr ⟨e1, e2⟩

theorem argsT_ok {km d : Nat} {F : Nat → Value} : ∀ {args : List AV} {vals : List Value} {i : Nat} {T : Tr AV}, VRs φ args vals → (∀ t a, T.get t = some a → kept km t = true ∧ VR φ a (F t)) → (∀ j u, vals[j]? = some u → F (i + j) = u) →
    ∀ t a, (argsT km d args i T).get t = some a → kept km t = true ∧ VR φ a (F t) := by
  intro args
  induction args with
  | nil => intro vals i T _ hT _; exact hT
  | cons u l ih =>
    intro vals i T hv hT hF
    cases hv with
    | cons hu hl =>
      refine ih (i := i + 1) hl (fun t a h => ?_) (fun j u hj => ?_)
      · rcases insT_ok h (fun j a h => (hT j a h).1) with ⟨rfl, rfl, hk⟩ | ⟨_, h2⟩
        · exact ⟨hk, by rw [show F t = _ from hF 0 _ rfl]; exact hu⟩
        · exact hT t a h2
      · have := hF (j + 1) u (by simpa using hj)
        rw [← this]; congr 1; omega

theorem setParams_ok {km d nt : Nat} : ∀ {ps : List Tmp} {args : List AV} {vals : List Value} {T T1 : Tr AV} {tmps : Array Value}, setParams km d nt ps args T = .ok T1 → VRs φ args vals → TR φ km T nt tmps →
    ps.length = vals.length ∧ TR φ km T1 nt ((ps.zip vals).foldl (fun (tmps : Array Value) (q : Tmp × Value) => tmps.setIfInBounds q.1 q.2) tmps) := by
  intro ps
  induction ps with
  | nil =>
    intro args vals T T1 tmps h hv hT
    cases args with
    | nil => cases hv; cases h; exact ⟨rfl, hT⟩
    | cons _ _ => cases h
  | cons t ts ih =>
    intro args vals T T1 tmps h hv hT
    cases args with
    | nil => cases h
    | cons u l =>
      unfold setParams at h
      obtain ⟨hlt, h2⟩ := cond_ok h
      have hlt := bltT hlt
      cases hv with
      | cons hu hl =>
        rename_i uv vl
        have hT2 : TR φ km (insT km d T t u) nt (tmps.setIfInBounds t uv) := by
          refine ⟨by simpa using hT.1, fun j a h => ?_⟩
          rcases insT_ok h (fun j a h => (hT.2 j a h).1) with ⟨rfl, rfl, hk⟩ | ⟨hne, h2⟩
          · refine ⟨hk, ?_⟩
            have : (tmps.setIfInBounds j uv).getD j undef = uv := by
              have hs : j < tmps.size := by rw [hT.1]; exact hlt
              simp [Array.getD, hs]
            rw [this]; exact hu
          · have h3 := hT.2 j a h2
            refine ⟨h3.1, ?_⟩
            have : (tmps.setIfInBounds t uv).getD j undef = tmps.getD j undef := by
              rw [Array.getD_eq_getD_getElem?, Array.getD_eq_getD_getElem?, Array.getElem?_setIfInBounds, if_neg (fun e => hne e.symm)]
            rw [this]; exact h3.2
        obtain ⟨h3, h4⟩ := ih h2 hl hT2
        exact ⟨by simp [h3], h4⟩

/-! ### Leaving -/

/-- A name is given up, and its block may be anything from here on. -/
theorem step_kill (r : Rel φ H.get x w) {m : Nat} (hm : (H.get m).isSome = true) {y : Nat × Nat} (hy : φ m = some y) (w' : World)
    (hos : w'.os = w.os) (htape : w'.tape = w.tape) (hout : w'.output = w.output) (hsz : w'.heap.size = w.heap.size) (hlook : ∀ k, k ≠ y.1 → w'.heap[k]? = w.heap[k]?) : Step φ H.get x w φ (H.del dH m).get x w' := by
  have hold : ∀ k, ((H.del dH m).get k).isSome = true → k ≠ m ∧ (H.get k).isSome = true := by
    intro k hk
    obtain ⟨u, hu⟩ := Option.isSome_iff_exists.1 hk
    have := Tr.get_del hu
    exact ⟨this.1, by rw [this.2]; rfl⟩
  refine { rel := ⟨?_, ?_, ?_⟩, ext := Ext.refl _, dom := fun _ _ => rfl, le := Nat.le_refl _, frame := ?_, live := ?_, size := by omega, os := hos, tape := htape, output := hout, old := fun k _ h => (hold k h).2, ver := ?_, same := ?_, bnd := r.bnd }
  · intro k u hu
    have h2 := Tr.get_del hu
    refine (r.blk k u h2.2).kept (Ext.refl _) (fun z hz => hlook _ fun e' => h2.1 ?_)
    exact r.inj k m z y (by rw [h2.2]; rfl) hm hz hy e'
  · intro m k z u hm hk hz hu e
    exact r.inj m k z u (hold m hm).2 (hold k hk).2 hz hu e
  · intro k hk
    exact r.bnd k (hold k hk).2
  · intro k _ hnot
    exact hlook k (fun e => hnot m y hm hy e.symm)
  · intro k z hk hz
    exact .inr ⟨k, z, (hold k hk).2, hz, rfl⟩
  · intro k u u' hu hu'
    have h2 := (Tr.get_del hu').2
    rw [hu] at h2; cases h2; exact ⟨Nat.le_refl _, fun _ => rfl⟩
  · intro k u u' z hu hu' _ hz
    have h2 := Tr.get_del hu'
    exact hlook _ fun e' => h2.1 (r.inj k m z y (by rw [hu]; rfl) hm hz hy e')

theorem isDefd_ok {m : Nat} (h : isDefd (H.get m) = true) : ∃ ver, H.get m = some ⟨ver, .defd⟩ := by
  unfold isDefd at h
  split at h
  · rename_i ver e; exact ⟨ver, e⟩
  · cases h

theorem Rel.defd (r : Rel φ H.get x w) {m ver : Nat} (h : H.get m = some ⟨ver, .defd⟩) : ∃ b sz, φ m = some (b, sz) ∧ w.heap[b]? = some (.deferred (some [])) := by
  have := r.blk m _ h
  cases this with
  | defd h hb => exact ⟨_, _, h, hb⟩

theorem run_take {b : Nat} (h : w.heap[b]? = some (.deferred (some []))) : (Instr.takeDeferred b).run P w = .ok [] { w with heap := w.heap.setIfInBounds b (.deferred none) } := by
  unfold Instr.takeDeferred
  have h1 : (getObj b).run P w = .ok (.deferred (some [])) w := by simp [getObj, Sem.run, h]
  have h2 : (setObj b (.deferred none)).run P w = .ok () { w with heap := w.heap.setIfInBounds b (.deferred none) } := by simp [setObj, Sem.run, h]
  simp only [Sem.run_bind, h1, Result.andThen_ok, h2, Sem.run_pure]

theorem DR.mono {φ φ' : PM} (e : Ext φ φ') {D : List DE} {ds : List Deferred} (h : DR φ D ds) : DR φ' D ds := by
  induction h with
  | nil => exact .nil
  | cons h _ ih => exact .cons (e _ _ h) ih
  | call h _ ih => exact .call (h.mono e) ih

/-- A frame's mode on its way out. -/
def MdOk (φ : PM) (md : AV) (m : FrameMode) : Prop := (md = .nilIface ∧ m = .returning) ∨ ∃ ch, PanV φ md ch ∧ m = .panicking ch

theorem MdOk.mono {φ φ' : PM} (e : Ext φ φ') {md : AV} {m : FrameMode} (h : MdOk φ md m) : MdOk φ' md m := by
  rcases h with h | ⟨ch, h1, h2⟩
  · exact .inl h
  · exact .inr ⟨ch, h1.mono e, h2⟩

theorem MdOk.run {md : AV} {m : FrameMode} (h : MdOk φ md m) : m ≠ .run := by
  rcases h with ⟨_, rfl⟩ | ⟨ch, _, rfl⟩ <;> intro e <;> cases e

theorem MdOk.settle {md : AV} {m : FrameMode} (h : MdOk φ md m) : settle m = m := by
  rcases h with ⟨_, rfl⟩ | ⟨ch, h1, rfl⟩
  · rfl
  · cases h1; rfl

/-- What a deferred call owes. -/
def DefOk (P : Program) (call : AV → FuncId → List AV → Hp → Nat → O3) : Prop :=
  ∀ g args vals H x md md' H' x' φ w m, call md g args H x = .ok md' H' x' → Rel φ H.get x w → Fresh φ x → VRs φ args vals → MdOk φ md m →
    (∀ w, (callFunc g vals.toArray).run P w = .ok (.enter g vals.toArray) w) ∧
    ∀ n, CallsDIn (FW none) n P g vals.toArray m w fun e u' w' => ∃ val φ', e = .returned val ∧ MdOk φ' md' (settle u') ∧ Step φ H.get x w φ' H'.get x' w'

theorem leaveD_ok {fn : Func} {tmps : Array Value} {R : Ending → World → Prop} {call : AV → FuncId → List AV → Hp → Nat → O3} (hcall : DefOk P call) : ∀ {D : List DE} {ds : List Deferred} {H H' : Hp} {x x' : Nat} {md md' : AV} {m : FrameMode} {φ : PM} {w : World}, leaveD call H x md D = .ok md' H' x' → DR φ D ds →
    MdOk φ md m → Rel φ H.get x w → Fresh φ x → (∀ φ' m' w', MdOk φ' md' m' → Step φ H.get x w φ' H'.get x' w' → LeavesIn (FW none) n P fn tmps R [] m' w') → LeavesInM (FW none) n P fn tmps R ds m w := by
  intro D
  induction D with
  | nil =>
    intro ds H H' x x' md md' m φ w h hd hm r hf hk
    cases hd; cases h
    exact hk φ m w hm (.refl r)
  | cons d D ih =>
    intro ds H H' x x' md md' mo φ w h hd hmo r hf hk
    cases hd with
    | cons hφ ht =>
      rename_i m b sz ds
      unfold leaveD at h
      obtain ⟨h1, h2⟩ := condO_ok h
      obtain ⟨ver, hm⟩ := isDefd_ok h1
      obtain ⟨b', sz', hφ', hb⟩ := r.defd hm
      rw [hφ] at hφ'; cases hφ'
      have hlt : b < w.heap.size := (Array.getElem?_eq_some_iff.1 hb).1
      have hst := step_kill r (by rw [hm]; rfl) hφ { w with heap := w.heap.setIfInBounds b (.deferred none) } rfl rfl rfl (by simp) (fun k hk => by
        show (w.heap.setIfInBounds b _)[k]? = _
        rw [Array.getElem?_setIfInBounds, if_neg (fun e => hk e.symm)])
      refine ⟨hmo.run, .inl ⟨b, _, rfl, run_take hb, ?_⟩⟩
      exact ih h2 ht hmo hst.rel hf fun φ' m' w' hm' hw' => hk φ' m' w' hm' (hst.trans hw')
    | call hargs ht =>
      rename_i g args first cap ds
      unfold leaveD at h
      obtain ⟨v1, H1, x1, hc, he⟩ := oneO_ok (show (oneO (call md g args H x) fun md' H' x' => leaveD call H' x' md' D).good from by rw [h]; exact good_ok)
      rw [he] at h
      obtain ⟨hrun, hcd⟩ := hcall g args (first ++ cap) H x md v1 H1 x1 φ w mo hc r hf hargs hmo
      have hto : first.toArray ++ cap.toArray = (first ++ cap).toArray := by simp
      refine ⟨hmo.run, .inr ⟨noDepth, .func g, cap.toArray, g, (first ++ cap).toArray, rfl, ?_, fun _ _ => trivial, ?_⟩⟩
      · show (callFunc g (first.toArray ++ cap.toArray)).run P w = _
        rw [hto]; exact hrun w
      · refine (hcd (n - 1)).mono fun e u' w' he => ?_
        obtain ⟨val, φ', rfl, hm1, hst⟩ := he
        exact ih h (ht.mono hst.ext) hm1 hst.rel (hst.fresh hf) fun φ2 m2 w2 hm2 hw2 => hk φ2 m2 w2 hm2 (hst.trans hw2)

/-! ### A deferred call's frame leaves -/

theorem leaves_going {F : Fence} {fn : Func} {tmps : Array Value} {R : Ending → World → Prop} : ∀ (ds : List Deferred) (u : FrameMode) (w : World) (fr : Frame)
    (cs : List Frame), fr.mode = u → fr.defers = ds → fr.tmps = tmps → P.funcs[fr.fn]? = some fn → fr.kind = .deferred → F.fn fr.fn → F.room (cs.length + 1 + n) → LeavesInM F n P fn tmps R ds u w →
    ∃ e w' fr', R e w' ∧ ComesIn (Machine.fenced P F) P (lone fr cs w) (lone fr' cs w') e ∧ fr'.kind = .deferred ∧ fr'.fn = fr.fn ∧ fr'.going P w' e := by
  intro ds
  induction ds with
  | nil =>
    intro u w fr cs hu hd ht hf hk hb hroom h
    cases u with
    | run => exact h.elim
    | returning =>
      obtain ⟨v, hr, hR⟩ := h
      exact ⟨.returned v, w, fr, hR, StepsIn.refl _, hk, rfl, hu, hd, fn, hf, ht ▸ hr⟩
    | panicking chain => exact ⟨.panicked chain, w, fr, h, StepsIn.refl _, hk, rfl, hu, hd, fn, hf⟩
  | cons d ds ih =>
    intro u w fr cs hu hd ht hf hk hb hroom h
    obtain ⟨hrun, h⟩ := h
    rcases h with ⟨r, w', htar, htake, hrest⟩ | ⟨hn, fv, cap, f, args, htar, hinv, hlead, hFf, hcall⟩
    · have h1 := step_collected (cs := cs) (hu ▸ hrun) hd htar htake
      have i1 : (lone fr cs w).fenced P F := fenced_out hb hroom (hu ▸ hrun) hd (fun g hg => by rw [htar] at hg; simp [Target.leads] at hg)
      obtain ⟨e', w'', fr', hR', hs', hk', hfn', hl'⟩ := ih u w' { fr with defers := [] ++ ds } cs hu rfl ht hf hk hb hroom hrest
      exact ⟨e', w'', fr', hR', ComesIn.of_steps (.one i1 h1) hs', hk', hfn', hl'⟩
    · have h1 := step_defer (cs := cs) (hu ▸ hrun) hd htar hinv
      have i1 : (lone fr cs w).fenced P F := fenced_out hb hroom (hu ▸ hrun) hd hlead
      have hroom' : F.room (({ fr with defers := ds } :: cs).length + 1 + (n - 1)) := Fence.room_enter hroom hn
      obtain ⟨e, u', w', frX, hR, hsteps, hkX, hfX, hgo⟩ := hcall { fr with defers := ds } cs hu hroom'
      cases e with
      | outgrown => exact ⟨.outgrown, w', fr, hR, Outgrown.of_steps (.one h1) hsteps, hk, rfl, trivial⟩
      | returned v =>
        have i2 : (lone frX ({ { fr with defers := ds } with mode := u' } :: cs) w').fenced P F := fenced_going (n := n - 1) (hfX ▸ hFf) hroom' hgo
        have h2 := step_going_returned (c := { { fr with defers := ds } with mode := u' }) (cs := cs) hkX hgo
        obtain ⟨e', w'', fr', hR', hs', hk', hfn', hl'⟩ := ih (settle u') w' { { { fr with defers := ds } with mode := u' } with mode := settle u' } cs rfl rfl ht hf hk hb hroom hR
        exact ⟨e', w'', fr', hR', ComesIn.of_steps (.head i1 h1 (StepsIn.trans hsteps (.one i2 h2))) hs', hk', hfn', hl'⟩
      | panicked chain =>
        have i2 : (lone frX ({ { fr with defers := ds } with mode := u' } :: cs) w').fenced P F := fenced_going (n := n - 1) (hfX ▸ hFf) hroom' hgo
        have h2 := step_going_panicked (c := { { fr with defers := ds } with mode := u' }) (cs := cs) hgo
        obtain ⟨e', w'', fr', hR', hs', hk', hfn', hl'⟩ := ih (raised u' chain) w' { { { fr with defers := ds } with mode := u' } with mode := raised u' chain } cs rfl rfl ht hf hk hb hroom hR
        exact ⟨e', w'', fr', hR', ComesIn.of_steps (.head i1 h1 (StepsIn.trans hsteps (.one i2 h2))) hs', hk', hfn', hl'⟩

theorem callsDIn_of_wp_marks {F : Fence} {f : FuncId} {fn : Func} {c : Code} {args : Array Value} {u : FrameMode} {w : World} {R : Ending → World → Prop}
    (hf : P.funcs[f]? = some fn) (hb : fn.body = some c) (hF : F.fn f)
    (h : c.wpIn F n P (bodyPostM F n P fn R) { tmps := args ++ Array.replicate (fn.ntmps - args.size) undef, defers := [] } w) (hro : F.round = none := by rfl) :
    CallsDIn F n P f args u w fun e u' w' => u' = u ∧ R e w' := by
  refine ⟨hF, fun c₀ cs hu hr => ?_⟩
  let b : Frame := { (default : Frame) with fn := f, kind := .deferred, roundOf := none }
  have henter : Frame.enter P f args .deferred =
      b.atR { tmps := args ++ Array.replicate (fn.ntmps - args.size) undef, defers := [] } [.code c] := by
    simp [Frame.enter, Frame.atR, hf, hb, b]
  have hc : ({ c₀ with mode := u } : Frame) = c₀ := by subst hu; rfl
  obtain ⟨e, a', w', hq, harr⟩ := h b [] (c₀ :: cs) hro.symm hF hr
  rw [← henter] at harr
  cases e with
  | normal =>
    obtain ⟨e', w'', fr', hR, hs, hk, hfn, hl⟩ := leaves_going a'.defers .returning w' { b.atR a' [] with mode := .returning } (c₀ :: cs) rfl rfl rfl hf rfl hF hr hq
    exact ⟨e', u, w'', fr', ⟨rfl, hR⟩, by rw [hc]; exact ComesIn.of_steps (StepsIn.trans harr (.one (fenced_calm (fr := b.atR a' []) hF hr rfl) (stepR_end rfl))) hs, hk, hfn, hl⟩
  | ret =>
    obtain ⟨todo, hs₀⟩ := harr.1 rfl
    obtain ⟨e', w'', fr', hR, hs, hk, hfn, hl⟩ := leaves_going a'.defers .returning w' { b.atR a' todo with mode := .returning } (c₀ :: cs) rfl rfl rfl hf rfl hF hr hq
    exact ⟨e', u, w'', fr', ⟨rfl, hR⟩, by rw [hc]; exact ComesIn.of_steps hs₀ hs, hk, hfn, hl⟩
  | panic chain =>
    obtain ⟨todo, hs₀⟩ := harr
    obtain ⟨e', w'', fr', hR, hs, hk, hfn, hl⟩ := leaves_going a'.defers (.panicking chain) w' { b.atR a' todo with mode := .panicking chain } (c₀ :: cs) rfl rfl rfl hf rfl hF hr hq
    exact ⟨e', u, w'', fr', ⟨rfl, hR⟩, by rw [hc]; exact ComesIn.of_steps hs₀ hs, hk, hfn, hl⟩
  | exit id => exact hq.elim
  | goto l => exact hq.elim
  | outgrown => exact ⟨.outgrown, u, w', b, ⟨rfl, hq⟩, harr.resolve_left (by simp [b]), rfl, rfl, trivial⟩

/-- What a result variable holds. -/
def resS (tmps : Array Value) : ResultVar → Sem Value
  | .tmp t => pure (tmps.getD t undef)
  | .cell a t => do loadVar t (← asAddr (tmps.getD a undef))

theorem run_results (fn : Func) (tmps : Array Value) : (results fn tmps).run P w = ((fn.results.mapM (resS tmps)).run P w).andThen fun vs w' => .ok (if h : vs.size = 1 then vs[0] else .tuple vs) w' := by
  unfold results
  rw [Sem.run_bind]
  refine congrFun (congrArg Result.andThen (congrArg (fun f : ResultVar → Sem Value => (fn.results.mapM f).run P w) (funext fun rv => ?_))) _
  cases rv <;> rfl

theorem resA_ok (r : Rel φ H.get x w) {s : St} {tmps : Array Value} (hg : ∀ t, VR φ (getT s.L s.T t) (tmps.getD t undef)) {rv : ResultVar} (h : resA P s H rv = .ok v) :
    ∃ val, (resS tmps rv).run P w = .ok val w ∧ VR φ v val := by
  unfold resA at h
  cases rv with
  | tmp t => cases h; exact ⟨_, rfl, hg t⟩
  | cell a t =>
    have h : loadA P H t (getT s.L s.T a) = .ok v := h
    have ha := hg a
    unfold resS
    dsimp only
    cases hp : getT s.L s.T a with
    | ptr n o =>
      rw [hp] at h ha
      generalize tmps.getD a undef = av at ha ⊢
      cases ha with
      | ptr hφ =>
        obtain ⟨val, h1, h2⟩ := loadA_var (P := P) r h hφ
        exact ⟨val, h1, h2⟩
    | _ => rw [hp] at h; cases h

theorem resL_ok (r : Rel φ H.get x w) {s : St} {tmps : Array Value} (hg : ∀ t, VR φ (getT s.L s.T t) (tmps.getD t undef)) : ∀ {l : List ResultVar} {vs : List AV}, resL P s H l = .ok vs →
    ∃ vals, (l.mapM (resS tmps)).run P w = .ok vals w ∧ VRs φ vs vals := by
  intro l
  induction l with
  | nil => intro vs h; cases h; exact ⟨[], rfl, .nil⟩
  | cons rv l ih =>
    intro vs h
    unfold resL at h
    obtain ⟨u, hu, h2⟩ := R.bind_ok h
    obtain ⟨us, hus, h3⟩ := R.bind_ok h2
    cases h3
    obtain ⟨val, h4, h5⟩ := resA_ok r hg hu
    obtain ⟨vals, h6, h7⟩ := ih hus
    refine ⟨val :: vals, ?_, .cons h5 h7⟩
    rw [List.mapM_cons, Sem.run_bind, h4, Result.andThen_ok, Sem.run_bind, h6, Result.andThen_ok]
    rfl

theorem one_ok {vs : List AV} {vals : List Value} (h : VRs φ vs vals) : VR φ (one vs) (if h : vals.toArray.size = 1 then vals.toArray[0] else .tuple vals.toArray) := by
  cases h with
  | nil => exact .tup .nil
  | cons ha hl =>
    cases hl with
    | nil => exact ha
    | cons hb hl =>
      rw [dif_neg (by simp)]
      exact .tup (.cons ha (.cons hb hl))

theorem TmpOk.get {km nt : Nat} {L : Lo} {T : Tr AV} {tmps : Array Value} (h : TmpOk φ km nt L T tmps) (t : Nat) : VR φ (getT L T t) (tmps.getD t undef) := by
  unfold getT
  cases hl : lookL L t with
  | some a => exact (h.loc t a hl).2
  | none =>
    show VR φ (orJunk (T.get t)) _
    cases ht : T.get t with
    | some a => exact (h.kept.2 t a ht).2
    | none => exact .junk _

/-! ### The call -/

theorem bodyOf_ok {f : FuncId} {q : Func × Code} (h : bodyOf P f = .ok q) : P.funcs[f]? = some q.1 ∧ q.1.body = some q.2 ∧ isNG q.1 = false := by
  unfold bodyOf at h
  split at h
  · cases h
  · rename_i fn hfn
    split at h
    · cases h
    · rename_i c hc
      obtain ⟨h1, h2⟩ := cond_ok' h
      cases h2
      exact ⟨hfn, hc, h1⟩

theorem run_callFunc {f : FuncId} {fn : Func} {c : Code} (hf : P.funcs[f]? = some fn) (hb : fn.body = some c) (hn : isNG fn = false) (args : Array Value) : (callFunc f args).run P w = .ok (.enter f args) w := by
  unfold callFunc
  have hn' : ¬ ((fn.name == "runtime.NumGoroutine") = true) := by unfold isNG at hn; rw [hn]; decide
  have hp : program.run P w = .ok P w := rfl
  rw [Sem.run_bind, hp, Result.andThen_ok, hf]
  dsimp only
  rw [if_neg hn', hb]
  rfl

theorem noD_ok {s : St} (h : noD s = true) : s.D = [] := by
  unfold noD at h
  split at h
  · assumption
  · cases h

theorem enter_st {c : Ctx} (r : Rel φ H.get x w) (hf : Fresh φ x) (hro : c.ro = none) {args : List AV} {vals : List Value} (ha : VRs φ args vals) (hle : args.length ≤ c.nt) :
    StOk φ c ⟨.nil, argsT c.km (dT c.nt) args 0 .e, [], H, x⟩ { tmps := vals.toArray ++ Array.replicate (c.nt - vals.toArray.size) undef, defers := [] } w none := by
  have hlen := ha.length
  refine ⟨r, hf, ⟨⟨?_, ?_⟩, fun t a h => by cases h⟩, .nil, by rw [hro]; exact .none⟩
  · simp only [Array.size_append, Array.size_replicate, List.size_toArray]; omega
  · refine argsT_ok ha (fun t a h => by simp [Tr.get, Tr.find_e] at h) (fun j u hj => ?_)
    have hj2 : j < vals.length := (List.getElem?_eq_some_iff.1 hj).1
    rw [Nat.zero_add, Array.getD_eq_getD_getElem?, Array.getElem?_append_left (by simpa using hj2)]
    simp [hj]

/-- The body has been left. -/
theorem leaveM_ok {c : Ctx} {s' : St} {a' : Act} {w' : World} {call : AV → FuncId → List AV → Hp → Nat → O3} (hcall : DefOk P call) (hs' : StOk φ c s' a' w' none) {fn : Func} {md : AV} {m : FrameMode} (hmd : MdOk φ md m) (h : (leaveM call P fn s' md).good) {R : Ending → World → Prop}
    (hR : ∀ val w2, RetR φ s'.H s'.x w' (leaveM call P fn s' md) val w2 → R (.returned val) w2) (hRp : ∀ ch w2, PanR φ s'.H s'.x w' (leaveM call P fn s' md) ch w2 → R (.panicked ch) w2) : LeavesInM (FW none) n P fn a'.tmps R a'.defers m w' := by
  unfold leaveM at h hR hRp
  obtain ⟨md', H2, x2, hl, he⟩ := oneO_ok h
  rw [he] at h hR hRp
  refine leaveD_ok hcall hl hs'.defers hmd hs'.rel hs'.fresh fun φ2 m2 w'' hm2 hw'' => ?_
  rcases hm2 with ⟨rfl, rfl⟩ | ⟨ch, hp, rfl⟩
  · have h : (Ce.R.casesOn (resL P s' H2 fn.results.toList) (fun vs => .ok (one vs) H2 x2) .no : O3).good := h
    have hR : ∀ val w2, RetR φ s'.H s'.x w' (Ce.R.casesOn (resL P s' H2 fn.results.toList) (fun vs => .ok (one vs) H2 x2) .no : O3) val w2 → R (.returned val) w2 := hR
    cases hvs : resL P s' H2 fn.results.toList with
    | no c => rw [hvs] at h; exact absurd rfl (h c)
    | ok vs =>
      rw [hvs] at hR
      obtain ⟨vals', h8, h9⟩ := resL_ok (P := P) hw''.rel (fun t => (hs'.tmps.get t).mono hw''.ext) hvs
      refine ⟨_, ?_, hR _ _ ⟨_, _, _, ⟨rfl, rfl, rfl⟩, φ2, one_ok h9, hw''⟩⟩
      rw [run_results, run_mapM_arr _ _ h8, Result.andThen_ok]
  · cases hp with
    | mk hv => exact hRp _ _ ⟨_, _, _, φ2, rfl, .mk hv, hw''⟩

theorem leaveA_ok {c : Ctx} {s' : St} {a' : Act} {w' : World} {call : AV → FuncId → List AV → Hp → Nat → O3} (hcall : DefOk P call) (hs' : StOk φ c s' a' w' none) {fn : Func} {e : AE} {ex : Exit} (hex : ExR φ e ex) (h : (leaveA call P fn e s').good) {R : Ending → World → Prop}
    (hR : ∀ val w2, RetR φ s'.H s'.x w' (leaveA call P fn e s') val w2 → R (.returned val) w2) (hRp : ∀ ch w2, PanR φ s'.H s'.x w' (leaveA call P fn e s') ch w2 → R (.panicked ch) w2) : bodyPostM (FW none) n P fn R ex a' w' := by
  cases hex with
  | normal => exact leaveM_ok hcall hs' (.inl ⟨rfl, rfl⟩) h hR hRp
  | exit id => exact absurd rfl (h 223)
  | ret => exact leaveM_ok hcall hs' (.inl ⟨rfl, rfl⟩) h hR hRp
  | pan hv => exact leaveM_ok hcall hs' (.inr ⟨_, hv, rfl⟩) h hR hRp

theorem casesX_one {r : X2} {f : AE → St → O3} {k : Nat} {v : AV} {H : Hp} {x : Nat} (h : (X2.casesOn r f O3.no (fun _ => .no k) : O3) = .ok v H x) : ∃ e s, r = .ok e s ∧ f e s = .ok v H x := by
  cases r with
  | ok e s => exact ⟨e, s, rfl, h⟩
  | no c => cases h
  | or l => cases h

/-- The body of a deferred call has been left: nothing waits. -/
theorem defEnd_ok {c : Ctx} {s' : St} {a' : Act} {w' : World} {ex : Exit} (hs' : StOk φ c (bareD s') a' w' none) {fn : Func} {md : R AV} {md' : AV} {e : AE} (hexr : ExR φ e ex) (h : defEnd P fn md e s' = .ok md' H' x') :
    a'.defers = [] ∧ H' = s'.H ∧ x' = s'.x ∧ (ex = .normal ∨ ex = .ret) ∧ md = .ok md' ∧ ∃ val, (results fn a'.tmps).run P w' = .ok val w' := by
  have hd : a'.defers = [] := by
    have : DR φ [] a'.defers := hs'.defers
    generalize a'.defers = ds at this ⊢
    cases this; rfl
  unfold defEnd at h
  obtain ⟨hpl, h2⟩ := condO_ok h
  obtain ⟨m, hm, h3⟩ := casesO_ok h2
  obtain ⟨vs, hvs, h4⟩ := casesO_ok h3
  cases h4
  obtain ⟨vals', h8, h9⟩ := resL_ok (P := P) (s := s') hs'.rel (fun t => hs'.tmps.get t) hvs
  refine ⟨hd, rfl, rfl, ?_, hm, _, by rw [run_results, run_mapM_arr _ _ h8, Result.andThen_ok]⟩
  cases hexr with
  | normal => exact .inl rfl
  | exit id => cases hpl
  | ret => exact .inr rfl
  | pan hv => cases hpl

theorem mdOf_ok {s : St} {md : AV} {m : FrameMode} (h : mdOf s = .ok md) (hm : ModeOk φ s.D m) : MdOk φ md (settle m) := by
  unfold mdOf at h
  rcases hm with ⟨hd, hm⟩ | ⟨v, ch, hd, hv, rfl⟩
  · rw [hd] at h
    cases h
    rcases hm with rfl | ⟨val, rfl⟩ <;> exact .inl ⟨rfl, rfl⟩
  · rw [hd] at h
    cases h
    cases hv with
    | mk hv => exact .inr ⟨_, .mk hv, rfl⟩

theorem rvD_ok {md : AV} {m : FrameMode} (h : MdOk φ md m) : ModeOk φ (rvD md) m := by
  rcases h with ⟨rfl, rfl⟩ | ⟨ch, hv, rfl⟩
  · exact .inl ⟨rfl, .inl rfl⟩
  · cases hv with
    | mk hv => exact .inr ⟨_, _, rfl, .mk hv, rfl⟩

theorem defCallB_ok {E : Env} (hE : E.P = P) {rec : Rec} (hrec : RecOk P rec) {call : AV → FuncId → List AV → Hp → Nat → O3} (hcall : DefOk P call) : DefOk P (defCallB E rec call) := by
  subst hE
  intro g args vals H x md md' H' x' φ w m h r hf ha hmd
  unfold defCallB at h
  obtain ⟨q, hq, h2⟩ := casesO_ok h
  obtain ⟨hle, h3⟩ := condO_ok h2
  obtain ⟨hfn, hbody, hng⟩ := bodyOf_ok hq
  have hle := bleT hle
  rw [lenS_eq] at hle
  refine ⟨fun w => run_callFunc hfn hbody hng _, fun n => ?_⟩
  unfold defBodyA at h3
  have hst := enter_st (c := ⟨none, hasF g E.rc, g, q.1.ntmps, nthN E.keep g⟩) r hf rfl ha (by simpa using hle)
  cases hrc : hasF g E.rc with
  | false =>
    rw [hrc, cond_false] at h3
    rw [hrc] at hst
    obtain ⟨e, s', hr, h4⟩ := casesX_one h3
    obtain ⟨v5, H5, x5, h5, h6⟩ := oneO_ok (show (oneO (leaveA call E.P q.1 e s') fun _ H x => .ok md H x).good from by rw [h4]; exact good_ok)
    rw [h6] at h4
    obtain ⟨rfl, rfl, rfl⟩ : md = md' ∧ H5 = H' ∧ x5 = x' := by injection h4 with a b c; exact ⟨a, b, c⟩
    refine (callsDIn_of_wp_marks (F := FW none) (u := m) (R := fun e w' => ∃ val φ', e = .returned val ∧ MdOk φ' md m ∧ Step φ H.get x w φ' H5.get x5 w') hfn hbody trivial ?_ rfl).mono fun e u' w' he => ?_
    · refine wpIn_mono (hrec.plain _ _ _ (by rw [hr]; exact good_xok) rfl φ _ w none n hst) fun ex a' w' hp => ?_
      rw [hr] at hp
      obtain ⟨e2, s2, ⟨he2, hs2⟩, φ', hexr, hs', hstep⟩ := hp
      subst he2 hs2
      refine leaveA_ok hcall hs' hexr (by rw [h5]; exact good_ok) (fun val w2 hret => ?_) (fun ch w2 hpan => ?_)
      · rw [h5] at hret
        obtain ⟨_, _, _, ⟨rfl, rfl, rfl⟩, φ2, hv, hst2⟩ := hret
        have hall := hstep.trans hst2
        exact ⟨val, φ2, rfl, hmd.mono hall.ext, hall⟩
      · rw [h5] at hpan
        obtain ⟨_, _, _, _, he, _⟩ := hpan
        cases he
    · obtain ⟨rfl, val, φ', rfl, hm2, hstep⟩ := he
      exact ⟨val, φ', rfl, by rw [hm2.settle]; exact hm2, hstep⟩
  | true =>
    rw [hrc, cond_true] at h3
    rw [hrc] at hst
    obtain ⟨e, s', hr, h4⟩ := casesX_one h3
    refine ⟨trivial, fun c₀ cs hu _ => ?_⟩
    let b : Frame := { (default : Frame) with fn := g, kind := .deferred }
    have henter : Frame.enter E.P g vals.toArray .deferred = b.at { tmps := vals.toArray ++ Array.replicate (q.1.ntmps - vals.toArray.size) undef, defers := [] } [.code q.2] := by
      simp [Frame.enter, Frame.at, hfn, hbody, b]
    have hc₀ : ({ c₀ with mode := m } : Frame) = c₀ := by rw [← hu]
    obtain ⟨ex, a', cs', w', hq', harr⟩ := hrec.rv _ _ _ _ _ hr rfl φ _ w c₀ cs m (rvD_ok hmd) hst b [] rfl rfl
    obtain ⟨φ', m', rfl, hmode, hexr, hs', hstep⟩ := hq'
    rw [hc₀, ← henter] at harr
    obtain ⟨hd, rfl, rfl, hex, hmd2, val, hres⟩ := defEnd_ok hs' hexr h4
    have hm2 := mdOf_ok hmd2 hmode
    rcases hex with hex | hex
    · rw [hex] at harr
      exact ⟨.returned val, m', w', { b.at a' [] with mode := .returning }, ⟨val, φ', rfl, hm2, hstep⟩, comesIn_wide.2 (Steps.trans harr (.one step_end)), rfl, rfl, rfl, hd, q.1, hfn, hres⟩
    · rw [hex] at harr
      obtain ⟨todo, hs⟩ := harr
      exact ⟨.returned val, m', w', { b.at a' todo with mode := .returning }, ⟨val, φ', rfl, hm2, hstep⟩, comesIn_wide.2 hs, rfl, rfl, rfl, hd, q.1, hfn, hres⟩

theorem defCallA_ok {E : Env} (hE : E.P = P) {rec : Rec} (hrec : RecOk P rec) : DefOk P (defCallA E rec) := by
  have key : ∀ d, DefOk P (defCallN E rec d) := by
    intro d
    induction d with
    | zero => intro g args vals H x md md' H' x' φ w m h; cases h
    | succ d ih => exact defCallB_ok hE hrec ih
  exact key 4

theorem bodyCallA_ok {E : Env} (hE : E.P = P) {rec : Rec} (hrec : RecOk P rec) (r : Rel φ H.get x w) (hf : Fresh φ x) {f : FuncId} {args : List AV} {vals : List Value} (h : (bodyCallA E rec f args H x).good) (ha : VRs φ args vals) :
    (∀ w, (callFunc f vals.toArray).run P w = .ok (.enter f vals.toArray) w) ∧ ∀ n, CallOk P f vals.toArray w n (RetR φ H x w (bodyCallA E rec f args H x)) (PanR φ H x w (bodyCallA E rec f args H x)) := by
  have hdef := defCallA_ok hE hrec
  subst hE
  unfold bodyCallA at h ⊢
  cases hq : bodyOf E.P f with
  | no c => rw [hq] at h; exact absurd rfl (h c)
  | ok q =>
    rw [hq] at h
    obtain ⟨hfn, hbody, hng⟩ := bodyOf_ok hq
    have h : (bif Nat.ble (lenS args 0) q.1.ntmps then bodyA E rec f q.1 q.2 args H x else .no 224 : O3).good := h
    show (∀ w, (callFunc f vals.toArray).run E.P w = .ok (.enter f vals.toArray) w) ∧ ∀ n, CallOk E.P f vals.toArray w n (RetR φ H x w (bif Nat.ble (lenS args 0) q.1.ntmps then bodyA E rec f q.1 q.2 args H x else .no 224 : O3)) (PanR φ H x w (bif Nat.ble (lenS args 0) q.1.ntmps then bodyA E rec f q.1 q.2 args H x else .no 224 : O3))
    cases hle : Nat.ble (lenS args 0) q.1.ntmps with
    | false => rw [hle] at h; exact absurd rfl (h 224)
    | true =>
      rw [hle, cond_true] at h
      rw [cond_true]
      have hle := bleT hle
      rw [lenS_eq] at hle
      refine ⟨fun w => run_callFunc hfn hbody hng _, fun n => ?_⟩
      unfold bodyA at h ⊢
      refine callsIn_of_wp_marks hfn hbody trivial ?_ rfl
      have hst := enter_st (c := ⟨none, false, f, q.1.ntmps, nthN E.keep f⟩) r hf rfl ha (by simpa using hle)
      refine wpIn_mono (hrec.plain _ _ _ (goXO_good h) rfl φ _ w none n hst) ?_
      intro ex a' w' hp
      obtain ⟨e, s', hin, φ', hexr, hs', hstep⟩ := hp
      obtain ⟨hg, hsub⟩ := goXO_in h hin
      refine leaveA_ok hdef hs' hexr hg (fun val w2 hret => ?_) (fun ch w2 hpan => ?_)
      · obtain ⟨v, H', x', h1, φ2, hv, hst2⟩ := hret
        exact ⟨v, H', x', hsub.1 _ _ _ h1, φ2, hv, hstep.trans hst2⟩
      · obtain ⟨v, H', x', φ2, h1, hv, hst2⟩ := hpan
        exact ⟨v, H', x', φ2, hsub.2 _ _ _ h1, hv, hstep.trans hst2⟩

theorem bareCallA_ok {E : Env} (hE : E.P = P) {rec : Rec} (hrec : RecOk P rec) (r : Rel φ H.get x w) (hf : Fresh φ x) {f : FuncId} {args : List AV} {vals : List Value} (h : (bareCallA E rec f args H x).good) (ha : VRs φ args vals) :
    GoesR ro n P ((callFunc f vals.toArray).run P w) φ H x w (bareCallA E rec f args H x) := by
  have hbody : ∀ p : Hp, Rel φ p.get x w → (bodyCallA E rec f args p x).good → GoesR ro n P ((callFunc f vals.toArray).run P w) φ p x w (bodyCallA E rec f args p x) := by
    intro p hp hg
    obtain ⟨h1, h2⟩ := bodyCallA_ok hE hrec hp hf hg ha
    rw [h1 w]
    exact CallOk.goes h2
  unfold bareCallA at h ⊢
  cases hfk : hasF f E.fk with
  | true =>
    rw [hfk, cond_true] at h
    rw [cond_true]
    exact forkA_ok r hf hbody h
  | false =>
    rw [hfk, cond_false] at h
    rw [cond_false]
    exact hbody H r h

theorem callA_ok {E : Env} (hE : E.P = P) (hxt : XtOk E) {rec : Rec} (hrec : RecOk P rec) (r : Rel φ H.get x w) (hf : Fresh φ x) {f : FuncId} {args : List AV} {vals : List Value} (h : (callA E rec f args H x).good) (ha : VRs φ args vals) :
    GoesR ro n P ((callFunc f vals.toArray).run P w) φ H x w (callA E rec f args H x) := by
  unfold callA at h ⊢
  cases hs : specOf f E.xt with
  | some sp =>
    rw [hs] at h
    have h : (O3.casesOn (sp args H x) .ok (fun _ => bareCallA E rec f args H x) (fun _ _ _ => .no 229) (fun _ => .no 229) : O3).good := h
    show GoesR ro n P ((callFunc f vals.toArray).run P w) φ H x w (O3.casesOn (sp args H x) .ok (fun _ => bareCallA E rec f args H x) (fun _ _ _ => .no 229) (fun _ => .no 229) : O3)
    cases hsp : sp args H x with
    | ok v H' x' =>
      subst hE
      exact Goes.inR ⟨rfl, rfl, rfl⟩ (fun {Rp} => hxt f sp hs args vals H x v H' x' φ w ro n hsp r hf ha)
    | no c =>
      rw [hsp] at h
      exact bareCallA_ok hE hrec r hf h ha
    | pan v H x => rw [hsp] at h; exact absurd rfl (h 229)
    | or l => rw [hsp] at h; exact absurd rfl (h 229)
  | none =>
    rw [hs] at h
    exact bareCallA_ok hE hrec r hf h ha

end Go.Ce
