/- The abstract evaluator 'Ce': calls of functions with a body. -/
import Derived.Test.YtfllojcmckefjacGreatCeO
set_option linter.unusedVariables false
set_option linter.unusedSimpArgs false
set_option linter.unusedSectionVars false
namespace Go.Ce
variable {P : Program} {φ : PM} {w : World} {H H' : Hp} {x x' : Nat} {v : AV} {n : Nat} {ro : Option Nat}

theorem casesX_ok {r : X2} {f : AE → St → O3} {v : AV} {H : Hp} {x : Nat} (h : (X2.casesOn r f O3.no : O3) = .ok v H x) : ∃ e s, r = .ok e s ∧ f e s = .ok v H x := by
  cases r with
  | ok e s => exact ⟨e, s, rfl, h⟩
  | no c => cases h

theorem casesXX_ok {r : X2} {f : AE → St → X2} {e' : AE} {s' : St} (h : (X2.casesOn r f X2.no : X2) = .ok e' s') : ∃ e s, r = .ok e s ∧ f e s = .ok e' s' := by
  cases r with
  | ok e s => exact ⟨e, s, rfl, h⟩
  | no c => cases h

theorem casesOX_ok {r : O3} {f : AV → Hp → Nat → X2} {e' : AE} {s' : St} (h : (O3.casesOn r f X2.no : X2) = .ok e' s') : ∃ v H x, r = .ok v H x ∧ f v H x = .ok e' s' := by
  cases r with
  | ok v H x => exact ⟨v, H, x, rfl, h⟩
  | no c => cases h

theorem casesRX_ok {α : Type} {r : R α} {f : α → X2} {e' : AE} {s' : St} (h : (R.casesOn r f X2.no : X2) = .ok e' s') : ∃ a, r = .ok a ∧ f a = .ok e' s' := by
  cases r with
  | ok a => exact ⟨a, rfl, h⟩
  | no c => cases h

theorem condO_ok' {c : Bool} {a : O3} {n : Nat} {v : AV} {H : Hp} {x : Nat} (h : (bif c then .no n else a) = .ok v H x) : c = false ∧ a = .ok v H x := by
  cases c with
  | false => exact ⟨rfl, h⟩
  | true => cases h

/-! ### Parameters -/

theorem insT_ok {km d : Nat} {T : Tr AV} {t : Nat} {u : AV} {j : Nat} {a : AV} (h : (insT km d T t u).get j = some a) (hT : ∀ j a, T.get j = some a → kept km j = true) :
    (j = t ∧ a = u ∧ kept km t = true) ∨ (j ≠ t ∧ T.get j = some a) := by
  unfold insT at h
  cases hk : kept km t with
  | false =>
    rw [hk] at h
    refine .inr ⟨fun e => ?_, h⟩
    have := hT _ _ h
    rw [e, hk] at this
    cases this
  | true =>
    rw [hk] at h
    rcases Tr.get_ins h with ⟨e1, e2⟩ | ⟨e1, e2⟩
    · exact .inl ⟨e1, e2, rfl⟩
    · exact .inr ⟨e1, e2⟩

theorem argsT_ok {km d : Nat} {F : Nat → Value} : ∀ {args : List AV} {vals : List Value} {i : Nat} {T : Tr AV}, VRs φ args vals → (∀ t a, T.get t = some a → kept km t = true ∧ VR φ a (F t)) → (∀ j u, vals[j]? = some u → F (i + j) = u) →
    ∀ t a, (argsT km d args i T).get t = some a → kept km t = true ∧ VR φ a (F t) := by
  intro args
  induction args with
  | nil => intro vals i T _ hT _; exact hT
  | cons u l ih =>
    intro vals i T hv hT hF
    cases hv with
    | cons hu hl =>
      refine ih (i := i + 1) hl (fun t a h => ?_) (fun j u hj => ?_)
      · rcases insT_ok h (fun j a h => (hT j a h).1) with ⟨rfl, rfl, hk⟩ | ⟨_, h2⟩
        · exact ⟨hk, by rw [show F t = _ from hF 0 _ rfl]; exact hu⟩
        · exact hT t a h2
      · have := hF (j + 1) u (by simpa using hj)
        rw [← this]; congr 1; omega

theorem setParams_ok {km d nt : Nat} : ∀ {ps : List Tmp} {args : List AV} {vals : List Value} {T T1 : Tr AV} {tmps : Array Value}, setParams km d nt ps args T = .ok T1 → VRs φ args vals → TR φ km T nt tmps →
    ps.length = vals.length ∧ TR φ km T1 nt ((ps.zip vals).foldl (fun (tmps : Array Value) (q : Tmp × Value) => tmps.setIfInBounds q.1 q.2) tmps) := by
  intro ps
  induction ps with
  | nil =>
    intro args vals T T1 tmps h hv hT
    cases args with
    | nil => cases hv; cases h; exact ⟨rfl, hT⟩
    | cons _ _ => cases h
  | cons t ts ih =>
    intro args vals T T1 tmps h hv hT
    cases args with
    | nil => cases h
    | cons u l =>
      unfold setParams at h
      obtain ⟨hlt, h2⟩ := cond_ok h
      have hlt := bltT hlt
      cases hv with
      | cons hu hl =>
        rename_i uv vl
        have hT2 : TR φ km (insT km d T t u) nt (tmps.setIfInBounds t uv) := by
          refine ⟨by simpa using hT.1, fun j a h => ?_⟩
          rcases insT_ok h (fun j a h => (hT.2 j a h).1) with ⟨rfl, rfl, hk⟩ | ⟨hne, h2⟩
          · refine ⟨hk, ?_⟩
            have : (tmps.setIfInBounds j uv).getD j undef = uv := by
              have hs : j < tmps.size := by rw [hT.1]; exact hlt
              simp [Array.getD, hs]
            rw [this]; exact hu
          · have h3 := hT.2 j a h2
            refine ⟨h3.1, ?_⟩
            have : (tmps.setIfInBounds t uv).getD j undef = tmps.getD j undef := by
              rw [Array.getD_eq_getD_getElem?, Array.getD_eq_getD_getElem?, Array.getElem?_setIfInBounds, if_neg (fun e => hne e.symm)]
            rw [this]; exact h3.2
        obtain ⟨h3, h4⟩ := ih h2 hl hT2
        exact ⟨by simp [h3], h4⟩

/-! ### Leaving -/

/-- A name is given up, and its block may be anything from here on. -/
theorem step_kill (r : Rel φ H.get x w) {m : Nat} (hm : (H.get m).isSome = true) {y : Nat × Nat} (hy : φ m = some y) (w' : World)
    (hos : w'.os = w.os) (htape : w'.tape = w.tape) (hout : w'.output = w.output) (hsz : w'.heap.size = w.heap.size) (hlook : ∀ k, k ≠ y.1 → w'.heap[k]? = w.heap[k]?) : Step φ H.get x w φ (H.del dH m).get x w' := by
  have hold : ∀ k, ((H.del dH m).get k).isSome = true → k ≠ m ∧ (H.get k).isSome = true := by
    intro k hk
    obtain ⟨u, hu⟩ := Option.isSome_iff_exists.1 hk
    have := Tr.get_del hu
    exact ⟨this.1, by rw [this.2]; rfl⟩
  refine { rel := ⟨?_, ?_, ?_⟩, ext := Ext.refl _, dom := fun _ _ => rfl, le := Nat.le_refl _, frame := ?_, live := ?_, size := by omega, os := hos, tape := htape, output := hout, old := fun k _ h => (hold k h).2, ver := ?_, same := ?_, bnd := r.bnd }
  · intro k u hu
    have h2 := Tr.get_del hu
    refine (r.blk k u h2.2).kept (Ext.refl _) (fun z hz => hlook _ fun e' => h2.1 ?_)
    exact r.inj k m z y (by rw [h2.2]; rfl) hm hz hy e'
  · intro m k z u hm hk hz hu e
    exact r.inj m k z u (hold m hm).2 (hold k hk).2 hz hu e
  · intro k hk
    exact r.bnd k (hold k hk).2
  · intro k _ hnot
    exact hlook k (fun e => hnot m y hm hy e.symm)
  · intro k z hk hz
    exact .inr ⟨k, z, (hold k hk).2, hz, rfl⟩
  · intro k u u' hu hu'
    have h2 := (Tr.get_del hu').2
    rw [hu] at h2; cases h2; exact ⟨Nat.le_refl _, fun _ => rfl⟩
  · intro k u u' z hu hu' _ hz
    have h2 := Tr.get_del hu'
    exact hlook _ fun e' => h2.1 (r.inj k m z y (by rw [hu]; rfl) hm hz hy e')

theorem isDefd_ok {m : Nat} (h : isDefd (H.get m) = true) : ∃ ver, H.get m = some ⟨ver, .defd⟩ := by
  unfold isDefd at h
  split at h
  · rename_i ver e; exact ⟨ver, e⟩
  · cases h

theorem Rel.defd (r : Rel φ H.get x w) {m ver : Nat} (h : H.get m = some ⟨ver, .defd⟩) : ∃ b sz, φ m = some (b, sz) ∧ w.heap[b]? = some (.deferred (some [])) := by
  have := r.blk m _ h
  cases this with
  | defd h hb => exact ⟨_, _, h, hb⟩

theorem run_take {b : Nat} (h : w.heap[b]? = some (.deferred (some []))) : (Instr.takeDeferred b).run P w = .ok [] { w with heap := w.heap.setIfInBounds b (.deferred none) } := by
  unfold Instr.takeDeferred
  have h1 : (getObj b).run P w = .ok (.deferred (some [])) w := by simp [getObj, Sem.run, h]
  have h2 : (setObj b (.deferred none)).run P w = .ok () { w with heap := w.heap.setIfInBounds b (.deferred none) } := by simp [setObj, Sem.run, h]
  simp only [Sem.run_bind, h1, Result.andThen_ok, h2, Sem.run_pure]

theorem DR.mono {φ φ' : PM} (e : Ext φ φ') {D : List DE} {ds : List Deferred} (h : DR φ D ds) : DR φ' D ds := by
  induction h with
  | nil => exact .nil
  | cons h _ ih => exact .cons (e _ _ h) ih
  | call h _ ih => exact .call (h.mono e) ih

/-- What a deferred call owes, in a function that returns. -/
def DefOk (P : Program) (call : FuncId → List AV → Hp → Nat → O3) : Prop :=
  ∀ g args vals H x v H' x' φ w, call g args H x = .ok v H' x' → Rel φ H.get x w → Fresh φ x → VRs φ args vals →
    (∀ w, (callFunc g vals.toArray).run P w = .ok (.enter g vals.toArray) w) ∧
    ∀ n, CallsDIn (FW none) n P g vals.toArray .returning w fun e u' w' => ∃ val φ', e = .returned val ∧ u' = .returning ∧ Step φ H.get x w φ' H'.get x' w'

theorem leaveD_ok {fn : Func} {tmps : Array Value} {R : Ending → World → Prop} {call : FuncId → List AV → Hp → Nat → O3} (hcall : DefOk P call) : ∀ {D : List DE} {ds : List Deferred} {H H' : Hp} {x x' : Nat} {v : AV} {φ : PM} {w : World}, leaveD call H x D = .ok v H' x' → DR φ D ds →
    Rel φ H.get x w → Fresh φ x → (∀ φ' w', Step φ H.get x w φ' H'.get x' w' → LeavesIn (FW none) n P fn tmps R [] .returning w') → LeavesInM (FW none) n P fn tmps R ds .returning w := by
  intro D
  induction D with
  | nil =>
    intro ds H H' x x' v φ w h hd r hf hk
    cases hd; cases h
    exact hk φ w (.refl r)
  | cons m D ih =>
    intro ds H H' x x' v φ w h hd r hf hk
    cases hd with
    | cons hφ ht =>
      rename_i m b sz ds
      unfold leaveD at h
      obtain ⟨h1, h2⟩ := condO_ok h
      obtain ⟨ver, hm⟩ := isDefd_ok h1
      obtain ⟨b', sz', hφ', hb⟩ := r.defd hm
      rw [hφ] at hφ'; cases hφ'
      have hlt : b < w.heap.size := (Array.getElem?_eq_some_iff.1 hb).1
      have hst := step_kill r (by rw [hm]; rfl) hφ { w with heap := w.heap.setIfInBounds b (.deferred none) } rfl rfl rfl (by simp) (fun k hk => by
        show (w.heap.setIfInBounds b _)[k]? = _
        rw [Array.getElem?_setIfInBounds, if_neg (fun e => hk e.symm)])
      refine ⟨by simp, .inl ⟨b, _, rfl, run_take hb, ?_⟩⟩
      exact ih h2 ht hst.rel hf fun φ' w' hw' => hk φ' w' (hst.trans hw')
    | call hargs ht =>
      rename_i g args first cap ds
      unfold leaveD at h
      cases hc : call g args H x with
      | no k => rw [hc] at h; cases h
      | ok v1 H1 x1 =>
        rw [hc] at h
        have h2 : leaveD call H1 x1 D = .ok v H' x' := h
        obtain ⟨hrun, hcd⟩ := hcall g args (first ++ cap) H x v1 H1 x1 φ w hc r hf hargs
        have hto : first.toArray ++ cap.toArray = (first ++ cap).toArray := by simp
        refine ⟨by simp, .inr ⟨noDepth, .func g, cap.toArray, g, (first ++ cap).toArray, rfl, ?_, fun _ _ => trivial, ?_⟩⟩
        · show (callFunc g (first.toArray ++ cap.toArray)).run P w = _
          rw [hto]; exact hrun w
        · refine (hcd (n - 1)).mono fun e u' w' he => ?_
          obtain ⟨val, φ', rfl, rfl, hst⟩ := he
          exact ih h2 (ht.mono hst.ext) hst.rel (hst.fresh hf) fun φ2 w2 hw2 => hk φ2 w2 (hst.trans hw2)

/-- What a result variable holds. -/
def resS (tmps : Array Value) : ResultVar → Sem Value
  | .tmp t => pure (tmps.getD t undef)
  | .cell a t => do loadVar t (← asAddr (tmps.getD a undef))

theorem run_results (fn : Func) (tmps : Array Value) : (results fn tmps).run P w = ((fn.results.mapM (resS tmps)).run P w).andThen fun vs w' => .ok (if h : vs.size = 1 then vs[0] else .tuple vs) w' := by
  unfold results
  rw [Sem.run_bind]
  refine congrFun (congrArg Result.andThen (congrArg (fun f : ResultVar → Sem Value => (fn.results.mapM f).run P w) (funext fun rv => ?_))) _
  cases rv <;> rfl

theorem resA_ok (r : Rel φ H.get x w) {s : St} {tmps : Array Value} (hg : ∀ t, VR φ (getT s.L s.T t) (tmps.getD t undef)) {rv : ResultVar} (h : resA P s H rv = .ok v) :
    ∃ val, (resS tmps rv).run P w = .ok val w ∧ VR φ v val := by
  unfold resA at h
  cases rv with
  | tmp t => cases h; exact ⟨_, rfl, hg t⟩
  | cell a t =>
    have h : loadA P H t (getT s.L s.T a) = .ok v := h
    have ha := hg a
    unfold resS
    dsimp only
    cases hp : getT s.L s.T a with
    | ptr n o =>
      rw [hp] at h ha
      generalize tmps.getD a undef = av at ha ⊢
      cases ha with
      | ptr hφ =>
        obtain ⟨val, h1, h2⟩ := loadA_var (P := P) r h hφ
        exact ⟨val, h1, h2⟩
    | _ => rw [hp] at h; cases h

theorem resL_ok (r : Rel φ H.get x w) {s : St} {tmps : Array Value} (hg : ∀ t, VR φ (getT s.L s.T t) (tmps.getD t undef)) : ∀ {l : List ResultVar} {vs : List AV}, resL P s H l = .ok vs →
    ∃ vals, (l.mapM (resS tmps)).run P w = .ok vals w ∧ VRs φ vs vals := by
  intro l
  induction l with
  | nil => intro vs h; cases h; exact ⟨[], rfl, .nil⟩
  | cons rv l ih =>
    intro vs h
    unfold resL at h
    obtain ⟨u, hu, h2⟩ := R.bind_ok h
    obtain ⟨us, hus, h3⟩ := R.bind_ok h2
    cases h3
    obtain ⟨val, h4, h5⟩ := resA_ok r hg hu
    obtain ⟨vals, h6, h7⟩ := ih hus
    refine ⟨val :: vals, ?_, .cons h5 h7⟩
    rw [List.mapM_cons, Sem.run_bind, h4, Result.andThen_ok, Sem.run_bind, h6, Result.andThen_ok]
    rfl

theorem one_ok {vs : List AV} {vals : List Value} (h : VRs φ vs vals) : VR φ (one vs) (if h : vals.toArray.size = 1 then vals.toArray[0] else .tuple vals.toArray) := by
  cases h with
  | nil => exact .tup .nil
  | cons ha hl =>
    cases hl with
    | nil => exact ha
    | cons hb hl =>
      rw [dif_neg (by simp)]
      exact .tup (.cons ha (.cons hb hl))

theorem TmpOk.get {km nt : Nat} {L : Lo} {T : Tr AV} {tmps : Array Value} (h : TmpOk φ km nt L T tmps) (t : Nat) : VR φ (getT L T t) (tmps.getD t undef) := by
  unfold getT
  cases hl : lookL L t with
  | some a => exact (h.loc t a hl).2
  | none =>
    show VR φ (orJunk (T.get t)) _
    cases ht : T.get t with
    | some a => exact (h.kept.2 t a ht).2
    | none => exact .junk _

/-! ### The call -/

theorem bodyOf_ok {f : FuncId} {q : Func × Code} (h : bodyOf P f = .ok q) : P.funcs[f]? = some q.1 ∧ q.1.body = some q.2 ∧ isNG q.1 = false := by
  unfold bodyOf at h
  split at h
  · cases h
  · rename_i fn hfn
    split at h
    · cases h
    · rename_i c hc
      obtain ⟨h1, h2⟩ := cond_ok' h
      cases h2
      exact ⟨hfn, hc, h1⟩

theorem run_callFunc {f : FuncId} {fn : Func} {c : Code} (hf : P.funcs[f]? = some fn) (hb : fn.body = some c) (hn : isNG fn = false) (args : Array Value) : (callFunc f args).run P w = .ok (.enter f args) w := by
  unfold callFunc
  have hn' : ¬ ((fn.name == "runtime.NumGoroutine") = true) := by unfold isNG at hn; rw [hn]; decide
  have hp : program.run P w = .ok P w := rfl
  rw [Sem.run_bind, hp, Result.andThen_ok, hf]
  dsimp only
  rw [if_neg hn', hb]
  rfl

theorem noD_ok {s : St} (h : noD s = true) : s.D = [] := by
  unfold noD at h
  split at h
  · assumption
  · cases h

theorem enter_st {c : Ctx} (r : Rel φ H.get x w) (hf : Fresh φ x) (hro : c.ro = none) {args : List AV} {vals : List Value} (ha : VRs φ args vals) (hle : args.length ≤ c.nt) :
    StOk φ c ⟨.nil, argsT c.km (dT c.nt) args 0 .e, [], H, x⟩ { tmps := vals.toArray ++ Array.replicate (c.nt - vals.toArray.size) undef, defers := [] } w none := by
  have hlen := ha.length
  refine ⟨r, hf, ⟨⟨?_, ?_⟩, fun t a h => by cases h⟩, .nil, by rw [hro]; exact .none⟩
  · simp only [Array.size_append, Array.size_replicate, List.size_toArray]; omega
  · refine argsT_ok ha (fun t a h => by simp [Tr.get, Tr.find_e] at h) (fun j u hj => ?_)
    have hj2 : j < vals.length := (List.getElem?_eq_some_iff.1 hj).1
    rw [Nat.zero_add, Array.getD_eq_getD_getElem?, Array.getElem?_append_left (by simpa using hj2)]
    simp [hj]

/-- The body has been left. -/
theorem leaveA_ok {c : Ctx} {s' : St} {a' : Act} {w' : World} {call : FuncId → List AV → Hp → Nat → O3} (hcall : DefOk P call) (hs' : StOk φ c s' a' w' none) {fn : Func} {e : AE} (h : leaveA call P fn e s' = .ok v H' x') {R : Ending → World → Prop}
    (hR : ∀ val w2, Ret φ s'.H s'.x w' v H' x' val w2 → R (.returned val) w2) : bodyPostM (FW none) n P fn R (exOf e) a' w' := by
  unfold leaveA at h
  obtain ⟨hex, h5⟩ := condO_ok' h
  cases hl : leaveD call s'.H s'.x s'.D with
  | no k => rw [hl] at h5; cases h5
  | ok v1 H2 x2 =>
    rw [hl] at h5
    obtain ⟨vs, hvs, h7⟩ := casesO_ok h5
    cases h7
    have key : LeavesInM (FW none) n P fn a'.tmps R a'.defers .returning w' := by
      refine leaveD_ok hcall hl hs'.defers hs'.rel hs'.fresh fun φ2 w'' hw'' => ?_
      obtain ⟨vals', h8, h9⟩ := resL_ok (P := P) hw''.rel (fun t => (hs'.tmps.get t).mono hw''.ext) hvs
      refine ⟨_, ?_, hR _ _ ⟨φ2, one_ok h9, hw''⟩⟩
      rw [run_results, run_mapM_arr _ _ h8, Result.andThen_ok]
    cases e with
    | normal => exact key
    | exit id => cases hex
    | ret => exact key

/-- The body of a deferred call has been left: nothing waits. -/
theorem leaveA_plain {c : Ctx} {s' : St} {a' : Act} {w' : World} (hs' : StOk φ c s' a' w' none) (hD : s'.D = []) {call : FuncId → List AV → Hp → Nat → O3} {fn : Func} {e : AE} (h : leaveA call P fn e s' = .ok v H' x') :
    a'.defers = [] ∧ H' = s'.H ∧ x' = s'.x ∧ (exOf e = .normal ∨ exOf e = .ret) ∧ ∃ val, (results fn a'.tmps).run P w' = .ok val w' := by
  have hd : a'.defers = [] := by
    have := hs'.defers
    rw [hD] at this
    generalize a'.defers = ds at this ⊢
    cases this; rfl
  unfold leaveA at h
  obtain ⟨hex, h5⟩ := condO_ok' h
  rw [hD] at h5
  obtain ⟨vs, hvs, h7⟩ := casesO_ok (show (R.casesOn (resL P s' s'.H fn.results.toList) (fun vs => .ok (one vs) s'.H s'.x) O3.no : O3) = _ from h5)
  cases h7
  obtain ⟨vals', h8, h9⟩ := resL_ok (P := P) hs'.rel (fun t => hs'.tmps.get t) hvs
  refine ⟨hd, rfl, rfl, ?_, _, by rw [run_results, run_mapM_arr _ _ h8, Result.andThen_ok]⟩
  cases e with
  | normal => exact .inl rfl
  | exit id => cases hex
  | ret => exact .inr rfl

theorem recoverD_returning {c₀ : Frame} {cs : List Frame} (h : c₀.mode = .returning) : recoverD (c₀ :: cs) = none := by
  unfold recoverD
  simp only [h]

theorem defCallA_ok {E : Env} (hE : E.P = P) {rec : Rec} (hrec : RecOk P rec) : DefOk P (defCallA E rec) := by
  subst hE
  intro g args vals H x v H' x' φ w h r hf ha
  unfold defCallA at h
  obtain ⟨q, hq, h2⟩ := casesO_ok h
  obtain ⟨hle, h3⟩ := condO_ok h2
  obtain ⟨hfn, hbody, hng⟩ := bodyOf_ok hq
  have hle := bleT hle
  rw [lenS_eq] at hle
  refine ⟨fun w => run_callFunc hfn hbody hng _, fun n => ?_⟩
  unfold defBodyA at h3
  obtain ⟨e, s', hr, h4⟩ := casesX_ok h3
  obtain ⟨hD, h5⟩ := condO_ok h4
  have hD := noD_ok hD
  have hst := enter_st (c := ⟨none, hasF g E.rc, g, q.1.ntmps, nthN E.keep g⟩) r hf rfl ha (by simpa using hle)
  cases hrc : hasF g E.rc with
  | false =>
    rw [hrc] at hr hst
    refine (callsDIn_of_wp (F := FW none) (u := .returning) (R := fun e w' => ∃ val φ', e = .returned val ∧ Step φ H.get x w φ' H'.get x' w') hfn hbody trivial ?_ rfl).mono fun e u' w' he => ?_
    · refine wpIn_mono (hrec.plain _ _ _ _ _ hr rfl φ _ w none n hst) fun ex a' w' hp => ?_
      obtain ⟨rfl, φ', hs', hstep⟩ := hp
      obtain ⟨hd, rfl, rfl, hex, val, hres⟩ := leaveA_plain hs' hD h5
      rcases hex with hex | hex <;> rw [hex] <;> exact ⟨hd, val, hres, val, φ', rfl, hstep⟩
    · obtain ⟨rfl, val, φ', rfl, hstep⟩ := he
      exact ⟨val, φ', rfl, rfl, hstep⟩
  | true =>
    rw [hrc] at hr hst
    refine ⟨trivial, fun c₀ cs hu _ => ?_⟩
    let b : Frame := { (default : Frame) with fn := g, kind := .deferred }
    have henter : Frame.enter E.P g vals.toArray .deferred = b.at { tmps := vals.toArray ++ Array.replicate (q.1.ntmps - vals.toArray.size) undef, defers := [] } [.code q.2] := by
      simp [Frame.enter, Frame.at, hfn, hbody, b]
    obtain ⟨ex, a', cs', w', hq', harr⟩ := hrec.rv _ _ _ _ _ hr rfl φ _ w (c₀ :: cs) (recoverD_returning hu) hst b [] rfl rfl
    obtain ⟨rfl, rfl, φ', hs', hstep⟩ := hq'
    rw [← henter] at harr
    obtain ⟨hd, rfl, rfl, hex, val, hres⟩ := leaveA_plain hs' hD h5
    have hc : ({ c₀ with mode := .returning } : Frame) = c₀ := by rw [← hu]
    rcases hex with hex | hex
    · rw [hex] at harr
      refine ⟨.returned val, .returning, w', { b.at a' [] with mode := .returning }, ⟨val, φ', rfl, rfl, hstep⟩, ?_, rfl, rfl, rfl, hd, q.1, hfn, hres⟩
      rw [hc]
      exact comesIn_wide.2 (Steps.trans harr (.one step_end))
    · rw [hex] at harr
      obtain ⟨todo, hs⟩ := harr
      refine ⟨.returned val, .returning, w', { b.at a' todo with mode := .returning }, ⟨val, φ', rfl, rfl, hstep⟩, ?_, rfl, rfl, rfl, hd, q.1, hfn, hres⟩
      rw [hc]
      exact comesIn_wide.2 hs

theorem bodyCallA_ok {E : Env} (hE : E.P = P) {rec : Rec} (hrec : RecOk P rec) (r : Rel φ H.get x w) (hf : Fresh φ x) {f : FuncId} {args : List AV} {vals : List Value} (h : bodyCallA E rec f args H x = .ok v H' x') (ha : VRs φ args vals) :
    (∀ w, (callFunc f vals.toArray).run P w = .ok (.enter f vals.toArray) w) ∧ ∀ n, CallOk P f vals.toArray w n (Ret φ H x w v H' x') := by
  have hdef := defCallA_ok hE hrec
  subst hE
  unfold bodyCallA at h
  obtain ⟨q, hq, h2⟩ := casesO_ok h
  obtain ⟨hle, h3⟩ := condO_ok h2
  obtain ⟨hfn, hbody, hng⟩ := bodyOf_ok hq
  have hle := bleT hle
  rw [lenS_eq] at hle
  refine ⟨fun w => run_callFunc hfn hbody hng _, fun n => ?_⟩
  unfold bodyA at h3
  obtain ⟨e, s', hr, h4⟩ := casesX_ok h3
  refine callsIn_of_wp_marks hfn hbody trivial ?_ rfl
  have hst := enter_st (c := ⟨none, false, f, q.1.ntmps, nthN E.keep f⟩) r hf rfl ha (by simpa using hle)
  refine wpIn_mono (hrec.plain _ _ _ _ _ hr rfl φ _ w none n hst) ?_
  intro ex a' w' hp
  obtain ⟨rfl, φ', hs', hstep⟩ := hp
  refine leaveA_ok hdef hs' h4 fun val w2 hret => ?_
  obtain ⟨φ2, hv, hst2⟩ := hret
  exact ⟨φ2, hv, hstep.trans hst2⟩

theorem callA_ok {E : Env} (hE : E.P = P) (hxt : XtOk E) {rec : Rec} (hrec : RecOk P rec) (r : Rel φ H.get x w) (hf : Fresh φ x) {f : FuncId} {args : List AV} {vals : List Value} (h : callA E rec f args H x = .ok v H' x') (ha : VRs φ args vals) :
    Goes ro n P ((callFunc f vals.toArray).run P w) (Ret φ H x w v H' x') := by
  unfold callA at h
  cases hs : specOf f E.xt with
  | some sp =>
    rw [hs] at h
    subst hE
    exact hxt f sp hs args vals H x v H' x' φ w ro n h r hf ha
  | none =>
    rw [hs] at h
    obtain ⟨h1, h2⟩ := bodyCallA_ok hE hrec r hf h ha
    rw [h1 w]
    exact CallOk.goes h2

end Go.Ce
