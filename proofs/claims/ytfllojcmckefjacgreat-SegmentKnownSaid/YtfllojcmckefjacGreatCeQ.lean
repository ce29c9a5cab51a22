/- The abstract evaluator 'Ce': methods, rounds, function values: every operation. -/
import Derived.Test.YtfllojcmckefjacGreatCeP
set_option linter.unusedVariables false
set_option linter.unusedSimpArgs false
set_option linter.unusedSectionVars false
namespace Go.Ce
variable {P : Program} {φ : PM} {w : World} {H H' : Hp} {x x' : Nat} {v : AV} {n : Nat} {ro : Option Nat}

/-! ### Methods -/

theorem methodA_ok {t : TypeId} {name : String} {f : FuncId} (h : methodA P t name = .ok f) (u : Value) : (method (P.types.size + Made.depth) t u name).run P w = .ok (f, u) w := by
  unfold methodA at h
  split at h
  · cases h
  · rename_i i hi
    split at h
    · cases h
    · rename_i m hm
      split at h
      · cases h
      · rename_i hpath
        split at h
        · cases h
        · rename_i g pr hfunc
          have hd : P.types.size + Made.depth = (P.types.size + Made.depth - 1) + 1 := by
            have : 0 < Made.depth := by decide
            omega
          rw [hd]
          unfold method
          have hfol : (follow m.path.toList t (.val u)).run P w = .ok (t, .val u) w := by rw [hpath]; rfl
          simp only [Sem.run_bind, run_typeInfo hi, Result.andThen_ok, hm, hfol, hfunc]
          split at h
          · rename_i e hu
            obtain ⟨hpr, h2⟩ := cond_ok h
            cases h2
            subst hpr
            unfold receiverAt
            simp only [Sem.run_bind, run_underlying hu, Result.andThen_ok]
            rfl
          · rename_i d hnp hu
            obtain ⟨hpr, h2⟩ := cond_ok' h
            cases h2
            subst hpr
            unfold receiverAt
            simp only [Sem.run_bind, run_underlying hu, Result.andThen_ok]
            cases d <;> first | exact absurd rfl (hnp _) | rfl
          · cases h

theorem cons_toArray (u : Value) (vals : List Value) : #[u] ++ vals.toArray = (u :: vals).toArray := by simp

theorem methodCallA_ok {E : Env} (hE : E.P = P) (hxt : XtOk E) {rec : Rec} (hrec : RecOk P rec) (r : Rel φ H.get x w) (hf : Fresh φ x) {recv : AV} {rv : Value} {name : String} {args : List AV} {vals : List Value}
    (h : methodCallA E rec recv name args H x = .ok v H' x') (hr : VR φ recv rv) (ha : VRs φ args vals) : Goes ro n P ((callMethod rv name vals.toArray).run P w) (Ret φ H x w v H' x') := by
  unfold methodCallA at h
  split at h
  · rename_i t u
    obtain ⟨f, hm, h2⟩ := casesO_ok h
    cases hr with
    | iface _ hu =>
      rename_i uv
      rw [hE] at hm
      unfold callMethod
      have hp : program.run P w = .ok P w := rfl
      simp only [Sem.run_bind, hp, Result.andThen_ok, methodA_ok hm, cons_toArray]
      exact callA_ok hE hxt hrec r hf h2 (.cons hu ha)
  · cases h

theorem isIface_ok {t : TypeId} {b : Bool} (h : isIface P t = .ok b) : ∃ d, P.underlying t = some d ∧ ((b = true ∧ ∃ ms, d = .interface ms) ∨ (b = false ∧ ∀ ms, d ≠ .interface ms)) := by
  unfold isIface at h
  split at h
  · rename_i ms hu; cases h; exact ⟨_, hu, .inl ⟨rfl, ms, rfl⟩⟩
  · rename_i d hn hu; cases h; exact ⟨_, hu, .inr ⟨rfl, fun ms e => hn ms e⟩⟩
  · cases h

/-! ### Rounds -/

theorem Rel.loop (r : Rel φ H.get x w) {l ver : Nat} {st : LoopState} {pend : Option Code} {fn : FuncId} {km : Nat} {T : Tr AV} {nt : Nat} {ps : Array Tmp} {asg body : Code} {df : Nat} (h : H.get l = some ⟨ver, .loop st pend fn km T nt ps asg body df⟩) :
    ∃ b sz bd szd tmps fn', φ l = some (b, sz) ∧ φ df = some (bd, szd) ∧ w.heap[b]? = some (.loop ⟨st, pend, fn', tmps, ps, asg, body, bd⟩) ∧ TR φ km T nt tmps := by
  have := r.blk l _ h
  cases this with
  | loop h hd hb hT => exact ⟨_, _, _, _, _, _, h, hd, hb, hT⟩

theorem run_getLoop {b : Nat} {lp : Loop} (h : w.heap[b]? = some (.loop lp)) : (Instr.getLoop b).run P w = .ok lp w := by
  unfold Instr.getLoop
  have h1 : (getObj b).run P w = .ok (.loop lp) w := by simp [getObj, Sem.run, h]
  simp only [Sem.run_bind, h1, Result.andThen_ok, Sem.run_pure]

theorem run_setLoop {b : Nat} {lp lp' : Loop} (h : w.heap[b]? = some (.loop lp)) : (setObj b (.loop lp')).run P w = .ok () { w with heap := w.heap.setIfInBounds b (.loop lp') } := by
  simp [setObj, Sem.run, h]

/-- A loop's record is set. -/
theorem loop_set (r : Rel φ H.get x w) {l ver : Nat} {st st' : LoopState} {pend pend' : Option Code} {fn fn' : FuncId} {km : Nat} {T : Tr AV} {nt : Nat} {ps : Array Tmp} {asg body : Code} {df : Nat} {b sz bd szd : Nat} {tmps : Array Value}
    (hl : H.get l = some ⟨ver, .loop st pend fn km T nt ps asg body df⟩) (hφ : φ l = some (b, sz)) (hd : φ df = some (bd, szd)) (hb : w.heap[b]? = some (.loop ⟨st, pend, fn', tmps, ps, asg, body, bd⟩)) (hT : TR φ km T nt tmps) :
    Step φ H.get x w φ (H.ins dH l ⟨Nat.succ ver, .loop st' pend' fn km T nt ps asg body df⟩).get x { w with heap := w.heap.setIfInBounds b (.loop ⟨st', pend', fn', tmps, ps, asg, body, bd⟩) } := by
  have hlt : b < w.heap.size := (Array.getElem?_eq_some_iff.1 hb).1
  refine step_put r hl hφ _ _ rfl rfl rfl (by simp) (fun k hk => ?_) ?_
  · show (w.heap.setIfInBounds b _)[k]? = _
    rw [Array.getElem?_setIfInBounds, if_neg (fun e => hk e.symm)]
  · refine .loop hφ hd (tmps := tmps) (fn' := fn') ?_ hT
    show (w.heap.setIfInBounds b _)[b]? = _
    rw [Array.getElem?_setIfInBounds_self, if_pos hlt]

theorem endOf_exit {e : AE} : ∃ jump, (endOf e).1 = .bool jump.isNone ∧ (endOf e).2.1 = (if jump.isNone then .ready else .done) ∧ (endOf e).2.2 = jump ∧
    (∀ l R a w, (∃ u w', (Instr.endRound l jump).run P w = .ok u w' ∧ R (.returned u) w') → roundPost P l R (exOf e) a w) := by
  cases e with
  | normal => exact ⟨none, rfl, rfl, rfl, fun l R a w h => h⟩
  | exit id => exact ⟨some (.exit id), rfl, rfl, rfl, fun l R a w h => h⟩
  | ret => exact ⟨some .ret, rfl, rfl, rfl, fun l R a w h => h⟩

theorem roundEnd_ok {l b sz : Nat} {s : St} (r : Rel φ s.H.get s.x w) (hl : φ l = some (b, sz)) {e : AE} (h : roundEnd l e s = .ok v H' x') {R : Ending → World → Prop} {a : Act}
    (hR : ∀ val w', Ret φ s.H s.x w v H' x' val w' → R (.returned val) w') : roundPost P b R (exOf e) a w := by
  unfold roundEnd at h
  split at h
  · rename_i ver4 st4 pend4 fn4 km4 T4 nt4 ps4 asg4 body4 df4 hlp4
    cases h
    obtain ⟨b4, sz4, bd4, szd4, tmps4, fnc4, hφ4, hdf4, hb4, hTT4⟩ := r.loop hlp4
    rw [hl] at hφ4; cases hφ4
    obtain ⟨jump, j1, j2, j3, j4⟩ := endOf_exit (P := P) (e := e)
    rw [j1, j2, j3] at hR
    have hset4 := loop_set (st' := if jump.isNone then .ready else .done) (pend' := jump) r hlp4 hl hdf4 hb4 hTT4
    have hret : Ret φ s.H s.x w (.bool jump.isNone) (s.H.ins dH l ⟨Nat.succ ver4, .loop (if jump.isNone then .ready else .done) jump fn4 km4 T4 nt4 ps4 asg4 body4 df4⟩) s.x (.bool jump.isNone)
        { w with heap := w.heap.setIfInBounds b (.loop ⟨if jump.isNone then .ready else .done, jump, fnc4, tmps4, ps4, asg4, body4, bd4⟩) } := ⟨φ, .bool _, hset4⟩
    have hrun : (Instr.endRound b jump).run P w = .ok (.bool jump.isNone) { w with heap := w.heap.setIfInBounds b (.loop ⟨if jump.isNone then .ready else .done, jump, fnc4, tmps4, ps4, asg4, body4, bd4⟩) } := by
      unfold Instr.endRound
      rw [Sem.run_bind, run_getLoop hb4, Result.andThen_ok, Sem.run_bind, run_setLoop hb4, Result.andThen_ok, Sem.run_pure]
    exact j4 b R a w ⟨_, _, hrun, hR _ _ hret⟩
  · cases h

theorem roundBegin_ok {l b sz : Nat} {c : Ctx} {s s2 : St} {a : Act} (hs : StOk φ c s a w ro) (hl : φ l = some (b, sz)) (h : roundBegin l s = .ok s2) :
    ∃ w2, (Instr.beginRound b).run P w = .ok () w2 ∧ StOk φ c s2 a w2 ro ∧ Step φ s.H.get s.x w φ s2.H.get s2.x w2 := by
  unfold roundBegin at h
  split at h
  · rename_i ver2 pend2 fn2 km2 T2 nt2 ps2 asg2 body2 df2 hlp2
    cases h
    obtain ⟨b2, sz2, bd2, szd2, tmps2, fnc2, hφ2, hdf2, hb2, hTT2⟩ := hs.rel.loop hlp2
    rw [hl] at hφ2; cases hφ2
    have hset := loop_set (st' := .busy) (pend' := pend2) hs.rel hlp2 hl hdf2 hb2 hTT2
    have hrun : (Instr.beginRound b).run P w = .ok () { w with heap := w.heap.setIfInBounds b (.loop ⟨.busy, pend2, fnc2, tmps2, ps2, asg2, body2, bd2⟩) } := by
      unfold Instr.beginRound
      rw [Sem.run_bind, run_getLoop hb2, Result.andThen_ok, Sem.run_bind, run_setLoop hb2, Result.andThen_ok]
      rfl
    exact ⟨_, hrun, ⟨hset.rel, hs.fresh, hs.tmps, hs.defers, hs.ro⟩, hset⟩
  · cases h

theorem yieldA_ok {rec : Rec} (hrec : RecOk P rec) (r : Rel φ H.get x w) (hf : Fresh φ x) {l : Nat} {args : List AV} {vals : List Value} {b sz : Nat} (h : yieldA rec l args H x = .ok v H' x') (hl : φ l = some (b, sz)) (ha : VRs φ args vals) :
    Goes ro n P ((Instr.yield b vals.toArray).run P w) (Ret φ H x w v H' x') := by
  unfold yieldA at h
  split at h
  · rename_i ver st pend fn km T nt ps asg body df hlp
    obtain ⟨T1, hT1, h2⟩ := casesO_ok h
    obtain ⟨e1, s1, hr1, h3⟩ := casesX_ok h2
    obtain ⟨b', sz', bd, szd, tmps, fnc, hφ, hd, hb, hT⟩ := r.loop hlp
    rw [hl] at hφ; cases hφ
    obtain ⟨hlen, hT2⟩ := setParams_ok hT1 ha hT
    have hrun : (Instr.yield b vals.toArray).run P w = .ok (.round b fnc ((ps.toList.zip vals).foldl (fun (tmps : Array Value) (q : Tmp × Value) => tmps.setIfInBounds q.1 q.2) tmps) asg body) w := by
      unfold Instr.yield
      rw [Sem.run_bind, run_getLoop hb, Result.andThen_ok]
      dsimp only
      rw [if_neg (by simp; rw [← Array.length_toList]; omega)]
      rw [Sem.run_pure]
      congr 2
      rw [← Array.foldl_toList]
      simp
    intro o a next Q hn
    rw [hrun, Oper.uponIn_round]
    refine ⟨noDepth, ?_⟩
    have hst : StOk φ ⟨some l, false, fn, nt, km⟩ ⟨.nil, T1, [], H, x⟩ { tmps := (ps.toList.zip vals).foldl (fun (tmps : Array Value) (q : Tmp × Value) => tmps.setIfInBounds q.1 q.2) tmps, defers := [] } w (some b) :=
      ⟨r, hf, ⟨hT2, fun t a h => by cases h⟩, .nil, .some hl⟩
    refine roundIn_of_wpIn (F := FW ro) trivial ?_
    show asg.wpIn (FW (some b)) (n - 1) P _ _ _
    refine wpIn_mono (hrec.plain _ _ _ _ _ hr1 rfl φ _ w (some b) (n - 1) hst) ?_
    intro ex a1 w1 hp
    obtain ⟨rfl, φ1, hs1, hstep1⟩ := hp
    unfold roundMid at h3
    split at h3
    · obtain ⟨hd1, h4⟩ := condO_ok h3
      obtain ⟨s2, hs2, h5⟩ := casesO_ok h4
      have hl1 := hstep1.ext _ _ hl
      obtain ⟨w2, hbr, hst2, hstep2⟩ := roundBegin_ok (P := P) hs1 hl1 hs2
      refine ⟨w2, hbr, ?_⟩
      unfold roundBody at h5
      obtain ⟨e3, s3, hr3, h6⟩ := casesX_ok h5
      obtain ⟨hd3, h7⟩ := condO_ok h6
      show body.wpIn (FW (some b)) (n - 1) P _ _ _
      refine wpIn_mono (hrec.plain _ _ _ _ _ hr3 rfl φ1 _ _ (some b) (n - 1) hst2) ?_
      intro ex a3 w3 hp
      obtain ⟨rfl, φ3, hs3, hstep3⟩ := hp
      refine roundEnd_ok hs3.rel (hstep3.ext _ _ hl1) h7 fun val w' hv => ?_
      obtain ⟨φ4, hv4, hstep4⟩ := hv
      have s12 := hstep1.trans hstep2
      have s34 := hstep3.trans hstep4
      exact hn _ _ ⟨φ4, hv4, s12.trans s34⟩
    · cases h3
  · cases h

/-! ### Function values -/

theorem extract_tail (u : Value) (l : List Value) : (u :: l).toArray.extract 1 (u :: l).toArray.size = l.toArray := by
  apply Array.ext'
  simp [List.extract_eq_take_drop]

theorem fnCallA_ok {E : Env} (hE : E.P = P) (hxt : XtOk E) {rec : Rec} (hrec : RecOk P rec) (r : Rel φ H.get x w) (hf : Fresh φ x) {fn : Fn} {first cap args : List AV} {fv cv av : List Value}
    (h : fnCallA E rec fn first cap args H x = .ok v H' x') (h1 : VRs φ first fv) (h2 : VRs φ cap cv) (h3 : VRs φ args av) :
    Goes ro n P ((invoke (.fn fn cv.toArray) (fv.toArray ++ av.toArray)).run P w) (Ret φ H x w v H' x') := by
  have happ : fv.toArray ++ av.toArray = (fv ++ av).toArray := by simp
  have hfa := h1.append h3
  unfold fnCallA at h
  rw [appS_eq] at h
  rw [happ]
  split at h
  · rename_i g
    rw [appS_eq, ← List.append_assoc] at h
    show Goes ro n P ((callFunc g ((fv ++ av).toArray ++ cv.toArray)).run P w) _
    have : (fv ++ av).toArray ++ cv.toArray = (fv ++ av ++ cv).toArray := by simp
    rw [this]
    exact callA_ok hE hxt hrec r hf h (hfa.append h2)
  · rename_i name
    split at h
    · rename_i rc rest he
      rw [appS_eq] at he
      rw [he] at hfa
      generalize fv ++ av = l at hfa
      cases hfa with
      | cons hr hl =>
        rename_i rv lv
        show Goes ro n P ((callMethod rv name ((rv :: lv).toArray.extract 1 (rv :: lv).toArray.size)).run P w) _
        rw [extract_tail]
        exact methodCallA_ok hE hxt hrec r hf h hr hl
    · cases h
  · rename_i t name
    split at h
    · rename_i rc rest he
      rw [appS_eq] at he
      rw [he] at hfa
      generalize fv ++ av = l at hfa
      cases hfa with
      | cons hr hl =>
        rename_i rv lv
        unfold methodOfA at h
        obtain ⟨b, hb, h4⟩ := casesO_ok h
        rw [hE] at hb
        obtain ⟨d, hu, hd⟩ := isIface_ok hb
        unfold invoke
        have h0 : (rv :: lv).toArray[0]? = some rv := rfl
        simp only [h0, Sem.run_bind, run_underlying hu, Result.andThen_ok, extract_tail]
        rcases hd with ⟨rfl, ms, rfl⟩ | ⟨rfl, hn⟩
        · exact methodCallA_ok hE hxt hrec r hf h4 hr hl
        · cases d <;> first | exact absurd rfl (hn _) | exact methodCallA_ok hE hxt hrec r hf h4 (.iface t hr) hl
    · cases h
  · cases h

theorem oCall_ok {E : Env} (hE : E.P = P) (hxt : XtOk E) {rec : Rec} (hrec : RecOk P rec) (r : Rel φ H.get x w) (hf : Fresh φ x) {ρ : Operand → AV} {ρc : Operand → Value} (hρ : ∀ o, VR φ (ρ o) (ρc o)) {c : Call} {ty : TypeId}
    (h : oCall c E rec ρ H x = .ok v H' x') : Goes ro n P ((do let d ← resolve ρc c ty; invoke d.target d.args : Sem Next).run P w) (Ret φ H x w v H' x') := by
  have hargs := evs_ok hρ c.args.toList
  have hmap : c.args.map ρc = (c.args.toList.map ρc).toArray := by apply Array.ext'; simp only [Array.toList_map]
  unfold oCall at h
  unfold resolve
  rw [Sem.run_bind]
  split at h
  · rename_i b hc
    rw [hE] at h
    rw [hc]
    dsimp only
    rw [Sem.run_pure, Result.andThen_ok, hmap]
    exact (builtinA_ok r (hf x (Nat.le_refl _)) h hargs).goes
  · rename_i f hc
    rw [hc]
    dsimp only
    rw [hmap]
    have hfv := hρ f
    unfold invokeA at h
    split at h
    · rename_i fn first cap hfe
      rw [hfe] at hfv
      generalize ρc f = fvv at hfv
      cases hfv with
      | func h1 h2 => exact fnCallA_ok hE hxt hrec r hf h h1 h2 hargs
    · rename_i l hfe
      rw [hfe] at hfv
      generalize ρc f = fvv at hfv
      cases hfv with
      | yield hl =>
        rename_i b sz
        have := yieldA_ok (ro := ro) (n := n) hrec r hf h hl hargs
        show Goes ro n P ((Instr.yield b (#[] ++ (c.args.toList.map ρc).toArray)).run P w) _
        rw [Array.empty_append]
        exact this
    · cases h
  · rename_i rc name hc
    rw [hc]
    dsimp only
    rw [Sem.run_pure, Result.andThen_ok, hmap]
    show Goes ro n P ((invoke (.fn (.method name) #[]) (#[ρc rc] ++ (c.args.toList.map ρc).toArray)).run P w) _
    rw [cons_toArray]
    show Goes ro n P ((callMethod (ρc rc) name ((ρc rc :: c.args.toList.map ρc).toArray.extract 1 (ρc rc :: c.args.toList.map ρc).toArray.size)).run P w) _
    rw [extract_tail]
    exact methodCallA_ok hE hxt hrec r hf h (hρ rc) hargs

/-- Every operation. -/
theorem execA_ok {E : Env} (hE : E.P = P) (hxt : XtOk E) {rec : Rec} (hrec : RecOk P rec) (r : Rel φ H.get x w) (hf : Fresh φ x) {ρ : Operand → AV} {ρc : Operand → Value} (hρ : ∀ o, VR φ (ρ o) (ρc o)) {o : Oper}
    (h : execA o.op E rec ρ H x = .ok v H' x') : Goes ro n P ((o.semAt ro ρc).run P w) (Ret φ H x w v H' x') := by
  have hsem : o.semAt ro ρc = execOp ρc o := Oper.semAt_eq ro ρc o (fun c e => by rw [e] at h; cases h)
  rw [hsem]
  cases ho : o.op with
  | call c =>
    rw [ho] at h
    unfold execOp
    rw [ho]
    exact oCall_ok hE hxt hrec r hf hρ h
  | _ => exact (lift_ok r (hf x (Nat.le_refl _)) hE hρ (fun c e => by rw [ho] at e; cases e) h).goes

end Go.Ce
