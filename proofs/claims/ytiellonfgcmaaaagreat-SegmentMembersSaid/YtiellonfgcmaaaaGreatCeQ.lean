/- The abstract evaluator 'Ce': methods, rounds, function values: every operation. -/
import Derived.Test.YtiellonfgcmaaaaGreatCeP
set_option linter.unusedVariables false
set_option linter.unusedSimpArgs false
set_option linter.unusedSectionVars false
namespace Go.Ce
variable {P : Program} {φ : PM} {w : World} {H H' : Hp} {x x' : Nat} {v : AV} {n : Nat} {ro : Option Nat}

/-! ### Methods -/

theorem methodA_ok {t : TypeId} {name : String} {f : FuncId} (h : methodA P t name = .ok f) (u : Value) : (method (P.types.size + Made.depth) t u name).run P w = .ok (f, u) w := by
  unfold methodA at h
  split at h
  · cases h
  · rename_i i hi
    split at h
    · cases h
    · rename_i m hm
      split at h
      · cases h
      · rename_i hpath
        split at h
        · cases h
        · rename_i g pr hfunc
          have hd : P.types.size + Made.depth = (P.types.size + Made.depth - 1) + 1 := by
            have : 0 < Made.depth := by decide
            omega
          rw [hd]
          unfold method
          have hfol : (follow m.path.toList t (.val u)).run P w = .ok (t, .val u) w := by rw [hpath]; rfl
          simp only [Sem.run_bind, run_typeInfo hi, Result.andThen_ok, hm, hfol, hfunc]
          split at h
          · rename_i e hu
            obtain ⟨hpr, h2⟩ := cond_ok h
            cases h2
            subst hpr
            unfold receiverAt
            simp only [Sem.run_bind, run_underlying hu, Result.andThen_ok]
            rfl
          · rename_i d hnp hu
            obtain ⟨hpr, h2⟩ := cond_ok' h
            cases h2
            subst hpr
            unfold receiverAt
            simp only [Sem.run_bind, run_underlying hu, Result.andThen_ok]
            cases d <;> first | exact absurd rfl (hnp _) | rfl
          · cases h

theorem cons_toArray (u : Value) (vals : List Value) : #[u] ++ vals.toArray = (u :: vals).toArray := by simp

theorem casesR_good {α : Type} {r : R α} {f : α → O3} (h : (R.casesOn r f .no : O3).good) : ∃ a, r = .ok a := by
  cases r with
  | ok a => exact ⟨a, rfl⟩
  | no c => exact absurd rfl (h c)

theorem methodCallA_ok {E : Env} (hE : E.P = P) (hxt : XtOk E) {rec : Rec} (hrec : RecOk P rec) (r : Rel φ H.get x w) (hf : Fresh φ x) {recv : AV} {rv : Value} {name : String} {args : List AV} {vals : List Value}
    (h : (methodCallA E rec recv name args H x).good) (hr : VR φ recv rv) (ha : VRs φ args vals) : GoesR ro n P ((callMethod rv name vals.toArray).run P w) φ H x w (methodCallA E rec recv name args H x) := by
  unfold methodCallA at h ⊢
  split at h
  · rename_i t u
    obtain ⟨f, hm⟩ := casesR_good h
    rw [hm] at h
    dsimp only
    rw [hm]
    have h : (callA E rec f (u :: args) H x).good := h
    show GoesR ro n P _ φ H x w (callA E rec f (u :: args) H x)
    cases hr with
    | iface _ hu =>
      rename_i uv
      rw [hE] at hm
      unfold callMethod
      have hp : program.run P w = .ok P w := rfl
      simp only [Sem.run_bind, hp, Result.andThen_ok, methodA_ok hm, cons_toArray]
      exact callA_ok hE hxt hrec r hf h (.cons hu ha)
  · exact absurd rfl (h 238)

theorem isIface_ok {t : TypeId} {b : Bool} (h : isIface P t = .ok b) : ∃ d, P.underlying t = some d ∧ ((b = true ∧ ∃ ms, d = .interface ms) ∨ (b = false ∧ ∀ ms, d ≠ .interface ms)) := by
  unfold isIface at h
  split at h
  · rename_i ms hu; cases h; exact ⟨_, hu, .inl ⟨rfl, ms, rfl⟩⟩
  · rename_i d hn hu; cases h; exact ⟨_, hu, .inr ⟨rfl, fun ms e => hn ms e⟩⟩
  · cases h

/-! ### Rounds -/

theorem Rel.loop (r : Rel φ H.get x w) {l ver : Nat} {st : LoopState} {pend : Option Code} {fn : FuncId} {km : Nat} {T : Tr AV} {nt : Nat} {ps : Array Tmp} {asg body : Code} {df : Nat} (h : H.get l = some ⟨ver, .loop st pend fn km T nt ps asg body df⟩) :
    ∃ b sz bd szd tmps fn', φ l = some (b, sz) ∧ φ df = some (bd, szd) ∧ w.heap[b]? = some (.loop ⟨st, pend, fn', tmps, ps, asg, body, bd⟩) ∧ TR φ km T nt tmps := by
  have := r.blk l _ h
  cases this with
  | loop h hd hb hT => exact ⟨_, _, _, _, _, _, h, hd, hb, hT⟩

theorem run_getLoop {b : Nat} {lp : Loop} (h : w.heap[b]? = some (.loop lp)) : (Instr.getLoop b).run P w = .ok lp w := by
  unfold Instr.getLoop
  have h1 : (getObj b).run P w = .ok (.loop lp) w := by simp [getObj, Sem.run, h]
  simp only [Sem.run_bind, h1, Result.andThen_ok, Sem.run_pure]

theorem run_setLoop {b : Nat} {lp lp' : Loop} (h : w.heap[b]? = some (.loop lp)) : (setObj b (.loop lp')).run P w = .ok () { w with heap := w.heap.setIfInBounds b (.loop lp') } := by
  simp [setObj, Sem.run, h]

/-- A loop's record is set. -/
theorem loop_set (r : Rel φ H.get x w) {l ver : Nat} {st st' : LoopState} {pend pend' : Option Code} {fn fn' : FuncId} {km : Nat} {T : Tr AV} {nt : Nat} {ps : Array Tmp} {asg body : Code} {df : Nat} {b sz bd szd : Nat} {tmps : Array Value}
    (hl : H.get l = some ⟨ver, .loop st pend fn km T nt ps asg body df⟩) (hφ : φ l = some (b, sz)) (hd : φ df = some (bd, szd)) (hb : w.heap[b]? = some (.loop ⟨st, pend, fn', tmps, ps, asg, body, bd⟩)) (hT : TR φ km T nt tmps) :
    Step φ H.get x w φ (H.ins dH l ⟨Nat.succ ver, .loop st' pend' fn km T nt ps asg body df⟩).get x { w with heap := w.heap.setIfInBounds b (.loop ⟨st', pend', fn', tmps, ps, asg, body, bd⟩) } := by
  have hlt : b < w.heap.size := (Array.getElem?_eq_some_iff.1 hb).1
  refine step_put r hl hφ _ _ rfl rfl rfl (by simp) (fun k hk => ?_) ?_
  · show (w.heap.setIfInBounds b _)[k]? = _
    rw [Array.getElem?_setIfInBounds, if_neg (fun e => hk e.symm)]
  · refine .loop hφ hd (tmps := tmps) (fn' := fn') ?_ hT
    show (w.heap.setIfInBounds b _)[b]? = _
    rw [Array.getElem?_setIfInBounds_self, if_pos hlt]

theorem endOf_exit {e : AE} {ex : Exit} (hex : ExR φ e ex) (hp : isPan e = false) : ∃ jump, (endOf e).1 = .bool jump.isNone ∧ (endOf e).2.1 = (if jump.isNone then .ready else .done) ∧ (endOf e).2.2 = jump ∧
    (∀ l R a w, (∃ u w', (Instr.endRound l jump).run P w = .ok u w' ∧ R (.returned u) w') → roundPost P l R ex a w) := by
  cases hex with
  | normal => exact ⟨none, rfl, rfl, rfl, fun l R a w h => h⟩
  | exit id => exact ⟨some (.exit id), rfl, rfl, rfl, fun l R a w h => h⟩
  | ret => exact ⟨some .ret, rfl, rfl, rfl, fun l R a w h => h⟩
  | pan hv => cases hp

theorem roundEnd_ok {l b sz : Nat} {s : St} (r : Rel φ s.H.get s.x w) (hl : φ l = some (b, sz)) {e : AE} {ex : Exit} (hex : ExR φ e ex) (h : (roundEnd l e s).good) {R : Ending → World → Prop} {a : Act}
    (hR : ∀ val w', RetR φ s.H s.x w (roundEnd l e s) val w' → R (.returned val) w') : roundPost P b R ex a w := by
  unfold roundEnd at h hR
  cases hp : isPan e with
  | true => rw [hp] at h; exact absurd rfl (h 226)
  | false =>
  rw [hp, cond_false] at h hR
  split at h
  · rename_i ver4 st4 pend4 fn4 km4 T4 nt4 ps4 asg4 body4 df4 hlp4
    rw [hlp4] at hR
    dsimp only at hR
    obtain ⟨b4, sz4, bd4, szd4, tmps4, fnc4, hφ4, hdf4, hb4, hTT4⟩ := r.loop hlp4
    rw [hl] at hφ4; cases hφ4
    obtain ⟨jump, j1, j2, j3, j4⟩ := endOf_exit (P := P) hex hp
    rw [j1, j2, j3] at hR
    have hset4 := loop_set (st' := if jump.isNone then .ready else .done) (pend' := jump) r hlp4 hl hdf4 hb4 hTT4
    have hret : Ret φ s.H s.x w (.bool jump.isNone) (s.H.ins dH l ⟨Nat.succ ver4, .loop (if jump.isNone then .ready else .done) jump fn4 km4 T4 nt4 ps4 asg4 body4 df4⟩) s.x (.bool jump.isNone)
        { w with heap := w.heap.setIfInBounds b (.loop ⟨if jump.isNone then .ready else .done, jump, fnc4, tmps4, ps4, asg4, body4, bd4⟩) } := ⟨φ, .bool _, hset4⟩
    have hrun : (Instr.endRound b jump).run P w = .ok (.bool jump.isNone) { w with heap := w.heap.setIfInBounds b (.loop ⟨if jump.isNone then .ready else .done, jump, fnc4, tmps4, ps4, asg4, body4, bd4⟩) } := by
      unfold Instr.endRound
      rw [Sem.run_bind, run_getLoop hb4, Result.andThen_ok, Sem.run_bind, run_setLoop hb4, Result.andThen_ok, Sem.run_pure]
    exact j4 b R a w ⟨_, _, hrun, hR _ _ ⟨_, _, _, ⟨rfl, rfl, rfl⟩, hret⟩⟩
  · exact absurd rfl (h 226)

theorem roundBegin_ok {l b sz : Nat} {c : Ctx} {s s2 : St} {a : Act} (hs : StOk φ c s a w ro) (hl : φ l = some (b, sz)) (h : roundBegin l s = .ok s2) :
    ∃ w2, (Instr.beginRound b).run P w = .ok () w2 ∧ StOk φ c s2 a w2 ro ∧ Step φ s.H.get s.x w φ s2.H.get s2.x w2 := by
  unfold roundBegin at h
  split at h
  · rename_i ver2 pend2 fn2 km2 T2 nt2 ps2 asg2 body2 df2 hlp2
    cases h
    obtain ⟨b2, sz2, bd2, szd2, tmps2, fnc2, hφ2, hdf2, hb2, hTT2⟩ := hs.rel.loop hlp2
    rw [hl] at hφ2; cases hφ2
    have hset := loop_set (st' := .busy) (pend' := pend2) hs.rel hlp2 hl hdf2 hb2 hTT2
    have hrun : (Instr.beginRound b).run P w = .ok () { w with heap := w.heap.setIfInBounds b (.loop ⟨.busy, pend2, fnc2, tmps2, ps2, asg2, body2, bd2⟩) } := by
      unfold Instr.beginRound
      rw [Sem.run_bind, run_getLoop hb2, Result.andThen_ok, Sem.run_bind, run_setLoop hb2, Result.andThen_ok]
      rfl
    exact ⟨_, hrun, ⟨hset.rel, hs.fresh, hs.tmps, hs.defers, hs.ro⟩, hset⟩
  · cases h

theorem yieldA_ok {rec : Rec} (hrec : RecOk P rec) (r : Rel φ H.get x w) (hf : Fresh φ x) {l : Nat} {args : List AV} {vals : List Value} {b sz : Nat} (h : (yieldA rec l args H x).good) (hl : φ l = some (b, sz)) (ha : VRs φ args vals) :
    GoesR ro n P ((Instr.yield b vals.toArray).run P w) φ H x w (yieldA rec l args H x) := by
  unfold yieldA at h ⊢
  split at h
  · rename_i ver st pend fn km T nt ps asg body df hlp
    obtain ⟨T1, hT1⟩ := casesR_good h
    rw [hT1] at h
    rw [hT1]
    have h : (goXO (rec ⟨some l, false, fn, nt, km⟩ asg ⟨.nil, T1, [], H, x⟩) (roundMid rec ⟨some l, false, fn, nt, km⟩ l body)).good := h
    show GoesR ro n P _ φ H x w (goXO (rec ⟨some l, false, fn, nt, km⟩ asg ⟨.nil, T1, [], H, x⟩) (roundMid rec ⟨some l, false, fn, nt, km⟩ l body))
    obtain ⟨b', sz', bd, szd, tmps, fnc, hφ, hd, hb, hT⟩ := r.loop hlp
    rw [hl] at hφ; cases hφ
    obtain ⟨hlen, hT2⟩ := setParams_ok hT1 ha hT
    have hrun : (Instr.yield b vals.toArray).run P w = .ok (.round b fnc ((ps.toList.zip vals).foldl (fun (tmps : Array Value) (q : Tmp × Value) => tmps.setIfInBounds q.1 q.2) tmps) asg body) w := by
      unfold Instr.yield
      rw [Sem.run_bind, run_getLoop hb, Result.andThen_ok]
      dsimp only
      rw [if_neg (by simp; rw [← Array.length_toList]; omega)]
      rw [Sem.run_pure]
      congr 2
      rw [← Array.foldl_toList]
      simp
    intro o a next Q hn hq
    rw [hrun, Oper.uponIn_round]
    refine ⟨noDepth, ?_⟩
    have hst : StOk φ ⟨some l, false, fn, nt, km⟩ ⟨.nil, T1, [], H, x⟩ { tmps := (ps.toList.zip vals).foldl (fun (tmps : Array Value) (q : Tmp × Value) => tmps.setIfInBounds q.1 q.2) tmps, defers := [] } w (some b) :=
      ⟨r, hf, ⟨hT2, fun t a h => by cases h⟩, .nil, .some hl⟩
    refine roundIn_of_wpIn (F := FW ro) trivial ?_
    show asg.wpIn (FW (some b)) (n - 1) P _ _ _
    refine wpIn_mono (hrec.plain _ _ _ (goXO_good h) rfl φ _ w (some b) (n - 1) hst) ?_
    intro ex a1 w1 hp
    obtain ⟨e1, s1, hin1, φ1, hex1, hs1, hstep1⟩ := hp
    obtain ⟨h3, hsub1⟩ := goXO_in h hin1
    unfold roundMid at h3 hsub1
    split at h3
    · cases hex1
      cases hd1 : noD s1 with
      | false => rw [hd1] at h3; exact absurd rfl (h3 227)
      | true =>
        dsimp only at hsub1
        rw [hd1, cond_true] at h3 hsub1
        obtain ⟨s2, hs2⟩ := casesR_good h3
        rw [hs2] at h3 hsub1
        have h5 : (roundBody rec ⟨some l, false, fn, nt, km⟩ l body s2).good := h3
        have hsub1 : SubO (roundBody rec ⟨some l, false, fn, nt, km⟩ l body s2) _ := hsub1
        have hl1 := hstep1.ext _ _ hl
        obtain ⟨w2, hbr, hst2, hstep2⟩ := roundBegin_ok (P := P) hs1 hl1 hs2
        refine ⟨w2, hbr, ?_⟩
        unfold roundBody at h5 hsub1
        show body.wpIn (FW (some b)) (n - 1) P _ _ _
        refine wpIn_mono (hrec.plain _ _ _ (goXO_good h5) rfl φ1 _ _ (some b) (n - 1) hst2) ?_
        intro ex a3 w3 hp
        obtain ⟨e3, s3, hin3, φ3, hex3, hs3, hstep3⟩ := hp
        obtain ⟨h6, hsub3⟩ := goXO_in h5 hin3
        cases hd3 : noD s3 with
        | false => rw [hd3] at h6; exact absurd rfl (h6 227)
        | true =>
          rw [hd3, cond_true] at h6 hsub3
          refine roundEnd_ok hs3.rel (hstep3.ext _ _ hl1) hex3 h6 fun val w' hv => ?_
          obtain ⟨v, H', x', hin4, φ4, hv4, hstep4⟩ := hv
          have s12 := hstep1.trans hstep2
          have s34 := hstep3.trans hstep4
          exact hn _ _ ⟨v, H', x', hsub1.1 _ _ _ (hsub3.1 _ _ _ hin4), φ4, hv4, s12.trans s34⟩
    · exact absurd rfl (h3 228)
  · exact absurd rfl (h 230)

/-! ### Function values -/

theorem extract_tail (u : Value) (l : List Value) : (u :: l).toArray.extract 1 (u :: l).toArray.size = l.toArray := by
  apply Array.ext'
  simp [List.extract_eq_take_drop]

theorem fnCallA_ok {E : Env} (hE : E.P = P) (hxt : XtOk E) {rec : Rec} (hrec : RecOk P rec) (r : Rel φ H.get x w) (hf : Fresh φ x) {fn : Fn} {first cap args : List AV} {fv cv av : List Value}
    (h : (fnCallA E rec fn first cap args H x).good) (h1 : VRs φ first fv) (h2 : VRs φ cap cv) (h3 : VRs φ args av) :
    GoesR ro n P ((invoke (.fn fn cv.toArray) (fv.toArray ++ av.toArray)).run P w) φ H x w (fnCallA E rec fn first cap args H x) := by
  have happ : fv.toArray ++ av.toArray = (fv ++ av).toArray := by simp
  have hfa := h1.append h3
  unfold fnCallA at h ⊢
  rw [appS_eq] at h ⊢
  rw [happ]
  split at h
  · rename_i g
    rw [appS_eq, ← List.append_assoc] at h ⊢
    show GoesR ro n P ((callFunc g ((fv ++ av).toArray ++ cv.toArray)).run P w) φ H x w _
    have : (fv ++ av).toArray ++ cv.toArray = (fv ++ av ++ cv).toArray := by simp
    rw [this]
    exact callA_ok hE hxt hrec r hf h (hfa.append h2)
  · rename_i name
    rw [appS_eq] at h ⊢
    cases hl : first ++ args with
    | nil => rw [hl] at h; exact absurd rfl (h 240)
    | cons rc rest =>
      rw [hl] at h hfa
      have h : (methodCallA E rec rc name rest H x).good := h
      generalize fv ++ av = l at hfa
      cases hfa with
      | cons hr hl =>
        rename_i rv lv
        show GoesR ro n P ((callMethod rv name ((rv :: lv).toArray.extract 1 (rv :: lv).toArray.size)).run P w) φ H x w (methodCallA E rec rc name rest H x)
        rw [extract_tail]
        exact methodCallA_ok hE hxt hrec r hf h hr hl
  · rename_i t name
    rw [appS_eq] at h ⊢
    cases hl : first ++ args with
    | nil => rw [hl] at h; exact absurd rfl (h 241)
    | cons rc rest =>
      rw [hl] at h hfa
      have h : (methodOfA E rec t name rc rest H x).good := h
      generalize fv ++ av = l at hfa
      cases hfa with
      | cons hr hl =>
        rename_i rv lv
        show GoesR ro n P _ φ H x w (methodOfA E rec t name rc rest H x)
        unfold methodOfA at h ⊢
        obtain ⟨b, hb⟩ := casesR_good h
        rw [hb] at h ⊢
        rw [hE] at hb
        have h : (methodCallA E rec (bif b then rc else .iface t rc) name rest H x).good := h
        obtain ⟨d, hu, hd⟩ := isIface_ok hb
        unfold invoke
        have h0 : (rv :: lv).toArray[0]? = some rv := rfl
        simp only [h0, Sem.run_bind, run_underlying hu, Result.andThen_ok, extract_tail]
        rcases hd with ⟨rfl, ms, rfl⟩ | ⟨rfl, hn⟩
        · exact methodCallA_ok hE hxt hrec r hf h hr hl
        · cases d <;> first | exact absurd rfl (hn _) | exact methodCallA_ok hE hxt hrec r hf h (.iface t hr) hl
  · exact absurd rfl (h 242)

/-! ### What has one way alone -/

def O3.plain : O3 → Bool
  | .ok _ _ _ => true
  | .no _ => true
  | _ => false

theorem plain_pan {r : O3} (h : r.plain = true) {v : AV} {H : Hp} {x : Nat} : r ≠ .pan v H x := fun e => by subst e; cases h
theorem plain_or {r : O3} (h : r.plain = true) {l : List (AV × Hp × Nat)} : r ≠ .or l := fun e => by subst e; cases h
theorem plain_cases {α : Type} {r : R α} {f : α → O3} (h : ∀ a, (f a).plain = true) : (R.casesOn r f .no : O3).plain = true := by cases r with | ok a => exact h a | no c => rfl
theorem plain_cond {b : Bool} {p q : O3} (hp : p.plain = true) (hq : q.plain = true) : (bif b then p else q).plain = true := by cases b <;> assumption
theorem plain_toO {r : R AV} : (toO H x r).plain = true := by cases r <;> rfl
theorem plain_toU {r : R Hp} : (toU x r).plain = true := by cases r <;> rfl
theorem plain_toN {el : TypeId} {u : AV} {r : R (List AV)} : (toN H x el u r).plain = true := by cases r <;> rfl
theorem plain_toP {r : R (AV × Hp)} : (toP x r).plain = true := by cases r <;> rfl

theorem growA_plain {el : TypeId} {inf : TypeInfo} {a b : List AV} {k : Nat} : (growA H x el inf a b k).plain = true := by
  unfold growA
  refine plain_cond ?_ rfl
  split
  · rfl
  · exact plain_cond rfl rfl

theorem appendTo_plain {el : TypeId} {inf : TypeInfo} {k : Nat} {l : List AV} {s : AV} : (appendTo H x el inf k l s).plain = true := by
  unfold appendTo
  split
  · exact plain_cond rfl growA_plain
  · exact plain_cond rfl rfl
  · refine plain_cond (plain_cond (plain_cases fun _ => rfl) (plain_cases fun _ => plain_cond growA_plain (plain_cond growA_plain rfl))) rfl
  · rfl

theorem appendA_plain {t u : TypeId} {s y : AV} : (appendA P H x t u s y).plain = true := by
  unfold appendA
  split
  · rfl
  · refine plain_cases fun el => ?_
    split
    · rfl
    · exact plain_cases fun q => appendTo_plain

theorem builtinA_plain {b : Builtin} {ts : List TypeId} {args : List AV} : (builtinA P H x b ts args).plain = true := by
  unfold builtinA
  split
  · exact plain_toO
  · exact plain_toO
  · exact appendA_plain
  · exact plain_cases fun _ => rfl
  · exact plain_cases fun _ => rfl
  · exact plain_cases fun _ => rfl
  · exact plain_cond plain_toO rfl
  · exact plain_cond plain_toO rfl
  · rfl

theorem buildSliceA_plain {t : TypeId} {k : Nat} {ps : List (Nat × AV)} : (buildSliceA P H x t k ps).plain = true := by
  unfold buildSliceA
  exact plain_cases fun _ => plain_cases fun _ => plain_cond plain_toN rfl

theorem makeSliceA_plain {t : TypeId} {a b : AV} : (makeSliceA P H x t a b).plain = true := by
  unfold makeSliceA
  refine plain_cases fun _ => plain_cases fun _ => plain_cases fun _ => ?_
  split
  · rfl
  · exact plain_cond plain_toN rfl

theorem convertA_plain {s d : TypeId} {a : AV} : (convertA P H x s d a).plain = true := by
  unfold convertA
  split
  · rfl
  · split
    · split <;> rfl
    · exact plain_toO
    · split
      · exact plain_cond plain_toN rfl
      · rfl
    · rfl

theorem rangeIt_plain {t : TypeId} {a : AV} : (rangeIt P H x t a).plain = true := by
  unfold rangeIt
  split
  · split <;> rfl
  · split
    · rfl
    · exact plain_cases fun _ => rfl
    · rfl
  · rfl

theorem oCall_ok {E : Env} (hE : E.P = P) (hxt : XtOk E) {rec : Rec} (hrec : RecOk P rec) (r : Rel φ H.get x w) (hf : Fresh φ x) {ρ : Operand → AV} {ρc : Operand → Value} (hρ : ∀ o, VR φ (ρ o) (ρc o)) {c : Call} {ty : TypeId}
    (h : (oCall c E rec ρ H x).good) : GoesR ro n P ((do let d ← resolve ρc c ty; invoke d.target d.args : Sem Next).run P w) φ H x w (oCall c E rec ρ H x) := by
  have hargs := evs_ok hρ c.args.toList
  have hmap : c.args.map ρc = (c.args.toList.map ρc).toArray := by apply Array.ext'; simp only [Array.toList_map]
  unfold oCall at h ⊢
  unfold resolve
  rw [Sem.run_bind]
  split at h
  · rename_i b hc
    rw [hE] at h ⊢
    rw [hc]
    dsimp only
    rw [Sem.run_pure, Result.andThen_ok, hmap]
    cases hb : builtinA P H x b c.argTypes.toList (evs ρ c.args.toList) with
    | ok v H' x' => exact Goes.inR ⟨rfl, rfl, rfl⟩ (fun {Rp} => (builtinA_ok r (hf x (Nat.le_refl _)) hb hargs).goes)
    | no k => rw [hb] at h; exact absurd rfl (h k)
    | pan v H' x' => exact absurd hb (plain_pan builtinA_plain)
    | or l => exact absurd hb (plain_or builtinA_plain)
  · rename_i f hc
    rw [hc]
    dsimp only
    rw [hmap]
    have hfv := hρ f
    unfold invokeA at h ⊢
    cases hfe : ρ f <;> rw [hfe] at h hfv <;> try exact absurd rfl (h 243)
    case func fn first cap =>
      generalize ρc f = fvv at hfv
      cases hfv with
      | func h1 h2 => exact fnCallA_ok hE hxt hrec r hf h h1 h2 hargs
    case yield l =>
      generalize ρc f = fvv at hfv
      cases hfv with
      | yield hl =>
        rename_i b sz
        have := yieldA_ok (ro := ro) (n := n) hrec r hf h hl hargs
        show GoesR ro n P ((Instr.yield b (#[] ++ (c.args.toList.map ρc).toArray)).run P w) φ H x w _
        rw [Array.empty_append]
        exact this
  · rename_i rc name hc
    rw [hc]
    dsimp only
    rw [Sem.run_pure, Result.andThen_ok, hmap]
    show GoesR ro n P ((invoke (.fn (.method name) #[]) (#[ρc rc] ++ (c.args.toList.map ρc).toArray)).run P w) φ H x w _
    rw [cons_toArray]
    show GoesR ro n P ((callMethod (ρc rc) name ((ρc rc :: c.args.toList.map ρc).toArray.extract 1 (ρc rc :: c.args.toList.map ρc).toArray.size)).run P w) φ H x w _
    rw [extract_tail]
    exact methodCallA_ok hE hxt hrec r hf h (hρ rc) hargs

/-- What is neither the step of a range nor a panic has one way. -/
theorem lift_plain {E : Env} {rec : Rec} {ρ : Operand → AV} {op : Op} (hc : ∀ c, op ≠ .call c) (hn : ∀ a b, op ≠ .next a b) (hp : ∀ a, op ≠ .panic a) : (execA op E rec ρ H x).plain = true := by
  cases op with
  | move a => rfl
  | assign a => rfl
  | pick c a b =>
    show (oPick c a b E.P ρ H x).plain = true
    unfold oPick
    split <;> rfl
  | alloc t => exact plain_toN
  | box t a => exact plain_cond rfl rfl
  | build t ps => exact plain_toO
  | buildSlice t n ps => exact buildSliceA_plain
  | insert t m k v => exact plain_toU
  | load t a => exact plain_toO
  | store t a v => exact plain_toU
  | nilCheck a => exact plain_toO
  | binOp op t a b u => exact plain_toO
  | unOp op t a => exact plain_toO
  | convert s d a => exact convertA_plain
  | sliceToArrayPointer t a => exact plain_toO
  | makeInterface t a => exact plain_cond rfl rfl
  | makeFunc f a b => exact plain_cond rfl rfl
  | makeMap t r =>
    refine plain_cases fun _ => ?_
    split
    · rfl
    · exact plain_cond rfl rfl
  | makeSlice t l c => exact makeSliceA_plain
  | slice t a l h m => exact plain_toO
  | fieldAddr t a i => exact plain_toO
  | field t a i => exact plain_toO
  | indexAddr t a i => exact plain_toO
  | index t a i => exact plain_toO
  | lookup t m k ok => exact plain_toO
  | mapUpdate t m k v => exact plain_toU
  | mapEntry t m k => exact plain_toP
  | entryStore t m s v => exact plain_toU
  | range t a => exact rangeIt_plain
  | next a b => exact absurd rfl (hn a b)
  | entry a => exact plain_toO
  | typeAssert a u t ok => exact plain_toO
  | extract a i =>
    show (oExtract a i E.P ρ H x).plain = true
    unfold oExtract
    split
    · exact plain_toO
    · rfl
  | call c => exact absurd rfl (hc c)
  | panic a => exact absurd rfl (hp a)
  | _ => rfl

/-- Every operation. -/
theorem execA_ok {E : Env} (hE : E.P = P) (hxt : XtOk E) {rec : Rec} (hrec : RecOk P rec) (r : Rel φ H.get x w) (hf : Fresh φ x) {ρ : Operand → AV} {ρc : Operand → Value} (hρ : ∀ o, VR φ (ρ o) (ρc o)) {o : Oper}
    (h : (execA o.op E rec ρ H x).good) : GoesR ro n P ((o.semAt ro ρc).run P w) φ H x w (execA o.op E rec ρ H x) := by
  have hsem : o.semAt ro ρc = execOp ρc o := Oper.semAt_eq ro ρc o (fun c e => by rw [e] at h; exact absurd rfl (h 212))
  rw [hsem]
  have hone : (∀ c, o.op ≠ .call c) → (∀ a b, o.op ≠ .next a b) → (∀ a, o.op ≠ .panic a) → GoesR ro n P ((execOp ρc o).run P w) φ H x w (execA o.op E rec ρ H x) := by
    intro h1 h2 h3
    have hpl := lift_plain (E := E) (rec := rec) (ρ := ρ) (H := H) (x := x) h1 h2 h3
    cases hx : execA o.op E rec ρ H x with
    | ok v H' x' => exact Goes.inR ⟨rfl, rfl, rfl⟩ (fun {Rp} => (lift_ok r (hf x (Nat.le_refl _)) hE hρ h1 hx).goes)
    | no k => rw [hx] at h; exact absurd rfl (h k)
    | pan v H' x' => exact absurd hx (plain_pan hpl)
    | or l => exact absurd hx (plain_or hpl)
  cases ho : o.op with
  | call c =>
    rw [ho] at h
    unfold execOp
    rw [ho]
    exact oCall_ok hE hxt hrec r hf hρ h
  | next a isS =>
    rw [ho] at h
    unfold execOp
    rw [ho]
    have h : (nextA H x (ρ a) isS).good := h
    show GoesR ro n P _ φ H x w (nextA H x (ρ a) isS)
    obtain ⟨v, H', x', hin, hv⟩ := nextA_ok (P := P) (ty := o.type) r rfl h (hρ a)
    exact Goes.inR hin (fun {Rp} => hv.op.goes)
  | panic a =>
    rw [ho] at h
    unfold execOp
    rw [ho]
    have h : (panicA H x (ρ a)).good := h
    show GoesR ro n P _ φ H x w (panicA H x (ρ a))
    have ha := hρ a
    unfold panicA at h ⊢
    split at h
    · rename_i t u hae
      rw [hae] at ha
      rw [hae]
      generalize hav : ρc a = av at ha
      cases ha with
      | iface _ hu =>
        rename_i uv
        intro o' a' next Q _ hq
        have hrun : (do pure (.value (← Instr.panic (ρc a))) : Sem Next).run P w = .halt (.panic (.iface t uv)) w := by rw [hav]; rfl
        dsimp only
        rw [hrun]
        exact hq _ _ ⟨_, _, _, φ, rfl, .mk (.iface t hu), .refl r⟩
    · exact absurd rfl (h 349)
  | _ => rw [← ho]; exact hone (fun c e => by rw [ho] at e; cases e) (fun a b e => by rw [ho] at e; cases e) (fun a e => by rw [ho] at e; cases e)

end Go.Ce
