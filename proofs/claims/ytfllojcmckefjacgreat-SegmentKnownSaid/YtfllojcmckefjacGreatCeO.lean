/- The abstract evaluator 'Ce': builtins, calls, methods: what an operation comes to, inside the calculus. -/
import Derived.Test.YtfllojcmckefjacGreatCeN
import Derived.Recover
set_option linter.unusedVariables false
set_option linter.unusedSimpArgs false
set_option linter.unusedSectionVars false
namespace Go.Ce
variable {P : Program} {φ : PM} {w : World} {H H' : Hp} {x x' : Nat} {v : AV} {n : Nat} {ro : Option Nat}

/-- The fence that lets all in; 'ro': in a round of which loop. -/
abbrev FW (ro : Option Nat) : Fence := { Fence.wide with round := ro }

theorem noDepth {ro : Option Nat} {n : Nat} : (FW ro).depth.isSome = true → 1 ≤ n := fun e => Bool.noConfusion (show false = true from e)

/-- What an operation's result leads to. -/
def Goes (ro : Option Nat) (n : Nat) (P : Program) (res : Result Next) (R : Value → World → Prop) : Prop :=
  ∀ (o : Oper) (a : Act) (next : Act → World → Prop) (Q : Exit → Act → World → Prop), (∀ val w', R val w' → next (a.put o.dst val) w') → o.uponIn (FW ro) n P a next Q res

/-- What comes back: a value and a world. -/
def Ret (φ : PM) (H : Hp) (x : Nat) (w : World) (v : AV) (H' : Hp) (x' : Nat) : Value → World → Prop :=
  fun val w' => ∃ φ', VR φ' v val ∧ Step φ H.get x w φ' H'.get x' w'

abbrev Fresh (φ : PM) (x : Nat) : Prop := ∀ n, x ≤ n → φ n = none

theorem Step.fresh {φ φ' : PM} {h h' : HF} {x x' : Nat} {w w' : World} (s : Step φ h x w φ' h' x' w') (f : Fresh φ x) : Fresh φ' x' := fun n hn => by
  rw [s.dom n (.inr hn)]; exact f n (Nat.le_trans s.le hn)

theorem OpRun.goes {S : Sem Next} (h : OpRun P φ H x w S v H' x') : Goes ro n P (S.run P w) (Ret φ H x w v H' x') := by
  obtain ⟨φ', w', nx, val, h1, h2, h3, h4⟩ := h
  intro o a next Q hn
  rw [h1]
  rcases h2 with rfl | ⟨rfl, rfl⟩
  · exact hn val w' ⟨φ', h3, h4⟩
  · exact hn undef w' ⟨φ', h3, h4⟩

theorem Goes.mono {res : Result Next} {R R' : Value → World → Prop} (h : Goes ro n P res R) (hr : ∀ v w, R v w → R' v w) : Goes ro n P res R' :=
  fun o a next Q hn => h o a next Q fun v w hv => hn v w (hr v w hv)

/-! ### Builtins -/

theorem VRs.one {a : AV} {vs : List Value} (h : VRs φ [a] vs) : ∃ u, vs = [u] ∧ VR φ a u := by
  cases h with | cons h t => cases t; exact ⟨_, rfl, h⟩
theorem VRs.two {a b : AV} {vs : List Value} (h : VRs φ [a, b] vs) : ∃ u v, vs = [u, v] ∧ VR φ a u ∧ VR φ b v := by
  cases h with | cons h t => obtain ⟨v, rfl, hv⟩ := t.one; exact ⟨_, _, rfl, h, hv⟩

theorem allPlain_app : ∀ {l m : List AV}, allPlain l = true → allPlain m = true → allPlain (l ++ m) = true := by
  intro l
  induction l with
  | nil => intro m _ h; exact h
  | cons a l ih =>
    intro m h hm
    have h1 : (Bool.rec false (allPlain l) a.plain : Bool) = true := h
    show (Bool.rec false (allPlain (l ++ m)) a.plain : Bool) = true
    cases ha : a.plain with
    | false => rw [ha] at h1; cases h1
    | true => rw [ha] at h1; exact ih h1 hm

theorem allPlain_rep {z : List AV} (h : allPlain z = true) (n : Nat) : allPlain (repS n z []) = true := by
  rw [repS_eq, List.append_nil]
  induction n with
  | zero => rfl
  | succ n ih => rw [List.replicate_succ, List.flatten_cons]; exact allPlain_app h ih

theorem clearA_ok (r : Rel φ H.get x w) {t ty : TypeId} {ts : Array TypeId} (ht : ts[0]? = some t) {a : AV} {av : Value} (h : clearA P H t a = .ok H') (ha : VR φ a av) :
    ∃ w', (Builtin.clear_ ts ty #[av]).run P w = .ok (.tuple #[]) w' ∧ Step φ H.get x w φ H'.get x w' := by
  have harg : (#[av] : Array Value)[0]? = some av := rfl
  unfold clearA at h
  obtain ⟨el, hel, h2⟩ := R.bind_ok h
  have hu := elemA_ok hel
  unfold Builtin.clear_
  split at h2
  · cases h2
  · rename_i inf hi
    split at h2
    · cases h2; cases ha
      exact ⟨w, by simp only [ht, harg, Sem.run_bind, run_underlying hu, Result.andThen_ok, Sem.run_pure], .refl r⟩
    · cases h2; cases ha
      exact ⟨w, by simp only [ht, harg, Sem.run_bind, run_underlying hu, Result.andThen_ok, Sem.run_pure], .refl r⟩
    · rename_i m o len lb ex es
      cases ha with
      | slice hφ _ _ _ =>
        cases hl : Nat.beq len 0 with
        | true =>
          rw [hl, cond_true] at h2
          cases h2
          have := beqT hl
          subst this
          exact ⟨w, by simp only [ht, harg, Sem.run_bind, run_underlying hu, Result.andThen_ok, Sem.run_pure], .refl r⟩
        | false =>
          rw [hl, cond_false] at h2
          have hl := beqN hl
          split at h2
          · cases h2
          · rename_i z hz
            obtain ⟨hj, h3⟩ := cond_ok' h2
            obtain ⟨_, h4⟩ := cond_ok h3
            obtain ⟨_, h5⟩ := cond_ok h4
            have hcs := (VR.ofVal φ z).cells hj
            have hz2 := zeros_eq z.cells len z.cells.size rfl
            have hrow : VRs φ (repS len (ofVal z).cells []) (Builtin.zeroCells z.cells len).toList := by
              rw [repS_eq, List.append_nil]
              unfold Builtin.zeroCells
              rw [hz2]
              exact hcs.replicate len
            have hp : allPlain (repS len (ofVal z).cells []) = true := allPlain_rep (by assumption) len
            obtain ⟨w', hr, hst⟩ := writeA_ok (P := P) r h5 hp hrow hφ
            refine ⟨w', ?_, hst⟩
            cases len with
            | zero => exact absurd rfl hl
            | succ len => simp only [ht, harg, Sem.run_bind, run_underlying hu, run_zeroValue hi hz, Result.andThen_ok, hr, Sem.run_pure]
    · cases h2

theorem builtinA_ok (r : Rel φ H.get x w) (hf : φ x = none) {b : Builtin} {ts : Array TypeId} {ty : TypeId} {cs : Array Bool} {args : List AV} {vs : List Value} (h : builtinA P H x b ts.toList args = .ok v H' x') (hargs : VRs φ args vs) :
    OpRun P φ H x w (builtin b ts ty cs vs.toArray) v H' x' := by
  have hts0 : ∀ {t l}, ts.toList = t :: l → ts[0]? = some t := fun {t l} e => by rw [← Array.getElem?_toList, e]; rfl
  have hts1 : ∀ {t u l}, ts.toList = t :: u :: l → ts[1]? = some u := fun {t u l} e => by rw [← Array.getElem?_toList, e]; rfl
  unfold builtinA at h
  split at h
  · rename_i t l a hts
    obtain ⟨u, rfl, hu⟩ := hargs.one
    obtain ⟨h2, rfl, rfl⟩ := toO_ok h
    exact (VRun.pure r (lenA_ok r (hts0 hts) h2 hu)).op
  · rename_i t l a hts
    obtain ⟨u, rfl, hu⟩ := hargs.one
    obtain ⟨h2, rfl, rfl⟩ := toO_ok h
    exact (VRun.pure r (capA_ok (hts0 hts) h2 hu)).op
  · rename_i t u l s y hts
    obtain ⟨sv, yv, rfl, hs, hy⟩ := hargs.two
    exact (appendA_ok r hf (hts0 hts) (hts1 hts) h hs hy).op
  · rename_i t l d s hts
    obtain ⟨dv, sv, rfl, hd, hs⟩ := hargs.two
    obtain ⟨q, hq, h2⟩ := casesO_ok h
    cases h2
    exact (copyA_ok r (hts0 hts) hq hd hs).op
  · rename_i t l m k hts
    obtain ⟨mv, kv, rfl, hm, hk⟩ := hargs.two
    obtain ⟨q, hq, h2⟩ := casesO_ok h
    cases h2
    obtain ⟨φ', w', h3, h4⟩ := deleteA_ok (ty := ty) r (hts0 hts) hq hm hk
    exact VRun.op ⟨φ', w', .tuple #[], h3, .tup .nil, h4⟩
  · rename_i t l a hts
    obtain ⟨u, rfl, hu⟩ := hargs.one
    obtain ⟨H2, hc, h2⟩ := casesO_ok h
    cases h2
    obtain ⟨w', h3, h4⟩ := clearA_ok (ty := ty) r (hts0 hts) hc hu
    exact VRun.op ⟨φ, w', .tuple #[], h3, .tup .nil, h4⟩
  · rename_i a l
    obtain ⟨_, h2⟩ := condO_ok h
    obtain ⟨h3, rfl, rfl⟩ := toO_ok h2
    cases hargs with
    | cons ha hl =>
      obtain ⟨val, h4, h5⟩ := minmaxA_ok (P := P) (w := w) h3 ha hl
      exact (VRun.pure r ⟨val, h4, h5⟩).op
  · rename_i a l
    obtain ⟨_, h2⟩ := condO_ok h
    obtain ⟨h3, rfl, rfl⟩ := toO_ok h2
    cases hargs with
    | cons ha hl =>
      obtain ⟨val, h4, h5⟩ := minmaxA_ok (P := P) (w := w) h3 ha hl
      exact (VRun.pure r ⟨val, h4, h5⟩).op
  · cases h

/-! ### What the code's evaluator owes -/

/-- What waits for the function's end. -/
inductive DR (φ : PM) : List DE → List Deferred → Prop
  | nil : DR φ [] []
  | cons {m b sz : Nat} {D : List DE} {ds : List Deferred} (h : φ m = some (b, sz)) (t : DR φ D ds) : DR φ (.mark m :: D) ({ target := .collected b, args := #[] } :: ds)
  | call {g : FuncId} {args : List AV} {first cap : List Value} {D : List DE} {ds : List Deferred} (h : VRs φ args (first ++ cap)) (t : DR φ D ds) :
      DR φ (.call g args :: D) ({ target := .fn (.func g) cap.toArray, args := first.toArray } :: ds)

/-- In a round of which loop. -/
inductive RoOk (φ : PM) : Option Nat → Option Nat → Prop
  | none : RoOk φ none none
  | some {l b sz : Nat} (h : φ l = some (b, sz)) : RoOk φ (some l) (some b)

/-- The temporaries, those of the last region too. -/
structure TmpOk (φ : PM) (km nt : Nat) (L : Lo) (T : Tr AV) (tmps : Array Value) : Prop where
  kept : TR φ km T nt tmps
  loc : ∀ t a, lookL L t = some a → Ce.kept km t = false ∧ VR φ a (tmps.getD t undef)

structure StOk (φ : PM) (c : Ctx) (s : St) (a : Act) (w : World) (ro : Option Nat) : Prop where
  rel : Rel φ s.H.get s.x w
  fresh : Fresh φ s.x
  tmps : TmpOk φ c.km c.nt s.L s.T a.tmps
  defers : DR φ s.D a.defers
  ro : RoOk φ c.ro ro

def exOf : AE → Exit
  | .normal => .normal
  | .exit id => .exit id
  | .ret => .ret

/-- What code comes to. -/
def Post (φ : PM) (c : Ctx) (s : St) (w : World) (ro : Option Nat) (e : AE) (s' : St) : Exit → Act → World → Prop :=
  fun ex a' w' => ex = exOf e ∧ ∃ φ', StOk φ' c s' a' w' ro ∧ Step φ s.H.get s.x w φ' s'.H.get s'.x w'

structure RecOk (P : Program) (rec : Rec) : Prop where
  plain : ∀ c code s e s', rec c code s = .ok e s' → c.rv = false → ∀ φ a w ro n, StOk φ c s a w ro → code.wpIn (FW ro) n P (Post φ c s w ro e s') a w
  rv : ∀ c code s e s', rec c code s = .ok e s' → c.rv = true → ∀ φ a w cs, recoverD cs = none → StOk φ c s a w none → code.wpS P (fun ex a' cs' w' => cs' = cs ∧ Post φ c s w none e s' ex a' w') a cs w

/-- A specification of a function, told outright. -/
def SpecOk (P : Program) (f : FuncId) (sp : ASpec) : Prop :=
  ∀ args vals H x v H' x' φ w ro n, sp args H x = .ok v H' x' → Rel φ H.get x w → Fresh φ x → VRs φ args vals → Goes ro n P ((callFunc f vals.toArray).run P w) (Ret φ H x w v H' x')

def XtOk (E : Env) : Prop := ∀ f sp, specOf f E.xt = some sp → SpecOk E.P f sp

/-- A function's contract. -/
def CallOk (P : Program) (f : FuncId) (vals : Array Value) (w : World) (n : Nat) (R : Value → World → Prop) : Prop :=
  CallsIn (FW none) n P f vals w fun
    | .returned v, w' => R v w'
    | _, _ => False

theorem CallOk.goes {f : FuncId} {vals : Array Value} {R : Value → World → Prop} (h : ∀ n, CallOk P f vals w n R) : Goes ro n P (.ok (.enter f vals) w) R := by
  intro o a next Q hn
  rw [Oper.uponIn_enter]
  refine ⟨noDepth, ?_⟩
  have h1 : CallsIn (FW ro) (n - 1) P f vals w (fun | .returned v, w' => R v w' | _, _ => False) := h (n - 1)
  refine CallsIn.mono h1 fun e w'' he => ?_
  cases e with
  | returned v => exact hn v w'' he
  | panicked c => exact he.elim
  | outgrown => exact he.elim

end Go.Ce
