/- The abstract evaluator 'Ce': builtins, calls, methods: what an operation comes to, inside the calculus. -/
import Derived.Test.YtiellonfgcmaaaaGreatCeN
import Derived.Recover
set_option linter.unusedVariables false
set_option linter.unusedSimpArgs false
set_option linter.unusedSectionVars false
namespace Go.Ce
variable {P : Program} {φ : PM} {w : World} {H H' : Hp} {x x' : Nat} {v : AV} {n : Nat} {ro : Option Nat}

/-- The fence that lets all in; 'ro': in a round of which loop. -/
abbrev FW (ro : Option Nat) : Fence := { Fence.wide with round := ro }

theorem noDepth {ro : Option Nat} {n : Nat} : (FW ro).depth.isSome = true → 1 ≤ n := fun e => Bool.noConfusion (show false = true from e)

/-- What an operation's result leads to: a value, or a panic. -/
def Goes (ro : Option Nat) (n : Nat) (P : Program) (res : Result Next) (R : Value → World → Prop) (Rp : List PanicEntry → World → Prop) : Prop :=
  ∀ (o : Oper) (a : Act) (next : Act → World → Prop) (Q : Exit → Act → World → Prop), (∀ val w', R val w' → next (a.put o.dst val) w') → (∀ ch w', Rp ch w' → Q (.panic ch) a w') → o.uponIn (FW ro) n P a next Q res

/-- What comes back: a value and a world. -/
def Ret (φ : PM) (H : Hp) (x : Nat) (w : World) (v : AV) (H' : Hp) (x' : Nat) : Value → World → Prop :=
  fun val w' => ∃ φ', VR φ' v val ∧ Step φ H.get x w φ' H'.get x' w'

abbrev Fresh (φ : PM) (x : Nat) : Prop := ∀ n, x ≤ n → φ n = none

theorem Step.fresh {φ φ' : PM} {h h' : HF} {x x' : Nat} {w w' : World} (s : Step φ h x w φ' h' x' w') (f : Fresh φ x) : Fresh φ' x' := fun n hn => by
  rw [s.dom n (.inr hn)]; exact f n (Nat.le_trans s.le hn)

/-- A panic's value and the chain that it begins. -/
inductive PanV (φ : PM) : AV → List PanicEntry → Prop
  | mk {t : TypeId} {u : AV} {val : Value} (h : VR φ (.iface t u) val) : PanV φ (.iface t u) [{ v := val, recovered := false }]

theorem PanV.mono {φ φ' : PM} (e : Ext φ φ') {v : AV} {ch : List PanicEntry} (h : PanV φ v ch) : PanV φ' v ch := by
  cases h with | mk h => exact .mk (h.mono e)

/-- One of the values that may come back. -/
def RetR (φ : PM) (H : Hp) (x : Nat) (w : World) (r : O3) : Value → World → Prop := fun val w' => ∃ v H' x', InO r v H' x' ∧ Ret φ H x w v H' x' val w'
/-- The panic that comes back. -/
def PanR (φ : PM) (H : Hp) (x : Nat) (w : World) (r : O3) : List PanicEntry → World → Prop := fun ch w' => ∃ v H' x' φ', r = .pan v H' x' ∧ PanV φ' v ch ∧ Step φ H.get x w φ' H'.get x' w'

abbrev GoesR (ro : Option Nat) (n : Nat) (P : Program) (res : Result Next) (φ : PM) (H : Hp) (x : Nat) (w : World) (r : O3) : Prop := Goes ro n P res (RetR φ H x w r) (PanR φ H x w r)

def O3.good (r : O3) : Prop := ∀ c, r ≠ .no c

theorem OpRun.goes {S : Sem Next} {Rp : List PanicEntry → World → Prop} (h : OpRun P φ H x w S v H' x') : Goes ro n P (S.run P w) (Ret φ H x w v H' x') Rp := by
  obtain ⟨φ', w', nx, val, h1, h2, h3, h4⟩ := h
  intro o a next Q hn _
  rw [h1]
  rcases h2 with rfl | ⟨rfl, rfl⟩
  · exact hn val w' ⟨φ', h3, h4⟩
  · exact hn undef w' ⟨φ', h3, h4⟩

theorem Goes.mono {res : Result Next} {R R' : Value → World → Prop} {Rp Rp' : List PanicEntry → World → Prop} (h : Goes ro n P res R Rp) (hr : ∀ v w, R v w → R' v w) (hp : ∀ c w, Rp c w → Rp' c w) : Goes ro n P res R' Rp' :=
  fun o a next Q hn hq => h o a next Q (fun v w hv => hn v w (hr v w hv)) (fun c w hc => hq c w (hp c w hc))

theorem Goes.inR {res : Result Next} {r : O3} (hin : InO r v H' x') (h : ∀ {Rp}, Goes ro n P res (Ret φ H x w v H' x') Rp) : GoesR ro n P res φ H x w r :=
  Goes.mono (Rp := fun _ _ => False) h (fun _ _ hv => ⟨v, H', x', hin, hv⟩) (fun _ _ h => h.elim)

/-- Where there is one way alone. -/
theorem Goes.one {res : Result Next} {Rp : List PanicEntry → World → Prop} (h : GoesR ro n P res φ H x w (.ok v H' x')) : Goes ro n P res (Ret φ H x w v H' x') Rp :=
  h.mono (fun _ _ ⟨_, _, _, hin, hv⟩ => by obtain ⟨rfl, rfl, rfl⟩ := hin; exact hv) (fun _ _ ⟨_, _, _, _, e, _⟩ => by cases e)

/-! ### Builtins -/

theorem VRs.one {a : AV} {vs : List Value} (h : VRs φ [a] vs) : ∃ u, vs = [u] ∧ VR φ a u := by
  cases h with | cons h t => cases t; exact ⟨_, rfl, h⟩
theorem VRs.two {a b : AV} {vs : List Value} (h : VRs φ [a, b] vs) : ∃ u v, vs = [u, v] ∧ VR φ a u ∧ VR φ b v := by
  cases h with | cons h t => obtain ⟨v, rfl, hv⟩ := t.one; exact ⟨_, _, rfl, h, hv⟩

theorem allPlain_app : ∀ {l m : List AV}, allPlain l = true → allPlain m = true → allPlain (l ++ m) = true := by
  intro l
  induction l with
  | nil => intro m _ h; exact h
  | cons a l ih =>
    intro m h hm
    have h1 : (Bool.rec false (allPlain l) a.plain : Bool) = true := h
    show (Bool.rec false (allPlain (l ++ m)) a.plain : Bool) = true
    cases ha : a.plain with
    | false => rw [ha] at h1; cases h1
    | true => rw [ha] at h1; exact ih h1 hm

theorem allPlain_rep {z : List AV} (h : allPlain z = true) (n : Nat) : allPlain (repS n z []) = true := by
  rw [repS_eq, List.append_nil]
  induction n with
  | zero => rfl
  | succ n ih => rw [List.replicate_succ, List.flatten_cons]; exact allPlain_app h ih

theorem clearA_ok (r : Rel φ H.get x w) {t ty : TypeId} {ts : Array TypeId} (ht : ts[0]? = some t) {a : AV} {av : Value} (h : clearA P H t a = .ok H') (ha : VR φ a av) :
    ∃ w', (Builtin.clear_ ts ty #[av]).run P w = .ok (.tuple #[]) w' ∧ Step φ H.get x w φ H'.get x w' := by
  have harg : (#[av] : Array Value)[0]? = some av := rfl
  unfold clearA at h
  obtain ⟨el, hel, h2⟩ := R.bind_ok h
  have hu := elemA_ok hel
  unfold Builtin.clear_
  split at h2
  · cases h2
  · rename_i inf hi
    split at h2
    · cases h2; cases ha
      exact ⟨w, by simp only [ht, harg, Sem.run_bind, run_underlying hu, Result.andThen_ok, Sem.run_pure], .refl r⟩
    · cases h2; cases ha
      exact ⟨w, by simp only [ht, harg, Sem.run_bind, run_underlying hu, Result.andThen_ok, Sem.run_pure], .refl r⟩
    · rename_i m o len lb ex es
      cases ha with
      | slice hφ _ _ _ =>
        cases hl : Nat.beq len 0 with
        | true =>
          rw [hl, cond_true] at h2
          cases h2
          have := beqT hl
          subst this
          exact ⟨w, by simp only [ht, harg, Sem.run_bind, run_underlying hu, Result.andThen_ok, Sem.run_pure], .refl r⟩
        | false =>
          rw [hl, cond_false] at h2
          have hl := beqN hl
          split at h2
          · cases h2
          · rename_i z hz
            obtain ⟨hj, h3⟩ := cond_ok' h2
            obtain ⟨_, h4⟩ := cond_ok h3
            obtain ⟨_, h5⟩ := cond_ok h4
            have hcs := (VR.ofVal φ z).cells hj
            have hz2 := zeros_eq z.cells len z.cells.size rfl
            have hrow : VRs φ (repS len (ofVal z).cells []) (Builtin.zeroCells z.cells len).toList := by
              rw [repS_eq, List.append_nil]
              unfold Builtin.zeroCells
              rw [hz2]
              exact hcs.replicate len
            have hp : allPlain (repS len (ofVal z).cells []) = true := allPlain_rep (by assumption) len
            obtain ⟨w', hr, hst⟩ := writeA_ok (P := P) r h5 hp hrow hφ
            refine ⟨w', ?_, hst⟩
            cases len with
            | zero => exact absurd rfl hl
            | succ len => simp only [ht, harg, Sem.run_bind, run_underlying hu, run_zeroValue hi hz, Result.andThen_ok, hr, Sem.run_pure]
    · cases h2

theorem builtinA_ok (r : Rel φ H.get x w) (hf : φ x = none) {b : Builtin} {ts : Array TypeId} {ty : TypeId} {cs : Array Bool} {args : List AV} {vs : List Value} (h : builtinA P H x b ts.toList args = .ok v H' x') (hargs : VRs φ args vs) :
    OpRun P φ H x w (builtin b ts ty cs vs.toArray) v H' x' := by
  have hts0 : ∀ {t l}, ts.toList = t :: l → ts[0]? = some t := fun {t l} e => by rw [← Array.getElem?_toList, e]; rfl
  have hts1 : ∀ {t u l}, ts.toList = t :: u :: l → ts[1]? = some u := fun {t u l} e => by rw [← Array.getElem?_toList, e]; rfl
  unfold builtinA at h
  split at h
  · rename_i t l a hts
    obtain ⟨u, rfl, hu⟩ := hargs.one
    obtain ⟨h2, rfl, rfl⟩ := toO_ok h
    exact (VRun.pure r (lenA_ok r (hts0 hts) h2 hu)).op
  · rename_i t l a hts
    obtain ⟨u, rfl, hu⟩ := hargs.one
    obtain ⟨h2, rfl, rfl⟩ := toO_ok h
    exact (VRun.pure r (capA_ok (hts0 hts) h2 hu)).op
  · rename_i t u l s y hts
    obtain ⟨sv, yv, rfl, hs, hy⟩ := hargs.two
    exact (appendA_ok r hf (hts0 hts) (hts1 hts) h hs hy).op
  · rename_i t l d s hts
    obtain ⟨dv, sv, rfl, hd, hs⟩ := hargs.two
    obtain ⟨q, hq, h2⟩ := casesO_ok h
    cases h2
    exact (copyA_ok r (hts0 hts) hq hd hs).op
  · rename_i t l m k hts
    obtain ⟨mv, kv, rfl, hm, hk⟩ := hargs.two
    obtain ⟨q, hq, h2⟩ := casesO_ok h
    cases h2
    obtain ⟨φ', w', h3, h4⟩ := deleteA_ok (ty := ty) r (hts0 hts) hq hm hk
    exact VRun.op ⟨φ', w', .tuple #[], h3, .tup .nil, h4⟩
  · rename_i t l a hts
    obtain ⟨u, rfl, hu⟩ := hargs.one
    obtain ⟨H2, hc, h2⟩ := casesO_ok h
    cases h2
    obtain ⟨w', h3, h4⟩ := clearA_ok (ty := ty) r (hts0 hts) hc hu
    exact VRun.op ⟨φ, w', .tuple #[], h3, .tup .nil, h4⟩
  · rename_i a l
    obtain ⟨_, h2⟩ := condO_ok h
    obtain ⟨h3, rfl, rfl⟩ := toO_ok h2
    cases hargs with
    | cons ha hl =>
      obtain ⟨val, h4, h5⟩ := minmaxA_ok (P := P) (w := w) h3 ha hl
      exact (VRun.pure r ⟨val, h4, h5⟩).op
  · rename_i a l
    obtain ⟨_, h2⟩ := condO_ok h
    obtain ⟨h3, rfl, rfl⟩ := toO_ok h2
    cases hargs with
    | cons ha hl =>
      obtain ⟨val, h4, h5⟩ := minmaxA_ok (P := P) (w := w) h3 ha hl
      exact (VRun.pure r ⟨val, h4, h5⟩).op
  · cases h

/-! ### What the code's evaluator owes -/

/-- What waits for the function's end. -/
inductive DR (φ : PM) : List DE → List Deferred → Prop
  | nil : DR φ [] []
  | cons {m b sz : Nat} {D : List DE} {ds : List Deferred} (h : φ m = some (b, sz)) (t : DR φ D ds) : DR φ (.mark m :: D) ({ target := .collected b, args := #[] } :: ds)
  | call {g : FuncId} {args : List AV} {first cap : List Value} {D : List DE} {ds : List Deferred} (h : VRs φ args (first ++ cap)) (t : DR φ D ds) :
      DR φ (.call g args :: D) ({ target := .fn (.func g) cap.toArray, args := first.toArray } :: ds)

/-- In a round of which loop. -/
inductive RoOk (φ : PM) : Option Nat → Option Nat → Prop
  | none : RoOk φ none none
  | some {l b sz : Nat} (h : φ l = some (b, sz)) : RoOk φ (some l) (some b)

/-- The temporaries, those of the last region too. -/
structure TmpOk (φ : PM) (km nt : Nat) (L : Lo) (T : Tr AV) (tmps : Array Value) : Prop where
  kept : TR φ km T nt tmps
  loc : ∀ t a, lookL L t = some a → Ce.kept km t = false ∧ VR φ a (tmps.getD t undef)

structure StOk (φ : PM) (c : Ctx) (s : St) (a : Act) (w : World) (ro : Option Nat) : Prop where
  rel : Rel φ s.H.get s.x w
  fresh : Fresh φ s.x
  tmps : TmpOk φ c.km c.nt s.L s.T a.tmps
  defers : DR φ s.D a.defers
  ro : RoOk φ c.ro ro

inductive ExR (φ : PM) : AE → Exit → Prop
  | normal : ExR φ .normal .normal
  | exit (id : Nat) : ExR φ (.exit id) (.exit id)
  | ret : ExR φ .ret .ret
  | pan {v : AV} {ch : List PanicEntry} (h : PanV φ v ch) : ExR φ (.pan v) (.panic ch)

/-- What code comes to. -/
def Post (φ : PM) (c : Ctx) (s : St) (w : World) (ro : Option Nat) (e : AE) (s' : St) : Exit → Act → World → Prop :=
  fun ex a' w' => ∃ φ', ExR φ' e ex ∧ StOk φ' c s' a' w' ro ∧ Step φ s.H.get s.x w φ' s'.H.get s'.x w'

/-- One of the ends. -/
def InX (r : X2) (e : AE) (s : St) : Prop :=
  match r with
  | .ok e' s' => e = e' ∧ s = s'
  | .no _ => False
  | .or l => (e, s) ∈ l

def X2.good (r : X2) : Prop := ∀ c, r ≠ .no c

def PostX (φ : PM) (c : Ctx) (s : St) (w : World) (ro : Option Nat) (r : X2) : Exit → Act → World → Prop :=
  fun ex a' w' => ∃ e s', InX r e s' ∧ Post φ c s w ro e s' ex a' w'

/-- A state with nothing that waits. -/
def bareD (s : St) : St := ⟨s.L, s.T, [], s.H, s.x⟩

/-- In a deferred call: the panic that it may recover, as the caller's mode has it. -/
def ModeOk (φ : PM) (D : List DE) (m : FrameMode) : Prop :=
  (D = [] ∧ (m = .returning ∨ ∃ val, m = .panicking [{ v := val, recovered := true }])) ∨ ∃ v ch, D = [.pan v] ∧ PanV φ v ch ∧ m = .panicking ch

structure RecOk (P : Program) (rec : Rec) : Prop where
  plain : ∀ c code s, (rec c code s).good → c.rv = false → ∀ φ a w ro n, StOk φ c s a w ro → code.wpIn (FW ro) n P (PostX φ c s w ro (rec c code s)) a w
  rv : ∀ c code s e s', rec c code s = .ok e s' → c.rv = true → ∀ (φ : PM) (a : Act) (w : World) (c₀ : Frame) (cs : List Frame) (m : FrameMode), ModeOk φ s.D m → StOk φ c (bareD s) a w none →
    code.wpS P (fun ex a' cs' w' => ∃ φ' m', cs' = { c₀ with mode := m' } :: cs ∧ ModeOk φ' s'.D m' ∧ ExR φ' e ex ∧ StOk φ' c (bareD s') a' w' none ∧ Step φ s.H.get s.x w φ' s'.H.get s'.x w') a ({ c₀ with mode := m } :: cs) w

/-- A specification of a function, told outright. -/
def SpecOk (P : Program) (f : FuncId) (sp : ASpec) : Prop :=
  ∀ args vals H x v H' x' φ w ro n, sp args H x = .ok v H' x' → Rel φ H.get x w → Fresh φ x → VRs φ args vals → ∀ {Rp}, Goes ro n P ((callFunc f vals.toArray).run P w) (Ret φ H x w v H' x') Rp

def XtOk (E : Env) : Prop := ∀ f sp, specOf f E.xt = some sp → SpecOk E.P f sp

/-- A function's contract. -/
def CallOk (P : Program) (f : FuncId) (vals : Array Value) (w : World) (n : Nat) (R : Value → World → Prop) (Rp : List PanicEntry → World → Prop) : Prop :=
  CallsIn (FW none) n P f vals w fun
    | .returned v, w' => R v w'
    | .panicked ch, w' => Rp ch w'
    | .outgrown, _ => False

theorem CallOk.goes {f : FuncId} {vals : Array Value} {R : Value → World → Prop} {Rp : List PanicEntry → World → Prop} (h : ∀ n, CallOk P f vals w n R Rp) : Goes ro n P (.ok (.enter f vals) w) R Rp := by
  intro o a next Q hn hq
  rw [Oper.uponIn_enter]
  refine ⟨noDepth, ?_⟩
  have h1 : CallsIn (FW ro) (n - 1) P f vals w (fun | .returned v, w' => R v w' | .panicked ch, w' => Rp ch w' | .outgrown, _ => False) := h (n - 1)
  refine CallsIn.mono h1 fun e w'' he => ?_
  cases e with
  | returned v => exact hn v w'' he
  | panicked c => exact hq c w'' he
  | outgrown => exact he.elim

/-! ### One of several -/

theorem listX_ok {r : X2} {l : List (AE × St)} (h : listX r = .ok l) : r.good ∧ ∀ e s, InX r e s → (e, s) ∈ l := by
  cases r with
  | ok e s => cases h; exact ⟨fun c e => (by cases e), fun e' s' h => by obtain ⟨rfl, rfl⟩ := h; exact List.mem_cons_self ..⟩
  | no c => cases h
  | or l' => cases h; exact ⟨fun c e => (by cases e), fun e' s' h => h⟩

theorem orX_ok {α : Type} {f : α → X2} : ∀ {l : List α} {out : List (AE × St)}, orX f l = .ok out → ∀ q ∈ l, (f q).good ∧ ∀ e s, InX (f q) e s → (e, s) ∈ out := by
  intro l
  induction l with
  | nil => intro out _ q h; cases h
  | cons a l ih =>
    intro out h q hq
    obtain ⟨u, hu, h2⟩ := R.bind_ok (show (listX (f a)).bind (fun a => (orX f l).bind fun b => .ok (a ++ b)) = _ from h)
    obtain ⟨b, hb, h3⟩ := R.bind_ok h2
    cases h3
    cases hq with
    | head => have := listX_ok hu; exact ⟨this.1, fun e s h => List.mem_append_left _ (this.2 e s h)⟩
    | tail _ hq => have := ih hb q hq; exact ⟨this.1, fun e s h => List.mem_append_right _ (this.2 e s h)⟩

theorem orXX_in {α : Type} {f : α → X2} {l : List α} (h : (orXX f l).good) {q : α} (hq : q ∈ l) : (f q).good ∧ ∀ e s, InX (f q) e s → InX (orXX f l) e s := by
  unfold orXX at h ⊢
  cases ho : orX f l with
  | no c => rw [ho] at h; exact absurd rfl (h c)
  | ok out => exact orX_ok ho q hq

theorem goX_good {r : X2} {f : AE → St → X2} (h : (goX r f).good) : r.good := by
  cases r with
  | ok e s => exact fun c e => by cases e
  | no c => exact absurd rfl (h c)
  | or l => exact fun c e => by cases e

/-- Going on from one of the ends. -/
theorem goX_in {r : X2} {f : AE → St → X2} (h : (goX r f).good) {e : AE} {s : St} (hin : InX r e s) : (f e s).good ∧ ∀ e' s', InX (f e s) e' s' → InX (goX r f) e' s' := by
  cases r with
  | ok e0 s0 => obtain ⟨rfl, rfl⟩ := hin; exact ⟨h, fun e' s' h => h⟩
  | no c => exact hin.elim
  | or l => exact orXX_in (f := fun q : AE × St => f q.1 q.2) h hin

theorem goX_ok {r : X2} {f : AE → St → X2} {e' : AE} {s' : St} (h : goX r f = .ok e' s') : ∃ e s, r = .ok e s ∧ f e s = .ok e' s' := by
  cases r with
  | ok e s => exact ⟨e, s, rfl, h⟩
  | no c => cases h
  | or l =>
    have h : orXX (fun q : AE × St => f q.1 q.2) l = .ok e' s' := h
    unfold orXX at h
    cases ho : orX (fun q : AE × St => f q.1 q.2) l <;> rw [ho] at h <;> cases h

/-- What one may leave, the other may. -/
def SubO (a b : O3) : Prop := (∀ v H x, InO a v H x → InO b v H x) ∧ ∀ v H x, a = .pan v H x → b = .pan v H x

theorem SubO.refl (a : O3) : SubO a a := ⟨fun _ _ _ h => h, fun _ _ _ h => h⟩

theorem GoesR.sub {res : Result Next} {a b : O3} (hs : SubO a b) (h : GoesR ro n P res φ H x w a) : GoesR ro n P res φ H x w b :=
  Goes.mono h (fun _ _ ⟨v, H', x', h1, h2⟩ => ⟨v, H', x', hs.1 _ _ _ h1, h2⟩) (fun _ _ ⟨v, H', x', φ', h1, h2⟩ => ⟨v, H', x', φ', hs.2 _ _ _ h1, h2⟩)

theorem listO_ok {r : O3} {l : List (AV × Hp × Nat)} (h : listO r = .ok l) : r.good ∧ (∀ v H x, InO r v H x → (v, H, x) ∈ l) ∧ ∀ v H x, r ≠ .pan v H x := by
  cases r with
  | ok v H x => cases h; exact ⟨fun c e => (by cases e), fun v' H' x' h => by obtain ⟨rfl, rfl, rfl⟩ := h; exact List.mem_cons_self .., fun _ _ _ e => by cases e⟩
  | no c => cases h
  | pan v H x => cases h
  | or l' => cases h; exact ⟨fun c e => (by cases e), fun _ _ _ h => h, fun _ _ _ e => by cases e⟩

theorem orO_ok {α : Type} {f : α → O3} : ∀ {l : List α} {out : List (AV × Hp × Nat)}, orO f l = .ok out → ∀ q ∈ l, (f q).good ∧ (∀ v H x, InO (f q) v H x → (v, H, x) ∈ out) ∧ ∀ v H x, f q ≠ .pan v H x := by
  intro l
  induction l with
  | nil => intro out _ q h; cases h
  | cons a l ih =>
    intro out h q hq
    obtain ⟨u, hu, h2⟩ := R.bind_ok (show (listO (f a)).bind (fun a => (orO f l).bind fun b => .ok (a ++ b)) = _ from h)
    obtain ⟨b, hb, h3⟩ := R.bind_ok h2
    cases h3
    cases hq with
    | head => have := listO_ok hu; exact ⟨this.1, fun v H x h => List.mem_append_left _ (this.2.1 v H x h), this.2.2⟩
    | tail _ hq => have := ih hb q hq; exact ⟨this.1, fun v H x h => List.mem_append_right _ (this.2.1 v H x h), this.2.2⟩

theorem orOO_in {α : Type} {f : α → O3} {l : List α} (h : (orOO f l).good) {q : α} (hq : q ∈ l) : (f q).good ∧ SubO (f q) (orOO f l) := by
  unfold orOO at h ⊢
  cases ho : orO f l with
  | no c => rw [ho] at h; exact absurd rfl (h c)
  | ok out =>
    have := orO_ok ho q hq
    exact ⟨this.1, fun v H x h => this.2.1 v H x h, fun v H x e => absurd e (this.2.2 v H x)⟩

theorem goXO_good {r : X2} {f : AE → St → O3} (h : (goXO r f).good) : r.good := by
  cases r with
  | ok e s => exact fun c e => by cases e
  | no c => exact absurd rfl (h c)
  | or l => exact fun c e => by cases e

theorem goXO_in {r : X2} {f : AE → St → O3} (h : (goXO r f).good) {e : AE} {s : St} (hin : InX r e s) : (f e s).good ∧ SubO (f e s) (goXO r f) := by
  cases r with
  | ok e0 s0 => obtain ⟨rfl, rfl⟩ := hin; exact ⟨h, .refl _⟩
  | no c => exact hin.elim
  | or l => exact orOO_in (f := fun q : AE × St => f q.1 q.2) h hin

theorem goOX_good {r : O3} {f g : AV → Hp → Nat → X2} (h : (goOX r f g).good) : r.good := by
  cases r with
  | no c => exact absurd rfl (h c)
  | _ => exact fun c e => by cases e

theorem goOX_in {r : O3} {f g : AV → Hp → Nat → X2} (h : (goOX r f g).good) {v : AV} {H : Hp} {x : Nat} (hin : InO r v H x) : (f v H x).good ∧ ∀ e s, InX (f v H x) e s → InX (goOX r f g) e s := by
  cases r with
  | ok v0 H0 x0 => obtain ⟨rfl, rfl, rfl⟩ := hin; exact ⟨h, fun e s h => h⟩
  | no c => exact hin.elim
  | pan v H x => exact hin.elim
  | or l => exact orXX_in (f := fun q : AV × Hp × Nat => f q.1 q.2.1 q.2.2) h hin

theorem oneO_ok {r : O3} {f : AV → Hp → Nat → O3} (h : (oneO r f).good) : ∃ v H x, r = .ok v H x ∧ oneO r f = f v H x := by
  cases r with
  | ok v H x => exact ⟨v, H, x, rfl, rfl⟩
  | no c => exact absurd rfl (h c)
  | pan v H x => exact absurd rfl (h 351)
  | or l => exact absurd rfl (h 352)

theorem good_ok {v : AV} {H : Hp} {x : Nat} : (O3.ok v H x).good := fun c e => by cases e
theorem good_pan {v : AV} {H : Hp} {x : Nat} : (O3.pan v H x).good := fun c e => by cases e
theorem good_xok {e : AE} {s : St} : (X2.ok e s).good := fun c e => by cases e

end Go.Ce
