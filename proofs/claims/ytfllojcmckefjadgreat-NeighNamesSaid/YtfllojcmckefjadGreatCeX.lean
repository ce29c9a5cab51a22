/- The abstract evaluator 'Ce': a call from outside that the evaluator carries out to 'true' returns true, and nothing that was there has turned. -/
import Derived.Test.YtfllojcmckefjadGreatCeW
import Derived.Below
import Derived.Laws.Externs
import Derived.Lib.MakeNoZero
set_option linter.unusedVariables false
set_option linter.unusedSimpArgs false
set_option linter.unusedSectionVars false
namespace Go.Ce
open Go.RowKit
variable {P : Program}

theorem empty_rel (w : World) : Rel (fun _ => none) (Tr.e : Hp).get 0 w :=
  ⟨fun n b h => by simp [Tr.get, Tr.find_e] at h, fun n m y z h => by simp [Tr.get, Tr.find_e] at h, fun n h => by simp [Tr.get, Tr.find_e] at h⟩

theorem isTrue_ok {r : O3} (h : isTrue r = true) : ∃ H x, r = .ok (.bool true) H x := by
  unfold isTrue at h
  split at h
  · exact ⟨_, _, rfl⟩
  · cases h

/-- A function without parameters, which the evaluator carries out to 'true'. -/
theorem closed {E : Env} (hm : P.follows .mixedOrders = true) (hE : E.P = P) (hxt : XtOk E) {k : Nat} {f : FuncId} (hs : specOf f E.xt = none) (hfk : hasF f E.fk = false) (h : isTrue (runA E k f []) = true) (w : World) :
    Calls P f #[] w fun e w' => e = .returned (.bool true) ∧ Below w.heap.size w w' := by
  obtain ⟨H, x, hr⟩ := isTrue_ok h
  unfold runA callA at hr
  rw [hs] at hr
  have hr : bareCallA E (ex E k) f [] .e 0 = .ok (.bool true) H x := hr
  unfold bareCallA at hr
  rw [hfk, cond_false] at hr
  have hok := (bodyCallA_ok hE (sound hm hE hxt k) (empty_rel w) (fun _ _ => rfl) (by rw [hr]; exact good_ok) .nil).2 0
  rw [hr] at hok
  have hc : CallsIn Fence.wide 0 P f #[] w _ := hok
  refine (callsIn_wide.1 hc).mono fun e w' he => ?_
  cases e with
  | panicked c => obtain ⟨v, H', x', φ', he, _⟩ := he; cases he
  | outgrown => exact he.elim
  | returned v =>
    obtain ⟨v', H', x', ⟨rfl, rfl, rfl⟩, φ', hv, hst⟩ := he
    cases hv
    exact ⟨rfl, hst.os, hst.tape, hst.output, hst.size, fun b hb => hst.frame b hb fun n y hn => by simp [Tr.get, Tr.find_e] at hn⟩

/-- internal/bytealg.MakeNoZero. -/
theorem noZero_ok {f : FuncId} {fn : Func} {t el : TypeId} {ps : Array TypeId} (hf : P.funcs[f]? = some fn) (hname : (fn.name == "runtime.NumGoroutine") = false) (hb : fn.body.isNone = true) (hn : Extern.findNext fn = none)
    (he : Extern.find fn = some (Extern.BytealgMakeNoZero.makeNoZero ps #[t])) (ht : P.underlying t = some (.slice el)) : SpecOk P f (noZeroA el) := by
  intro args vals H x v H' x' φ w ro n h r hfr ha Rp
  unfold noZeroA at h
  split at h
  · rename_i m
    obtain ⟨hle, h2⟩ := condO_ok h
    have hle := bleT hle
    obtain ⟨l, hl, rfl, rfl, rfl⟩ := toN_ok h2
    cases hl
    cases ha with
    | cons h1 h3 =>
      cases h3
      cases h1
      obtain ⟨cs, hr, h4, _⟩ := Lib.run_makeNoZero (P := P) w ps t el ht m (by omega)
      have hrun : (callFunc f ([Value.int .i64 (Int.ofNat m)].toArray)).run P w = .ok (.value (.slice (some ⟨w.heap.size, 0, none⟩) m cs.size)) (w.drew.drew.alloc (.cells cs el)) := by
        rw [run_callFunc_extern hf hname hb hn he]
        show ((Extern.BytealgMakeNoZero.makeNoZero ps #[t] #[.int .i64 (m : Int)]).run P w).andThen _ = _
        rw [hr]; rfl
      rw [hrun]
      intro o a next Q hnext _
      refine hnext _ _ ⟨φ.add x (w.heap.size, cs.size), .slice PM.add_self h4 (fun e => by cases e) (by omega), ?_⟩
      have s1 : Step φ H.get x w φ H.get x w.drew.drew := step_heap r rfl rfl rfl rfl
      have hl2 : VRs φ (repS m [.junk] []) (cs.toList.take m) := by
        rw [repS_eq, List.append_nil]
        have key : ∀ (l : List Value), VRs φ (List.replicate l.length [AV.junk]).flatten l := by
          intro l
          induction l with
          | nil => exact .nil
          | cons u l ih => exact .cons (.junk u) ih
        have := key (cs.toList.take m)
        rw [List.length_take, Array.length_toList, Nat.min_eq_left h4] at this
        exact this
      have hb2 : BR (φ.add x (w.drew.drew.heap.size, cs.size)) (w.drew.drew.alloc (.cells cs el)) x (.cells el (repS m [.junk] [])) :=
        .cells PM.add_self (C := cs) (fr := (0, 0)) (alloc_last _ _) rfl (vs := cs.toList.take m) (rest := cs.toList.drop m) (List.take_append_drop m cs.toList).symm (hl2.mono (PM.add_ext (hfr _ (Nat.le_refl _)))) (fun i _ => by simp)
      exact s1.trans (step_new s1.rel (hfr _ (Nat.le_refl _)) (.cells cs el) (.cells el (repS m [.junk] [])) cs.size hb2)
  · cases h

theorem xt_all {P : Program} {keep : List Nat} {rc fk : List FuncId} : ∀ {xt : List (FuncId × ASpec)}, (∀ q ∈ xt, SpecOk P q.1 q.2) → XtOk ⟨P, xt, keep, rc, fk⟩ := by
  intro xt hall f sp hs
  have key : ∀ {l : List (FuncId × ASpec)}, specOf f l = some sp → ∃ q ∈ l, q.1 = f ∧ q.2 = sp := by
    intro l
    induction l with
    | nil => intro h; cases h
    | cons q l ih =>
      obtain ⟨g, s⟩ := q
      intro h
      have h : (bif Nat.beq g f then some s else specOf f l) = some sp := h
      cases hg : Nat.beq g f with
      | true => rw [hg, cond_true] at h; cases h; exact ⟨_, List.mem_cons_self .., beqT hg, rfl⟩
      | false =>
        rw [hg, cond_false] at h
        obtain ⟨q, h1, h2⟩ := ih h
        exact ⟨q, List.mem_cons_of_mem _ h1, h2⟩
  obtain ⟨q, hq, rfl, rfl⟩ := key hs
  exact hall q hq

end Go.Ce
