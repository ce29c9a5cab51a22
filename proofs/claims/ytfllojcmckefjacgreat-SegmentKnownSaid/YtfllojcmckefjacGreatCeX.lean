/- The abstract evaluator 'Ce': a call from outside that the evaluator carries out to 'true' returns true, and nothing that was there has turned. -/
import Derived.Test.YtfllojcmckefjacGreatCeW
import Derived.Below
import Derived.Laws.Externs
import Derived.Lib.MakeNoZero
set_option linter.unusedVariables false
set_option linter.unusedSimpArgs false
set_option linter.unusedSectionVars false
namespace Go.Ce
open Go.RowKit
variable {P : Program}

theorem empty_rel (w : World) : Rel (fun _ => none) (Tr.e : Hp).get 0 w :=
  ⟨fun n b h => by simp [Tr.get, Tr.find_e] at h, fun n m y z h => by simp [Tr.get, Tr.find_e] at h, fun n h => by simp [Tr.get, Tr.find_e] at h⟩

theorem isTrue_ok {r : O3} (h : isTrue r = true) : ∃ H x, r = .ok (.bool true) H x := by
  unfold isTrue at h
  split at h
  · exact ⟨_, _, rfl⟩
  · cases h

/-- A function without parameters, which the evaluator carries out to 'true'. -/
theorem closed {E : Env} (hm : P.follows .mixedOrders = true) (hE : E.P = P) (hxt : XtOk E) {k : Nat} {f : FuncId} (hs : specOf f E.xt = none) (h : isTrue (runA E k f []) = true) (w : World) :
    Calls P f #[] w fun e w' => e = .returned (.bool true) ∧ Below w.heap.size w w' := by
  obtain ⟨H, x, hr⟩ := isTrue_ok h
  unfold runA callA at hr
  rw [hs] at hr
  have hrun : bodyCallA E (ex E k) f [] .e 0 = .ok (.bool true) H x := hr
  have hok := (bodyCallA_ok hE (sound hm hE hxt k) (empty_rel w) (fun _ _ => rfl) hrun .nil).2 0
  have hc : CallsIn Fence.wide 0 P f #[] w _ := hok
  refine (callsIn_wide.1 hc).mono fun e w' he => ?_
  cases e with
  | panicked c => exact he.elim
  | outgrown => exact he.elim
  | returned v =>
    obtain ⟨φ', hv, hst⟩ := he
    cases hv
    exact ⟨rfl, hst.os, hst.tape, hst.output, hst.size, fun b hb => hst.frame b hb fun n y hn => by simp [Tr.get, Tr.find_e] at hn⟩

/-- internal/bytealg.MakeNoZero. -/
theorem noZero_ok {f : FuncId} {fn : Func} {t el : TypeId} {ps : Array TypeId} (hf : P.funcs[f]? = some fn) (hname : (fn.name == "runtime.NumGoroutine") = false) (hb : fn.body.isNone = true) (hn : Extern.findNext fn = none)
    (he : Extern.find fn = some (Extern.BytealgMakeNoZero.makeNoZero ps #[t])) (ht : P.underlying t = some (.slice el)) : SpecOk P f (noZeroA el) := by
  intro args vals H x v H' x' φ w ro n h r hfr ha
  unfold noZeroA at h
  split at h
  · rename_i m
    obtain ⟨hle, h2⟩ := condO_ok h
    have hle := bleT hle
    obtain ⟨l, hl, rfl, rfl, rfl⟩ := toN_ok h2
    cases hl
    cases ha with
    | cons h1 h3 =>
      cases h3
      cases h1
      obtain ⟨cs, hr, h4, _⟩ := Lib.run_makeNoZero (P := P) w ps t el ht m (by omega)
      have hrun : (callFunc f ([Value.int .i64 (Int.ofNat m)].toArray)).run P w = .ok (.value (.slice (some ⟨w.heap.size, 0, none⟩) m cs.size)) (w.drew.drew.alloc (.cells cs el)) := by
        rw [run_callFunc_extern hf hname hb hn he]
        show ((Extern.BytealgMakeNoZero.makeNoZero ps #[t] #[.int .i64 (m : Int)]).run P w).andThen _ = _
        rw [hr]; rfl
      rw [hrun]
      intro o a next Q hnext
      refine hnext _ _ ⟨φ.add x (w.heap.size, cs.size), .slice PM.add_self h4 (fun e => by cases e) (by omega), ?_⟩
      have s1 : Step φ H.get x w φ H.get x w.drew.drew := step_heap r rfl rfl rfl rfl
      have hl2 : VRs φ (repS m [.junk] []) (cs.toList.take m) := by
        rw [repS_eq, List.append_nil]
        have key : ∀ (l : List Value), VRs φ (List.replicate l.length [AV.junk]).flatten l := by
          intro l
          induction l with
          | nil => exact .nil
          | cons u l ih => exact .cons (.junk u) ih
        have := key (cs.toList.take m)
        rw [List.length_take, Array.length_toList, Nat.min_eq_left h4] at this
        exact this
      have hb2 : BR (φ.add x (w.drew.drew.heap.size, cs.size)) (w.drew.drew.alloc (.cells cs el)) x (.cells el (repS m [.junk] [])) :=
        .cells PM.add_self (C := cs) (fr := (0, 0)) (alloc_last _ _) rfl (vs := cs.toList.take m) (rest := cs.toList.drop m) (List.take_append_drop m cs.toList).symm (hl2.mono (PM.add_ext (hfr _ (Nat.le_refl _)))) (fun i _ => by simp)
      exact s1.trans (step_new s1.rel (hfr _ (Nat.le_refl _)) (.cells cs el) (.cells el (repS m [.junk] [])) cs.size hb2)
  · cases h

theorem xt_one {P : Program} {f : FuncId} {sp : ASpec} {keep : List Nat} {rc : List FuncId} (h : SpecOk P f sp) : XtOk ⟨P, [(f, sp)], keep, rc⟩ := by
  intro g s hs
  have h1 : (bif Nat.beq f g then some sp else none) = some s := hs
  clear hs
  cases hfg : Nat.beq f g with
  | true =>
    rw [hfg, cond_true] at h1
    have e := beqT hfg
    subst e
    cases h1
    exact h
  | false => rw [hfg] at h1; cases h1

end Go.Ce
