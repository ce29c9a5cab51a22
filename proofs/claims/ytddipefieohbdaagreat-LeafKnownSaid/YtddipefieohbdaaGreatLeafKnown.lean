/- 'LeafKnown' returns true, whatever the world that it begins in, and leaves all that was there as it was. There are no conditions.
  The row's step is the guide's template (proof-skeleton); the walk is the abstract evaluator's run, in the kernel, by the evaluator's soundness. -/
import Derived.Test.YtddipefieohbdaaGreatRows
import Derived.WalkKit
import Derived.ProofKit
import Derived.OpenShut
import Derived.Below
import Derived.Test.YtddipefieohbdaaGreatCeX
import Derived.Test.YtddipefieohbdaaGreatRunLeafKnown
namespace Go.Proofs.YtddipefieohbdaaGreat.leafKnown
open Go.ChangeShapes Go.WideShapes Go.ChangeAt Go.RowKit
set_option linter.unusedVariables false      -- a walk need not use every 'w<i>' (that an integer argument fits its kind)

theorem own : ownKnob Tryz.prog.godebug = none := by kernel_rfl

set_option maxHeartbeats 4000000 in
set_option maxRecDepth 100000 in
theorem cmp_ok : Ce.SpecOk Tryz.prog 416 Ce.cmpA :=
  Ce.cmp_ok Tryz.func416 (by kernel_rfl) (by kernel_rfl) (by kernel_rfl) (by kernel_rfl)

set_option maxHeartbeats 4000000 in
set_option maxRecDepth 100000 in
theorem all0 : ∀ q ∈ MemoLeafKnown.xt0, Ce.SpecOk Tryz.prog q.1 q.2 := (Ce.all_cons cmp_ok Ce.all_nil)

set_option maxHeartbeats 4000000 in
set_option maxRecDepth 100000 in
theorem all1 : ∀ q ∈ MemoLeafKnown.xt1, Ce.SpecOk Tryz.prog q.1 q.2 := Ce.all_cons (Ce.memo_spec (Ce.good_cons (Ce.memo_good Tryz.checked.mixed rfl (Ce.xt_all all0) MemoLeafKnown.e39_0_ok) (Ce.good_cons (Ce.memo_good Tryz.checked.mixed rfl (Ce.xt_all all0) MemoLeafKnown.e39_1_ok) (Ce.good_cons (Ce.memo_good Tryz.checked.mixed rfl (Ce.xt_all all0) MemoLeafKnown.e39_2_ok) (Ce.good_cons (Ce.memo_good Tryz.checked.mixed rfl (Ce.xt_all all0) MemoLeafKnown.e39_3_ok) Ce.good_nil))))) all0

set_option maxHeartbeats 4000000 in
set_option maxRecDepth 100000 in
theorem all2 : ∀ q ∈ MemoLeafKnown.xt2, Ce.SpecOk Tryz.prog q.1 q.2 := Ce.all_cons (Ce.memo_spec (Ce.good_cons (Ce.memo_good Tryz.checked.mixed rfl (Ce.xt_all all1) MemoLeafKnown.e13_0_ok) Ce.good_nil)) all1

set_option maxHeartbeats 4000000 in
set_option maxRecDepth 100000 in
/-- The walk: the evaluator's run, and its soundness. -/
theorem walk (w : World) : Calls Tryz.prog 3 #[] w fun e w' => e = .returned (.bool true) ∧ Below w.heap.size w w' :=
  Ce.closed (E := MemoLeafKnown.env2) (k := 100000) Tryz.checked.mixed rfl (Ce.xt_all all2) rfl rfl RunLeafKnown.run w

/-! ### THE ROW's STEP: WRITTEN OUT: LEAVE IT -/
set_option maxRecDepth 100000 in
theorem lifted (os : Os) (started : os.Started) (H : Type) (enc : TypeId × Value → H) :
    ReturnsInHanded {} Tryz.checked os 3 .any (Rows.leafKnownSpec.pre6 enc Tryz.prog Tryz.f3 Rows.leafKnownRow.domain false) (Rows.leafKnownSpec.post enc Tryz.prog Tryz.f3 false true false false) := by
  refine returnsInHanded_of_change (C := Tryz.checked) own started (by kernel_rfl) Tryz.func3
    (ChangeSpec.witness6 (enc := enc) (C := Tryz.checked) false ⟨#[], #[], []⟩ 8 (by kernel_rfl) (by kernel_rfl) (by kernel_rfl) (by kernel_rfl)) ?_
  intro W base args ds gs before hval0 hW hcnd _
  have hval : ∀ (j : Nat) t v, Tryz.f3.params[j]? = some t → args[j]? = some v → Value.okWide Tryz.prog W .any base t v := hval0
  have hW' := hW
  obtain ⟨p, q, hA0, hV, rfl, hfz, hnd⟩ := hW
  have hA : DataW.TrodAll enc Tryz.prog W 0 (fun _ => true) true Tryz.f3.params.toList args.toList ds p := hA0
  rw [Tryz.params3] at hA hval
  obtain ⟨rfl, rfl, rfl⟩ := trodAll_none hA
  obtain ⟨rfl, rfl⟩ := trodVars_none hV
  clear hA0 hval0
  simp only [List.append_nil] at hW'
  refine (walk W).mono fun e W' he => ?_
  obtain ⟨rfl, hb⟩ := he
  exact ⟨_, rfl, _, _, _, [], [], [], hW', trodAll_cons_mk (shut_bool Tryz.underlying4 _) trodAll_mk0, trodAll_mk0, rfl, hb.frame _, fun h => by cases h⟩

theorem andB {a b : Bool} (ha : a = true) (hb : b = true) : (a && b) = true := by rw [ha, hb]; rfl

set_option maxHeartbeats 8000000 in
/-- The row's closed facts, one by one. -/
theorem facts : joinedFacts Tryz.prog 3 Tryz.f3 Rows.leafKnownSpec Rows.leafKnownRow = true := by
  unfold joinedFacts
  repeat' (with_reducible refine andB ?_ ?_)
  all_goals (as_aux_lemma => kernel_rfl)

set_option maxHeartbeats 8000000 in
theorem over : Rows.leafKnownRow.holds Tryz.pinned (OpenSpec.ofChange Rows.leafKnownSpec) :=
  OpenClaim.holds_of_wide 3 Tryz.f3 rfl rfl rfl rfl rfl rfl rfl ⟨rfl, rfl, rfl, rfl, rfl⟩ rfl rfl rfl rfl rfl (by as_aux_lemma => kernel_rfl) Tryz.func3 facts
    (of_decide_eq_true (by as_aux_lemma => kernel_rfl)) (by unfold Func.isWrapper; first | (rw [if_pos (by decide +kernel)]; kernel_rfl) | (rw [if_neg (by decide +kernel)]; exact ⟨rfl, rfl⟩))
    (fun os started H enc _ => lifted os started H enc)

/-- ████ THE STATEMENT ████ -/
theorem proved : Rows.LeafKnownSaid :=
  over
#print axioms proved
end Go.Proofs.YtddipefieohbdaaGreat.leafKnown
