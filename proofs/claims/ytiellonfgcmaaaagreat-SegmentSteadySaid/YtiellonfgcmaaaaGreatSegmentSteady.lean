/- 'SegmentSteady' returns true, whatever the preferences (nil too), the candidate and the bridge domain, and whatever the world that it begins in; it leaves all that was there as it was. There are no conditions. -/
import Derived.Test.YtiellonfgcmaaaaGreatRows
import Derived.Test.YtiellonfgcmaaaaGreatWf
import Derived.ProofKit
import Derived.OpenShut
import Derived.Lib.RowBridge
import Derived.ChangeSlices
import Derived.ChangeSame
import Derived.Carry
namespace Go.Proofs.YtiellonfgcmaaaaGreat.segmentSteady
open Go.ChangeShapes Go.WideShapes Go.ChangeAt Go.RowKit

theorem own : ownKnob Tryz.prog.godebug = none := by kernel_rfl
theorem laidOut : laidOutB Tryz.prog = true := by kernel_rfl
theorem cells3 : Tryz.prog.cellsOf 3 = 1 := by kernel_rfl
theorem addr_add (b off j : Nat) : (⟨b, off, none⟩ : Addr).add j = ⟨b, off + j, none⟩ := by
  unfold Addr.add
  split
  · next h => subst h; rfl
  · rfl
theorem wf_i64 {n : Int} (h : (Lit.int .i64 n).wf = true) : -9223372036854775808 ≤ n ∧ n ≤ 9223372036854775807 := by
  have h1 : IntKind.i64.min = -9223372036854775808 := rfl
  have h2 : IntKind.i64.max = 9223372036854775807 := rfl
  simpa [Lit.wf, h1, h2] using h

set_option maxHeartbeats 4000000 in
set_option maxRecDepth 100000 in
theorem lifted (os : Os) (started : os.Started) (H : Type) (enc : TypeId × Value → H) :
    ReturnsInHanded {} Tryz.checked os 7 .any (Rows.segmentSteadySpec.pre6 enc Tryz.prog Tryz.f7 Rows.segmentSteadyRow.domain false) (Rows.segmentSteadySpec.post enc Tryz.prog Tryz.f7 false true false false) := by
  refine returnsInHanded_of_change (C := Tryz.checked) own started (by kernel_rfl) Tryz.func7
    (ChangeSpec.witness6 (enc := enc) (C := Tryz.checked) false ⟨#[], #[.slice none 0 0, .int .i64 0, .int .i64 0], []⟩ 8 (by kernel_rfl) (by kernel_rfl) (by kernel_rfl) (by kernel_rfl)) ?_
  intro W base args ds gs before hval0 hW hcnd _
  have hval : ∀ (j : Nat) t v, Tryz.f7.params[j]? = some t → args[j]? = some v → Value.okWide Tryz.prog W .any base t v := hval0
  have hW' := hW
  obtain ⟨p, q, hA0, hV, rfl, hfz, hnd⟩ := hW
  have hA : DataW.TrodAll enc Tryz.prog W 0 (fun _ => true) true Tryz.f7.params.toList args.toList ds p := hA0
  rw [Tryz.params7] at hA hval
  obtain ⟨al⟩ := args
  obtain ⟨v0, vs, d0, ds1, p0, p1, hvs0, rfl, rfl, h0, hA⟩ := trodAll_cons hA
  obtain ⟨v1, vs, d1, ds2, p2, p3, rfl, rfl, rfl, h1, hA⟩ := trodAll_cons hA
  obtain ⟨v2, vs, d2, ds3, p4, p5, rfl, rfl, rfl, h2, hA⟩ := trodAll_cons hA
  obtain ⟨rfl, rfl, rfl⟩ := trodAll_nil hA
  simp only at hvs0
  subst hvs0
  obtain ⟨rfl, rfl⟩ := trodVars_none hV
  have k0 := h0
  have k1 := h1
  have k2 := h2
  obtain ⟨which, rfl, rfl, rfl, wwhich⟩ := open_int Tryz.underlying3 (hval 1 3 v1 rfl rfl) h1
  obtain ⟨bd, rfl, rfl, rfl, wbd⟩ := open_int Tryz.underlying3 (hval 2 3 v2 rfl rfl) h2
  obtain ⟨a0, len, cap, rfl⟩ := okWide_slice Tryz.underlying41 (hval 0 41 v0 rfl rfl)
  obtain ⟨fuel, hf⟩ := h0
  clear hA0 hval0
  simp only [List.append_nil] at hW'
  have hlt : ∀ y ∈ p0, y.block < W.heap.size := fun y hy => by simpa using hW'.lt y (by simp [hy])
  suffices key : Calls Tryz.prog 7 #[.slice a0 len cap, .int .i64 which, .int .i64 bd] W fun e W' => e = .returned (.bool true) ∧ Below W.heap.size W W' by
    refine key.mono fun e W' he => ?_
    obtain ⟨rfl, hn⟩ := he
    have a0 := Below.trod laidOut (by kernel_rfl) (of_decide_eq_true (by kernel_rfl)) k0 hn hlt
    have a1 := Below.trod laidOut (by kernel_rfl) (of_decide_eq_true (by kernel_rfl)) k1 hn (fun y hy => by cases hy)
    have a2 := Below.trod laidOut (by kernel_rfl) (of_decide_eq_true (by kernel_rfl)) k2 hn (fun y hy => by cases hy)
    exact ⟨_, rfl, _, _, _, [], _, [], hW', trodAll_mk1 (shut_bool Tryz.underlying4 _), (trodAll_cons_mk a0 (trodAll_cons_mk a1 (trodAll_cons_mk a2 trodAll_mk0))), rfl, hn.frame _, fun h => by cases h⟩
  rcases open_ints Tryz.underlying41 Tryz.underlying3 cells3 hf with ⟨hcs, hx⟩ | ⟨a, len', cap', zs, hcs, _, hl, hmx, hz, hx, hcell, hwz⟩
  · simp [Value.cells] at hcs
    obtain ⟨rfl, rfl, rfl⟩ := hcs
    exact steady_few _ which bd 0 (by omega) W (fun W' _ => (candidates_none _ _ W').mono fun e w' ⟨he, hw⟩ => ⟨⟨none, 0, he⟩, by rw [hw]; exact Below.refl _ _⟩)
  · simp [Value.cells] at hcs
    obtain ⟨rfl, rfl, rfl⟩ := hcs
    simp only [if_true] at hz
    rcases Nat.eq_zero_or_pos len with rfl | h0
    · exact steady_few _ which bd 0 (by omega) W (fun W' _ => (candidates_none _ _ W').mono fun e w' ⟨he, hw⟩ => ⟨⟨none, 0, he⟩, by rw [hw]; exact Below.refl _ _⟩)
    obtain ⟨b, off, spot⟩ := a
    have hspot : spot = none := by simpa [Addr.add] using World.cell?_spot (hcell 0 (by omega))
    subst hspot
    have hb := World.block_lt_of_cell? W _ (hcell 0 (by omega))
    rw [addr_add] at hb
    have hcell' : ∀ j, j < len → W.cell? ⟨b, off + j, none⟩ = some (.int .i64 (zs.getD j 0)) := fun j hj => by rw [← addr_add]; exact hcell j (by omega)
    have hlen : len ≤ 9223372036854775807 := by unfold maxLen at hmx; omega
    exact steady_all _ which bd (fun j => zs.getD j 0) (min len 20) (by omega) W (fun W' hw => candidates_any b off len _ (fun j => zs.getD j 0) W' (Nat.lt_of_lt_of_le hb hw.size) hlen (fun i hi => (hw.cell (p := ⟨b, off + i, none⟩) hb).trans (hcell' i hi)))

set_option maxHeartbeats 4000000 in
theorem over : Rows.segmentSteadyRow.holds Tryz.pinned (OpenSpec.ofChange Rows.segmentSteadySpec) :=
  OpenClaim.holds_of_wide 7 Tryz.f7 rfl rfl rfl rfl rfl rfl rfl ⟨rfl, rfl, rfl, rfl, rfl⟩ rfl rfl rfl rfl rfl (by as_aux_lemma => kernel_rfl) Tryz.func7 (by as_aux_lemma => kernel_rfl)
    (of_decide_eq_true (by as_aux_lemma => kernel_rfl)) (by unfold Func.isWrapper; first | (rw [if_pos (by decide +kernel)]; kernel_rfl) | (rw [if_neg (by decide +kernel)]; exact ⟨rfl, rfl⟩))
    (fun os started H enc _ => lifted os started H enc)

/-- THE STATEMENT. -/
theorem proved : Rows.SegmentSteadySaid := over
#print axioms proved
end Go.Proofs.YtiellonfgcmaaaaGreat.segmentSteady
