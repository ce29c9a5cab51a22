/- 'SegmentElect' returns true, whatever the algorithm, the list of candidates (nil too), the bridge domain, the address, and whatever the world that it begins in; it leaves all that was there as it was. There are no conditions. -/
import Derived.Test.YtiellonfgcmaaaaRows
import Derived.Test.YtiellonfgcmaaaaWe
import Derived.ProofKit
import Derived.OpenShut
import Derived.SizedLaws
import Derived.Lib.RowBridge
import Derived.Deep.Slices
import Derived.Deep.Fields
import Derived.ChangeSame
import Derived.Carry
namespace Go.Proofs.Ytiellonfgcmaaaa.segmentElect
open Go.ChangeShapes Go.WideShapes Go.ChangeAt Go.RowKit Go.Deep

theorem own : ownKnob Try.prog.godebug = none := by kernel_rfl
theorem laidOut : laidOutB Try.prog = true := by kernel_rfl

section
variable {H : Type} {enc : TypeId × Value → H} {P : Program} {w : World} {base : Nat} {spare : Nat → Bool} {held : Bool}
/-- A slice of structs, opened at every field. -/
theorem open_slice_fields {t e : TypeId} {fs : Array Field} {fuel : Nat} {cs : List Value} {x : DataW H × List MemPlace} (ht : P.underlying t = some (.slice e)) (he : P.underlying e = some (.struct fs))
    (hone : oneCellFields P fs = true) (hC : P.cellsOf e = fs.size) (h : DataW.trod enc P w base spare held fuel t cs = some x) :
    (cs = [.slice none 0 0]) ∨
    ∃ (a : Addr) (len cap m : Nat), cs = [.slice (some a) len cap] ∧ base ≤ a.block ∧ len ≤ cap ∧ cap ≤ maxLen ∧ m = (if spare a.block then cap else len) ∧
      ∀ i, i < m → ∀ (j : Nat) (f : Field), fs[j]? = some f → ∃ (v : Value) (y : DataW H × List MemPlace) (n : Nat), w.cell? (a.add (i * fs.size + j)) = some v ∧ DataW.trod enc P w base spare held n f.type [v] = some y := by
  rcases open_slice ht h with ⟨h0, _⟩ | ⟨a, len, cap, m, n, D, Pl, hcs, hb, hl, hm, hmm, hx, hi⟩
  · exact .inl h0
  · refine .inr ⟨a, len, cap, m, hcs, hb, hl, hm, hmm, fun i him j f hj => ?_⟩
    obtain ⟨cs', hc, ht'⟩ := hi i him
    rw [hC] at hc
    obtain ⟨ys, n', hn', hy, hlen, hyl, hf⟩ := DataW.trod_struct he ht'
    obtain ⟨_, hcl, hat⟩ := World.cells?_some hc
    obtain ⟨ho, hk⟩ := hone_of hone j f hj
    have hjl : j < fs.size := (Array.getElem?_eq_some_iff.1 hj).1
    have hcell := hat j hjl
    have hv : cs'[j]? = some (cs'[j]'(by omega)) := List.getElem?_eq_getElem (by omega)
    have h1 := hf j f hj
    rw [ho, hk] at h1
    have hone' : (cs'.drop j).take 1 = [cs'[j]'(by omega)] := by
      rw [List.drop_eq_getElem_cons (by omega)]
      rfl
    rw [hone'] at h1
    have hys : ys[j]? = some (ys[j]'(by omega)) := List.getElem?_eq_getElem (by omega)
    refine ⟨_, _, n', ?_, h1.trans hys⟩
    rw [← Go.Deep.add_add, hcell, hv]
end

theorem wf_i64 {n : Int} (h : (Lit.int .i64 n).wf = true) : -9223372036854775808 ≤ n ∧ n ≤ 9223372036854775807 := by
  have h1 : IntKind.i64.min = -9223372036854775808 := rfl
  have h2 : IntKind.i64.max = 9223372036854775807 := rfl
  simpa [Lit.wf, h1, h2] using h
theorem wf_u32 {n : Int} (h : (Lit.int .u32 n).wf = true) : 0 ≤ n ∧ n ≤ 4294967295 := by
  have h1 : IntKind.u32.min = 0 := rfl
  have h2 : IntKind.u32.max = 4294967295 := rfl
  simpa [Lit.wf, h1, h2] using h

set_option maxHeartbeats 4000000 in
set_option maxRecDepth 100000 in
theorem lifted (os : Os) (started : os.Started) (H : Type) (enc : TypeId × Value → H) :
    ReturnsInHanded {} Try.checked os 3 .any (Rows.segmentElectSpec.pre6 enc Try.prog Try.f3 Rows.segmentElectRow.domain false) (Rows.segmentElectSpec.post enc Try.prog Try.f3 false true false false) := by
  refine returnsInHanded_of_change (C := Try.checked) own started (by kernel_rfl) Try.func3
    (ChangeSpec.witness6 (enc := enc) (C := Try.checked) false ⟨#[], #[.int .i64 0, .slice none 0 0, .int .i64 0, .int .u32 0], []⟩ 8 (by kernel_rfl) (by kernel_rfl) (by kernel_rfl) (by kernel_rfl)) ?_
  intro W base args ds gs before hval0 hW hcnd _
  have hval : ∀ (j : Nat) t v, Try.f3.params[j]? = some t → args[j]? = some v → Value.okWide Try.prog W .any base t v := hval0
  have hW' := hW
  obtain ⟨p, q, hA0, hV, rfl, hfz, hnd⟩ := hW
  have hA : DataW.TrodAll enc Try.prog W 0 (fun _ => true) true Try.f3.params.toList args.toList ds p := hA0
  rw [Try.params3] at hA hval
  obtain ⟨al⟩ := args
  obtain ⟨v0, vs, d0, ds1, p0, p1, hvs0, rfl, rfl, h0, hA⟩ := trodAll_cons hA
  obtain ⟨v1, vs, d1, ds2, p2, p3, rfl, rfl, rfl, h1, hA⟩ := trodAll_cons hA
  obtain ⟨v2, vs, d2, ds3, p4, p5, rfl, rfl, rfl, h2, hA⟩ := trodAll_cons hA
  obtain ⟨v3, vs, d3, ds4, p6, p7, rfl, rfl, rfl, h3, hA⟩ := trodAll_cons hA
  obtain ⟨rfl, rfl, rfl⟩ := trodAll_nil hA
  simp only at hvs0
  subst hvs0
  obtain ⟨rfl, rfl⟩ := trodVars_none hV
  have k0 := h0
  have k1 := h1
  have k2 := h2
  have k3 := h3
  obtain ⟨alg, rfl, rfl, rfl, wa⟩ := open_int Try.underlying3 (hval 0 3 v0 rfl rfl) h0
  obtain ⟨bd, rfl, rfl, rfl, wb⟩ := open_int Try.underlying3 (hval 2 3 v2 rfl rfl) h2
  obtain ⟨x, rfl, rfl, rfl, wx⟩ := open_int Try.underlying24 (hval 3 24 v3 rfl rfl) h3
  obtain ⟨a0, len, cap, rfl⟩ := okWide_slice Try.underlying22 (hval 1 22 v1 rfl rfl)
  obtain ⟨fuel, hf⟩ := h1
  clear hA0 hval0
  simp only [List.append_nil] at hW'
  have hlt : ∀ y ∈ p2, y.block < W.heap.size := fun y hy => by simpa using hW'.lt y (by simp [hy])
  suffices key : Calls Try.prog 3 #[.int .i64 alg, .slice a0 len cap, .int .i64 bd, .int .u32 x] W fun e W' => e = .returned (.bool true) ∧ Below W.heap.size W W' by
    refine key.mono fun e W' he => ?_
    obtain ⟨rfl, hn⟩ := he
    have a0 := Below.trod laidOut (by kernel_rfl) (of_decide_eq_true (by kernel_rfl)) k0 hn (fun y hy => by cases hy)
    have a1 := Below.trod laidOut (by kernel_rfl) (of_decide_eq_true (by kernel_rfl)) k1 hn hlt
    have a2 := Below.trod laidOut (by kernel_rfl) (of_decide_eq_true (by kernel_rfl)) k2 hn (fun y hy => by cases hy)
    have a3 := Below.trod laidOut (by kernel_rfl) (of_decide_eq_true (by kernel_rfl)) k3 hn (fun y hy => by cases hy)
    exact ⟨_, rfl, _, _, _, [], _, [], hW', trodAll_mk1 (shut_bool Try.underlying4 _), trodAll_cons_mk a0 (trodAll_cons_mk a1 (trodAll_cons_mk a2 (trodAll_cons_mk a3 trodAll_mk0))), rfl, hn.frame _, fun h => by cases h⟩
  have hbd : bd ≤ 9223372036854775807 := (wf_i64 wb).2
  have hx : 0 ≤ x ∧ x ≤ 4294967295 := wf_u32 wx
  by_cases hlong : 100 < len
  · exact long_any alg bd x a0 len cap W hlong
  rcases open_slice_fields Try.underlying22 Try.underlying28 (by kernel_rfl) (by kernel_rfl) hf with hcs | ⟨a, len', cap', m, hcs, _, hl, hmx, hm, hcell⟩
  · simp [Value.cells] at hcs
    obtain ⟨rfl, rfl, rfl⟩ := hcs
    exact law_any alg bd x none 0 0 (fun _ => 0) (fun _ => 0) W (.inl rfl) (fun _ => ⟨rfl, rfl⟩) (by omega) hbd (fun i hi => absurd hi (by omega)) hx
  · simp [Value.cells] at hcs
    obtain ⟨rfl, rfl, rfl⟩ := hcs
    simp only [if_true] at hm
    subst hm
    have hu : ∀ i, i < len → ∃ n : Int, W.cell? (a.add (i * 2)) = some (.int .u32 n) ∧ 0 ≤ n ∧ n ≤ 4294967295 := by
      intro i hi
      obtain ⟨v, y, fu, hc, ht⟩ := hcell i (by omega) 0 _ rfl
      obtain ⟨n', h, _, hw⟩ := DataW.trod_int Try.underlying24 ht
      simp at h
      subst h
      exact ⟨n', hc, wf_u32 hw⟩
    have hp : ∀ i, i < len → ∃ n : Int, W.cell? (a.add (i * 2 + 1)) = some (.int .i64 n) := by
      intro i hi
      obtain ⟨v, y, fu, hc, ht⟩ := hcell i (by omega) 1 _ rfl
      obtain ⟨n', h, _, hw⟩ := DataW.trod_int Try.underlying3 ht
      simp at h
      subst h
      exact ⟨n', hc⟩
    obtain ⟨ip, hip⟩ := choose_lt hu
    obtain ⟨pr, hpr⟩ := choose_lt hp
    obtain ⟨b, off, spot⟩ := a
    have hcand : ∀ c, len ≤ c → Cand W (some ⟨b, off, spot⟩) len c ip pr := by
      intro c hl
      by_cases hz0 : len = 0
      · exact .inl hz0
      · have hspot : spot = none := by simpa [Addr.add] using World.cell?_spot (hip 0 (by omega)).1
        subst hspot
        have hb := World.block_lt_of_cell? W _ (hip 0 (by omega)).1
        rw [addr_add] at hb
        exact .inr ⟨b, off, rfl, hb, hl, fun i hi => by rw [← addr_add]; exact (hip i hi).1, fun i hi => by rw [Nat.add_assoc, ← addr_add]; exact hpr i hi⟩
    exact law_any alg bd x _ len _ ip pr W (hcand _ hl) (fun h => by cases h) (by omega) hbd (fun i hi => (hip i hi).2) hx

set_option maxHeartbeats 4000000 in
theorem over : Rows.segmentElectRow.holds Try.pinned (OpenSpec.ofChange Rows.segmentElectSpec) :=
  OpenClaim.holds_of_wide 3 Try.f3 rfl rfl rfl rfl rfl rfl rfl ⟨rfl, rfl, rfl, rfl, rfl⟩ rfl rfl rfl rfl rfl (by as_aux_lemma => kernel_rfl) Try.func3 (by as_aux_lemma => kernel_rfl)
    (of_decide_eq_true (by as_aux_lemma => kernel_rfl)) (by unfold Func.isWrapper; first | (rw [if_pos (by decide +kernel)]; kernel_rfl) | (rw [if_neg (by decide +kernel)]; exact ⟨rfl, rfl⟩))
    (fun os started H enc _ => lifted os started H enc)

/-- THE STATEMENT. -/
theorem proved : Rows.SegmentElectSaid := over
#print axioms proved
end Go.Proofs.Ytiellonfgcmaaaa.segmentElect
