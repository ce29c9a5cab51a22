/- 'SegmentMembers' returns true, whatever the routes (nil too) and the identifier, and whatever the world that it begins in; it leaves all that was there as it was. There are no conditions. -/
import Derived.Test.YtiellonfgcmaaaaGreatRows
import Derived.Test.YtiellonfgcmaaaaGreatU4
import Derived.ProofKit
import Derived.OpenShut
import Derived.SizedLaws
import Derived.Lib.RowBridge
import Derived.Deep.Slices
import Derived.Deep.Fields
import Derived.ChangeSame
import Derived.Carry
namespace Go.Proofs.YtiellonfgcmaaaaGreat.segmentMembers
open Go.ChangeShapes Go.WideShapes Go.ChangeAt Go.RowKit Go.Deep

theorem own : ownKnob Tryz.prog.godebug = none := by kernel_rfl
theorem laidOut : laidOutB Tryz.prog = true := by kernel_rfl
theorem okWide_array {P : Program} {w : World} {r : Reach} {base : Nat} {t : TypeId} {v : Value} {n : Nat} {e : TypeId} (ht : P.underlying t = some (.array n e)) (h : Value.okWide P w r base t v) : ∃ cs, v = .agg cs ∧ cs.size = P.cellsOf t := by
  simp only [Value.okWide, ht] at h
  obtain ⟨cs, h1, h2, _⟩ := h
  exact ⟨cs, h1, h2⟩

set_option maxHeartbeats 4000000 in
set_option maxRecDepth 100000 in
theorem lifted (os : Os) (started : os.Started) (H : Type) (enc : TypeId × Value → H) :
    ReturnsInHanded {} Tryz.checked os 3 .any (Rows.segmentMembersSpec.pre6 enc Tryz.prog Tryz.f3 Rows.segmentMembersRow.domain false) (Rows.segmentMembersSpec.post enc Tryz.prog Tryz.f3 false true false false) := by
  refine returnsInHanded_of_change (C := Tryz.checked) own started (by kernel_rfl) Tryz.func3
    (ChangeSpec.witness6 (enc := enc) (C := Tryz.checked) false ⟨#[], #[.slice none 0 0, .agg #[.int .u8 0, .int .u8 0, .int .u8 0, .int .u8 0, .int .u8 0, .int .u8 0, .int .u8 0, .int .u8 0, .int .u8 0, .int .u8 0]], []⟩ 8 (by kernel_rfl) (by kernel_rfl) (by kernel_rfl) (by kernel_rfl)) ?_
  intro W base args ds gs before hval0 hW hcnd _
  have hval : ∀ (j : Nat) t v, Tryz.f3.params[j]? = some t → args[j]? = some v → Value.okWide Tryz.prog W .any base t v := hval0
  have hW' := hW
  obtain ⟨p, q, hA0, hV, rfl, hfz, hnd⟩ := hW
  have hA : DataW.TrodAll enc Tryz.prog W 0 (fun _ => true) true Tryz.f3.params.toList args.toList ds p := hA0
  rw [Tryz.params3] at hA hval
  obtain ⟨al⟩ := args
  obtain ⟨v0, vs, d0, ds1, p0, p1, hvs0, rfl, rfl, h0, hA⟩ := trodAll_cons hA
  obtain ⟨v1, vs, d1, ds2, p2, p3, rfl, rfl, rfl, h1, hA⟩ := trodAll_cons hA
  obtain ⟨rfl, rfl, rfl⟩ := trodAll_nil hA
  simp only at hvs0
  subst hvs0
  obtain ⟨rfl, rfl⟩ := trodVars_none hV
  have k0 := h0
  have k1 := h1
  obtain ⟨ec, rfl, hec⟩ := okWide_array Tryz.underlying24 (hval 1 24 v1 rfl rfl)
  obtain ⟨a0, len, cap, rfl⟩ := okWide_slice Tryz.underlying22 (hval 0 22 v0 rfl rfl)
  obtain ⟨fuel, hf⟩ := h0
  obtain ⟨fuel1, hf1⟩ := h1
  clear hA0 hval0
  simp only [List.append_nil] at hW'
  have hlt : ∀ y ∈ p0, y.block < W.heap.size := fun y hy => by simpa using hW'.lt y (by simp [hy])
  have hlt2 : ∀ y ∈ p2, y.block < W.heap.size := fun y hy => by simpa using hW'.lt y (by simp [hy])
  have hesi : ∃ s, ec = (esiL s).toArray := by
    obtain ⟨xs, m, _, _, hl, hxl, hfx⟩ := DataW.trod_array Tryz.underlying24 hf1
    have hl10 : (Value.cells (.agg ec)).toList.length = 10 := by rw [hl]; exact cells24
    have each : ∀ j, j < 10 → (Value.cells (.agg ec)).toList[j]? = some (.int .u8 (gOf (Value.cells (.agg ec)).toList j)) := fun j hj => gOf_at (by
      have h2 := hfx j hj
      rw [show j * Tryz.prog.cellsOf 5 = j by rw [cells5, Nat.mul_one]] at h2
      exact fint Tryz.underlying5 cells5 h2 (by omega) (by omega))
    refine ⟨gOf (Value.cells (.agg ec)).toList, ?_⟩
    have he : (Value.cells (.agg ec)).toList = esiL (gOf (Value.cells (.agg ec)).toList) := by
      refine List.ext_getElem? fun j => ?_
      rcases Nat.lt_or_ge j 10 with hj | hj
      · rw [each j hj]
        rcases (show j = 0 ∨ j = 1 ∨ j = 2 ∨ j = 3 ∨ j = 4 ∨ j = 5 ∨ j = 6 ∨ j = 7 ∨ j = 8 ∨ j = 9 by omega) with rfl | rfl | rfl | rfl | rfl | rfl | rfl | rfl | rfl | rfl <;> rfl
      · rw [List.getElem?_eq_none (by omega), List.getElem?_eq_none (by simp [esiL]; omega)]
    have h3 : (Value.cells (.agg ec)).toList = ec.toList := by simp [Value.cells]
    rw [h3] at he
    rw [h3, ← he]
  obtain ⟨s, rfl⟩ := hesi
  suffices key : Calls Tryz.prog 3 #[.slice a0 len cap, .agg (esiL s).toArray] W fun e W' => e = .returned (.bool true) ∧ Below W.heap.size W W' by
    refine key.mono fun e W' he => ?_
    obtain ⟨rfl, hn⟩ := he
    have a0 := Below.trod laidOut (by kernel_rfl) (of_decide_eq_true (by kernel_rfl)) k0 hn hlt
    have a1 := Below.trod laidOut (by kernel_rfl) (of_decide_eq_true (by kernel_rfl)) k1 hn hlt2
    exact ⟨_, rfl, _, _, _, [], _, [], hW', trodAll_mk1 (shut_bool Tryz.underlying4 _), trodAll_cons_mk a0 (trodAll_cons_mk a1 trodAll_mk0), rfl, hn.frame _, fun h => by cases h⟩
  clear hf1 k1
  rcases open_slice Tryz.underlying22 hf with ⟨hcs, _⟩ | ⟨a, len', cap', m, n, D, Pl, hcs, _, hl, hmx, hm, _, hcell⟩
  · simp [Value.cells] at hcs
    obtain ⟨rfl, rfl, rfl⟩ := hcs
    exact members_law none 0 [] s W (.inl rfl) (fun r hr => by cases hr)
  · simp [Value.cells] at hcs
    obtain ⟨rfl, rfl, rfl⟩ := hcs
    simp only [if_true] at hm
    subst hm
    have hu : ∀ i, i < len → ∃ r : RT, (∀ j u, r.cells[j]? = some u → W.cell? (a.add (i * 38 + j)) = some u) ∧ r.sound ∧ r.lists W := by
      intro i hi
      obtain ⟨cs', hc, ht⟩ := hcell i (by omega)
      rw [cells58] at hc
      obtain ⟨_, hcl, hat⟩ := World.cells?_some hc
      obtain ⟨r, rfl, h1, h2⟩ := route_cells hcl ht
      refine ⟨r, fun j u hj => ?_, h1, h2⟩
      have hj38 : j < 38 := by have := (List.getElem?_eq_some_iff.1 hj).1; rwa [RT.len] at this
      rw [← Go.Deep.add_add, hat j hj38]; exact hj
    haveI : Inhabited RT := ⟨rt0⟩
    obtain ⟨R, hR⟩ := choose_lt hu
    obtain ⟨rs, hrs⟩ : ∃ rs, rs = (List.range len).map R := ⟨_, rfl⟩
    have hrl : rs.length = len := by rw [hrs]; simp
    have hget : ∀ (i : Nat) (r : RT), rs[i]? = some r → i < len ∧ r = R i := by
      intro i r h
      have hi : i < len := by have := (List.getElem?_eq_some_iff.1 h).1; omega
      rw [hrs, List.getElem?_map, List.getElem?_range hi] at h
      exact ⟨hi, by simpa using h.symm⟩
    rw [← hrl]
    refine members_law (some a) _ rs s W ?_ (fun r hr => ?_)
    · rcases Nat.eq_zero_or_pos len with h0 | h0
      · exact .inl (List.eq_nil_of_length_eq_zero (by omega))
      · obtain ⟨b, off, spot⟩ := a
        have h00 := (hR 0 h0).1 0 _ rfl
        have hspot : spot = none := by simpa [Addr.add] using World.cell?_spot h00
        subst hspot
        have hb := World.block_lt_of_cell? W _ h00
        rw [addr_add'] at hb
        refine .inr ⟨b, off, rfl, hb, fun i j r u hi hj => ?_⟩
        obtain ⟨hil, rfl⟩ := hget i r hi
        have := (hR i hil).1 j u hj
        rwa [addr_add', ← Nat.add_assoc] at this
    · obtain ⟨i, hi⟩ := List.mem_iff_getElem?.1 hr
      obtain ⟨hil, rfl⟩ := hget i r hi
      exact (hR i hil).2

set_option maxHeartbeats 4000000 in
theorem over : Rows.segmentMembersRow.holds Tryz.pinned (OpenSpec.ofChange Rows.segmentMembersSpec) :=
  OpenClaim.holds_of_wide 3 Tryz.f3 rfl rfl rfl rfl rfl rfl rfl ⟨rfl, rfl, rfl, rfl, rfl⟩ rfl rfl rfl rfl rfl (by as_aux_lemma => kernel_rfl) Tryz.func3 (by as_aux_lemma => kernel_rfl)
    (of_decide_eq_true (by as_aux_lemma => kernel_rfl)) (by unfold Func.isWrapper; first | (rw [if_pos (by decide +kernel)]; kernel_rfl) | (rw [if_neg (by decide +kernel)]; exact ⟨rfl, rfl⟩))
    (fun os started H enc _ => lifted os started H enc)

/-- THE STATEMENT. -/
theorem proved : Rows.SegmentMembersSaid := over
#print axioms proved
end Go.Proofs.YtiellonfgcmaaaaGreat.segmentMembers
