/- The abstract evaluator 'Ce': structs, arrays and slices written out; maps. -/
import Derived.Test.YtiellonfgcmaaaaGreatCeH
set_option linter.unusedVariables false
set_option linter.unusedSimpArgs false
set_option linter.unusedSectionVars false
namespace Go.Ce
variable {P : Program} {φ : PM} {w : World} {H H' : Hp} {x x' : Nat} {v : AV} {ρ : Operand → AV} {ρc : Operand → Value}

theorem foldl_set : ∀ (vs : List Value) (k off : Nat) (cs : Array Value), off + k + vs.length ≤ cs.size →
    ((vs.zipIdx k).foldl (fun (cs : Array Value) (q : Value × Nat) => cs.setIfInBounds (off + q.2) q.1) cs).toList = cs.toList.take (off + k) ++ vs ++ cs.toList.drop (off + k + vs.length) := by
  intro vs
  induction vs with
  | nil => intro k off cs h; simp
  | cons u vs ih =>
    intro k off cs h
    simp only [List.length_cons] at h
    rw [List.zipIdx_cons, List.foldl_cons, ih (k + 1) off _ (by simp; omega)]
    have e1 : (cs.setIfInBounds (off + k) u).toList = cs.toList.set (off + k) u := by simp
    simp only [e1]
    have hlt : off + k < cs.toList.length := by simp; omega
    rw [show off + (k + 1) = off + k + 1 from by omega]
    rw [List.take_succ_eq_append_getElem (by simpa using hlt)]
    simp only [List.take_set_of_le (Nat.le_refl _), List.getElem_set_self]
    rw [List.drop_set_of_lt (by omega)]
    simp [Nat.add_assoc, Nat.add_comm 1]

theorem fill1_ok {o s : Nat} {a : AV} {av : Value} {cells r : List AV} {cv : List Value} (h : fill1 o s a cells = .ok r) (ha : VR φ a av) (hc : VRs φ cells cv) :
    av.cells.size = s ∧ o + av.cells.size ≤ cv.length ∧ VRs φ r (av.cells.zipIdx.foldl (fun (cs : Array Value) (q : Value × Nat) => cs.setIfInBounds (o + q.2) q.1) cv.toArray).toList := by
  unfold fill1 at h
  obtain ⟨hj, h2⟩ := cond_ok' h
  obtain ⟨hl, h3⟩ := cond_ok h2
  have hcs := ha.cells hj
  have hlen := hcs.length
  rw [lenS_eq] at hl
  have hl := beqT hl
  obtain ⟨e1, e2⟩ := setS_ok _ _ _ _ h3
  have hcl := hc.length
  have hsz : av.cells.size = a.cells.length := by rw [← Array.length_toList]; exact hlen
  refine ⟨by omega, by omega, ?_⟩
  rw [← Array.foldl_toList, Array.toList_zipIdx]
  have := foldl_set av.cells.toList 0 o cv.toArray (by simp; omega)
  rw [this, e1]
  simp only [Nat.add_zero]
  rw [hlen]
  exact ((hc.take o).append hcs).append (hc.drop _)

theorem fillA_ok (hρ : ∀ o, VR φ (ρ o) (ρc o)) {place : Nat → Option (Nat × Nat)} : ∀ (ps : List (Nat × Operand)) {cells r : List AV} {cv : List Value}, fillA place cells (evps ρ ps) = .ok r → VRs φ cells cv →
    ∃ rv, Instr.fill place cv.toArray (ps.map fun q => (q.1, ρc q.2)) = some rv ∧ VRs φ r rv.toList := by
  intro ps
  induction ps with
  | nil => intro cells r cv h hc; cases h; exact ⟨cv.toArray, rfl, by simpa using hc⟩
  | cons q ps ih =>
    intro cells r cv h hc
    unfold evps fillA at h
    simp only [List.map_cons]
    unfold Instr.fill
    split at h
    · cases h
    · rename_i o s hp
      obtain ⟨c1, hc1, h2⟩ := R.bind_ok h
      obtain ⟨e1, e2, e3⟩ := fill1_ok hc1 (hρ q.2) hc
      obtain ⟨rv, h3, h4⟩ := ih h2 e3
      refine ⟨rv, ?_, h4⟩
      rw [hp]
      have hno : ¬ ((ρc q.2).cells.size ≠ s || decide (o + (ρc q.2).cells.size > cv.toArray.size)) = true := by simp; omega
      simp only [hno]
      simpa using h3

theorem fill_length {place : Nat → Option (Nat × Nat)} : ∀ {ps : List (Nat × AV)} {cells r : List AV}, fillA place cells ps = .ok r → r.length = cells.length := by
  intro ps
  induction ps with
  | nil => intro cells r h; cases h; rfl
  | cons q ps ih =>
    intro cells r h
    unfold fillA at h
    split at h
    · cases h
    · obtain ⟨c1, hc1, h2⟩ := R.bind_ok h
      unfold fill1 at hc1
      obtain ⟨hj, h3⟩ := cond_ok' hc1
      obtain ⟨hl, h4⟩ := cond_ok h3
      obtain ⟨e1, e2⟩ := setS_ok _ _ _ _ h4
      rw [ih h2, e1]
      simp only [List.length_append, List.length_take, List.length_drop]
      omega

theorem placesA_ok : ∀ (fs : List Field) {pl : List (Nat × Nat)}, placesA P fs = .ok pl → (fs.mapM fun f => do pure (f.offset, ← sizeOf f.type) : Sem (List (Nat × Nat))).run P w = .ok pl w := by
  intro fs
  induction fs with
  | nil => intro pl h; cases h; rfl
  | cons f fs ih =>
    intro pl h
    unfold placesA at h
    obtain ⟨s, hs, h2⟩ := R.bind_ok h
    obtain ⟨r, hr, h3⟩ := R.bind_ok h2
    cases h3
    obtain ⟨i, hi, rfl⟩ := sizeA_ok hs
    rw [List.mapM_cons]
    simp only [Sem.run_bind, run_sizeOf hi, Result.andThen_ok, Sem.run_pure, ih hr]

theorem run_mapM_arr {α β : Type} (f : α → Sem β) (as : Array α) {bs : List β} (h : (as.toList.mapM f).run P w = .ok bs w) : (as.mapM f).run P w = .ok bs.toArray w := by
  rw [Array.mapM_eq_mapM_toList]
  show ((as.toList.mapM f) >>= fun l => (pure l.toArray : Sem (Array β))).run P w = _
  rw [Sem.run_bind, h]
  rfl

theorem buildA_ok (hρ : ∀ o, VR φ (ρ o) (ρc o)) {t : TypeId} {ps : Array (Nat × Operand)} (h : buildA P t (evps ρ ps.toList) = .ok v) :
    ∃ val, (Instr.build t (ps.map fun (i, x) => (i, ρc x))).run P w = .ok val w ∧ VR φ v val := by
  unfold buildA at h
  obtain ⟨z, hz, h2⟩ := R.bind_ok h
  obtain ⟨i, zv, hi, hzv, rfl⟩ := zeroA_ok hz
  unfold buildIn at h2
  obtain ⟨hj, h3⟩ := cond_ok' h2
  have hcs := (VR.ofVal φ zv).cells hj
  have hps : (ps.map fun (q : Nat × Operand) => (q.1, ρc q.2)).toList = ps.toList.map fun q => (q.1, ρc q.2) := by simp
  split at h3
  · rename_i fs hu
    obtain ⟨pl, hpl, h4⟩ := R.bind_ok h3
    obtain ⟨l, hl, h5⟩ := R.bind_ok h4
    cases h5
    have h6 := run_mapM_arr (P := P) (w := w) _ fs (placesA_ok (w := w) fs.toList hpl)
    obtain ⟨rv, h7, h8⟩ := fillA_ok hρ ps.toList hl hcs
    refine ⟨.agg rv, ?_, by simpa using VR.agg h8⟩
    unfold Instr.build
    simp only [Sem.run_bind, run_zeroValue hi hzv, Result.andThen_ok, run_underlying hu]
    rw [h6]
    simp only [Result.andThen_ok]
    have h7' : Instr.fill (fun i => pl.toArray[i]?) zv.cells (ps.map fun (q : Nat × Operand) => (q.1, ρc q.2)).toList = some rv := by
      rw [hps]; simpa using h7
    rw [h7']
    rfl
  · rename_i n el hu
    obtain ⟨s, hs, h4⟩ := R.bind_ok h3
    obtain ⟨l, hl, h5⟩ := R.bind_ok h4
    cases h5
    obtain ⟨inf, hinf, rfl⟩ := sizeA_ok hs
    obtain ⟨rv, h7, h8⟩ := fillA_ok hρ ps.toList hl hcs
    refine ⟨.agg rv, ?_, by simpa using VR.agg h8⟩
    unfold Instr.build
    simp only [Sem.run_bind, run_zeroValue hi hzv, Result.andThen_ok, run_underlying hu, run_sizeOf hinf]
    have h7' : Instr.fill (fun i => some (i * inf.size, inf.size)) zv.cells (ps.map fun (q : Nat × Operand) => (q.1, ρc q.2)).toList = some rv := by
      rw [hps]; simpa using h7
    rw [h7']
    rfl
  · cases h3

/-- n times the cells of a zero value. -/
theorem zeros_eq (z : Array Value) (n : Nat) (k : Nat) (hk : z.size = k) : ((Array.range (n * k)).map (fun i => z[i % z.size]!)).toList = (List.replicate n z.toList).flatten := by
  subst hk
  induction n with
  | zero => simp
  | succ n ih =>
    rw [List.replicate_succ', List.flatten_append, ← ih]
    apply List.ext_getElem?
    intro i
    simp only [Array.toList_map, Array.toList_range, List.getElem?_map, List.flatten_cons, List.flatten_nil, List.append_nil]
    by_cases h1 : i < n * z.size
    · rw [List.getElem?_append_left (by simpa using h1)]
      simp [h1, show i < (n + 1) * z.size from by rw [Nat.add_mul]; omega]
    · rw [List.getElem?_append_right (by simpa using h1)]
      simp only [List.length_map, List.length_range]
      by_cases h2 : i < (n + 1) * z.size
      · rw [Nat.add_mul, Nat.one_mul] at h2
        have hlt : i - n * z.size < z.size := by omega
        have hmod : i % z.size = i - n * z.size := by
          have : i = (i - n * z.size) + n * z.size := by omega
          rw [this, Nat.add_mul_mod_self_right, Nat.mod_eq_of_lt hlt]
          omega
        rw [List.getElem?_range (by rw [Nat.add_mul, Nat.one_mul]; omega)]
        simp [hmod, hlt]
      · rw [List.getElem?_eq_none (by simpa using h2)]
        rw [Nat.add_mul, Nat.one_mul] at h2
        simp; omega

theorem buildSliceA_ok (r : Rel φ H.get x w) (hf : φ x = none) (hρ : ∀ o, VR φ (ρ o) (ρc o)) {t : TypeId} {len : Nat} {ps : Array (Nat × Operand)} (h : buildSliceA P H x t len (evps ρ ps.toList) = .ok v H' x') :
    VRun P φ H x w (Instr.buildSlice t len (ps.map fun (i, x) => (i, ρc x))) v H' x' := by
  unfold buildSliceA at h
  obtain ⟨el, hel, h0⟩ := casesO_ok h
  obtain ⟨s, hs, h1⟩ := casesO_ok h0
  obtain ⟨hle, h2⟩ := condO_ok h1
  obtain ⟨l, hl, rfl, rfl, rfl⟩ := toN_ok h2
  obtain ⟨z, hz, h3⟩ := R.bind_ok hl
  obtain ⟨inf, zv, hi, hzv, rfl⟩ := zeroA_ok hz
  unfold sliceCells at h3
  obtain ⟨hj, h4⟩ := cond_ok' h3
  obtain ⟨hln, h5⟩ := cond_ok h4
  have hcs := (VR.ofVal φ zv).cells hj
  have hlen := hcs.length
  rw [lenS_eq] at hln
  have hln := beqT hln
  have hzs : zv.cells.size = s := by rw [← Array.length_toList]; omega
  have hu := elemA_ok hel
  obtain ⟨inf', hinf, hsi⟩ := sizeA_ok hs
  obtain rfl := Option.some.inj (hi.symm.trans hinf)
  have hle := bleT hle
  rw [repS_eq, List.append_nil] at h5
  obtain ⟨rv, h7, h8⟩ := fillA_ok hρ ps.toList h5 (hcs.replicate len)
  obtain ⟨hr, hst⟩ := newRow_run (P := P) (el := el) r hf h8
  have hfl : (List.replicate len zv.cells.toList).flatten.length = len * s := by
    simp only [List.length_flatten, List.map_replicate, List.sum_replicate_nat, Array.length_toList, hzs]
  have hrl : rv.size = len * s := by
    have e1 := h8.length
    have e2 := fill_length h5
    have e3 := (hcs.replicate len).length
    rw [← Array.length_toList, e1, e2, ← e3]
    exact hfl
  refine ⟨_, _, .slice (some ⟨w.heap.size, 0, none⟩) len len, ?_, .slice PM.add_self (Nat.le_refl _) (fun _ => rfl) (by omega), hst⟩
  unfold Instr.buildSlice
  have hno : ¬ (len * inf.size > 2 ^ 24) := by rw [hsi]; omega
  have hps : (ps.map fun (q : Nat × Operand) => (q.1, ρc q.2)).toList = ps.toList.map fun q => (q.1, ρc q.2) := by simp
  have key : ∀ z : Array Value, ((Array.range (len * inf.size)).map (fun i => z[i % z.size]!)).toList = (List.replicate len zv.cells.toList).flatten →
      Instr.fill (fun i => some (i * inf.size, inf.size)) ((Array.range (len * inf.size)).map (fun i => z[i % z.size]!)) (ps.map fun (q : Nat × Operand) => (q.1, ρc q.2)).toList = some rv := by
    intro z hz
    have : ((Array.range (len * inf.size)).map (fun i => z[i % z.size]!)) = (List.replicate len zv.cells.toList).flatten.toArray := Array.ext' hz
    rw [this, hps, hsi]
    exact h7
  simp only [Sem.run_bind, run_underlying hu, Result.andThen_ok, run_sizeOf hi, if_neg hno]
  by_cases h0 : len * inf.size = 0
  · have k := key #[] (by
      rw [h0]
      have : (List.replicate len zv.cells.toList).flatten.length = 0 := by rw [hfl, ← hsi]; exact h0
      rw [List.eq_nil_of_length_eq_zero this]
      simp)
    simp only [h0, if_true] at k ⊢
    simp only [Sem.run_bind, Sem.run_pure, Result.andThen_ok]
    simp only [k, Sem.run_bind, hr, Result.andThen_ok, Sem.run_pure]
  · have k := key zv.cells (zeros_eq zv.cells len inf.size (by omega))
    simp only [h0, if_false, Sem.run_bind, run_zeroValue hi hzv, Result.andThen_ok, Sem.run_pure]
    simp only [k, Sem.run_bind, hr, Result.andThen_ok, Sem.run_pure]

end Go.Ce
