/- The abstract evaluator 'Ce': the operations on memory. -/
import Derived.Test.YtiellonfgcmaaaaGreatCeC
set_option linter.unusedVariables false
set_option linter.unusedSimpArgs false
set_option linter.unusedSectionVars false
namespace Go.Ce
variable {P : Program} {φ : PM} {w : World} {H H' : Hp} {x x' : Nat} {v : AV}

/-- What an operation that calls nothing comes to. -/
def OpRun (P : Program) (φ : PM) (H : Hp) (x : Nat) (w : World) (S : Sem Next) (v : AV) (H' : Hp) (x' : Nat) : Prop :=
  ∃ φ' w' nx val, S.run P w = .ok nx w' ∧ (nx = .value val ∨ (nx = .skip ∧ val = undef)) ∧ VR φ' v val ∧ Step φ H.get x w φ' H'.get x' w'

/-- What a piece of an operation comes to, that gives a value. -/
def VRun (P : Program) (φ : PM) (H : Hp) (x : Nat) (w : World) (S : Sem Value) (v : AV) (H' : Hp) (x' : Nat) : Prop :=
  ∃ φ' w' val, S.run P w = .ok val w' ∧ VR φ' v val ∧ Step φ H.get x w φ' H'.get x' w'

theorem VRun.op {s : Sem Value} (h : VRun P φ H x w s v H' x') : OpRun P φ H x w (do pure (.value (← s))) v H' x' := by
  obtain ⟨φ', w', val, h1, h2, h3⟩ := h
  refine ⟨φ', w', .value val, val, ?_, .inl rfl, h2, h3⟩
  simp only [Sem.run_bind, h1, Result.andThen]
  rfl

theorem VRun.pure (r : Rel φ H.get x w) {s : Sem Value} (h : ∃ val, s.run P w = .ok val w ∧ VR φ v val) : VRun P φ H x w s v H x := by
  obtain ⟨val, h1, h2⟩ := h
  exact ⟨φ, w, val, h1, h2, .refl r⟩

theorem OpRun.unit {s : Sem Unit} (h : ∃ φ' w', s.run P w = .ok () w' ∧ Step φ H.get x w φ' H'.get x' w') : OpRun P φ H x w (do s; pure .skip) .junk H' x' := by
  obtain ⟨φ', w', h1, h3⟩ := h
  refine ⟨φ', w', .skip, undef, ?_, .inr ⟨rfl, rfl⟩, .junk _, h3⟩
  simp only [Sem.run_bind, h1, Result.andThen]
  rfl

/-! ### Reading cells -/

theorem cellsOf_ok {n : Nat} {l : List AV} (h : cellsOf (H.get n) = .ok l) : ∃ ver el, H.get n = some ⟨ver, .cells el l⟩ := by
  unfold cellsOf at h
  split at h
  · rename_i ver el l' e; cases h; exact ⟨ver, el, e⟩
  · cases h

/-- A block of cells, as it lies. -/
theorem Rel.cells (r : Rel φ H.get x w) {n : Nat} {ver : Nat} {el : TypeId} {l : List AV} (h : H.get n = some ⟨ver, .cells el l⟩) :
    ∃ b sz C fr vs rest, φ n = some (b, sz) ∧ w.heap[b]? = some (.cells C el fr) ∧ C.size = sz ∧ C.toList = vs ++ rest ∧ VRs φ l vs ∧ (∀ i, i < sz → (fr.1 ≤ i && i < fr.2) = false) := by
  have := r.blk n _ h
  cases this with
  | cells h hb hs hC hl hfr => exact ⟨_, _, _, _, _, _, h, hb, hs, hC, hl, hfr⟩

theorem cell_of {b : Nat} {C : Array Value} {el : TypeId} {fr : Nat × Nat} (hb : w.heap[b]? = some (.cells C el fr)) (i : Nat) : w.cell? ⟨b, i, none⟩ = C[i]? := by
  simp [World.cell?, hb]

theorem frozen_of {b : Nat} {C : Array Value} {el : TypeId} {fr : Nat × Nat} (hb : w.heap[b]? = some (.cells C el fr)) (i : Nat) : w.frozen? ⟨b, i, none⟩ = (fr.1 ≤ i && i < fr.2) := by
  obtain ⟨lo, hi⟩ := fr
  simp [World.frozen?, hb]

theorem get_append {C : Array Value} {vs rest : List Value} (hC : C.toList = vs ++ rest) {i : Nat} {u : Value} (h : vs[i]? = some u) : C[i]? = some u := by
  rw [← Array.getElem?_toList, hC, List.getElem?_append_left (List.getElem?_eq_some_iff.1 h).1, h]

theorem loadA_ok (r : Rel φ H.get x w) {t : TypeId} {a : AV} {av : Value} (h : loadA P H t a = .ok v) (ha : VR φ a av) :
    ∃ val, (Instr.loadAt t av).run P w = .ok val w ∧ VR φ v val := by
  unfold loadA at h
  split at h
  · rename_i n o
    obtain ⟨l, hl, hp⟩ := R.bind_ok h
    obtain ⟨ver, el, hn⟩ := cellsOf_ok hl
    obtain ⟨b, sz, C, fr, vs, rest, hφ, hb, hs, hC, hvs, hfr⟩ := r.cells hn
    cases ha with
    | ptr hφ' =>
      rw [hφ] at hφ'; cases hφ'
      unfold Instr.loadAt Instr.sureAddr
      exact run_loadVar hp hvs (fun i u hu => by rw [cell_of hb]; exact get_append hC hu)
  · cases h

theorem loadA_var (r : Rel φ H.get x w) {t : TypeId} {n o : Nat} (h : loadA P H t (.ptr n o) = .ok v) {b sz : Nat} (hφ : φ n = some (b, sz)) :
    ∃ val, (loadVar t ⟨b, o, none⟩).run P w = .ok val w ∧ VR φ v val := by
  have := loadA_ok (P := P) r h (.ptr hφ)
  exact this

/-! ### Writing cells -/

theorem storeCells_run {b : Nat} {el : TypeId} {fr : Nat × Nat} : ∀ (vs : List Value) (o i : Nat) (w : World) (C : Array Value), w.heap[b]? = some (.cells C el fr) → (∀ j, j < C.size → (fr.1 ≤ j && j < fr.2) = false) →
    o + i + vs.length ≤ C.size → (∀ v ∈ vs, v.oneCell' = true) →
    ∃ w', (storeCells ⟨b, o, none⟩ vs i).run P w = .ok () w' ∧ w'.os = w.os ∧ w'.tape = w.tape ∧ w'.output = w.output ∧ w'.heap.size = w.heap.size ∧ (∀ k, k ≠ b → w'.heap[k]? = w.heap[k]?) ∧
      ∃ C', w'.heap[b]? = some (.cells C' el fr) ∧ C'.toList = C.toList.take (o + i) ++ vs ++ C.toList.drop (o + i + vs.length) := by
  intro vs
  induction vs with
  | nil =>
    intro o i w C hb hfr hlen hone
    exact ⟨w, rfl, rfl, rfl, rfl, rfl, fun _ _ => rfl, C, hb, by simp⟩
  | cons u vs ih =>
    intro o i w C hb hfr hlen hone
    simp only [List.length_cons] at hlen
    have hadd : (⟨b, o, none⟩ : Addr).add i = ⟨b, o + i, none⟩ := by
      unfold Addr.add; split
      · rename_i e; subst e; rfl
      · rfl
    have hc : w.cell? ⟨b, o + i, none⟩ = some (C[o + i]'(by omega)) := by rw [cell_of hb, Array.getElem?_eq_getElem (by omega)]
    have hfz : w.frozen? ⟨b, o + i, none⟩ = false := by rw [frozen_of hb]; exact hfr _ (by omega)
    let w₁ := w.setCell ⟨b, o + i, none⟩ u
    have hb₁ : w₁.heap[b]? = some (.cells (C.setIfInBounds (o + i) u) el fr) := by
      show ((w.heap.modify b _)[b]?) = _
      rw [Array.getElem?_modify, if_pos rfl, hb]
      rfl
    have hk₁ : ∀ k, k ≠ b → w₁.heap[k]? = w.heap[k]? := by
      intro k hk
      show ((w.heap.modify b _)[k]?) = _
      rw [Array.getElem?_modify, if_neg (fun e => hk e.symm)]
    obtain ⟨w', hr, h1, h2, h3, h4, h5, C', hC', hl'⟩ := ih o (i + 1) w₁ (C.setIfInBounds (o + i) u) hb₁ (fun j hj => hfr j (by simpa using hj)) (by simp; omega) (fun v hv => hone v (List.mem_cons_of_mem _ hv))
    refine ⟨w', ?_, h1, h2, h3, ?_, fun k hk => (h5 k hk).trans (hk₁ k hk), C', hC', ?_⟩
    · unfold storeCells
      rw [Sem.run_bind, hadd, run_store P w _ u .plain (hone u (List.mem_cons_self ..))]
      simp only [hc, hfz]
      simpa [Result.andThen] using hr
    · rw [h4]; show (w.heap.modify b _).size = _; rw [Array.size_modify]
    · rw [hl']
      have e1 : (C.setIfInBounds (o + i) u).toList = C.toList.set (o + i) u := by simp
      rw [e1]
      have hlt : o + i < C.toList.length := by simp; omega
      rw [show o + (i + 1) = o + i + 1 from by omega]
      rw [List.take_succ_eq_append_getElem (by simpa using hlt)]
      simp only [List.take_set_of_le (Nat.le_refl _), List.getElem_set_self]
      rw [List.drop_set_of_lt (by omega)]
      simp [Nat.add_assoc, Nat.add_comm 1]

/-- A row of cells is written over part of a block. -/
theorem writeA_ok (r : Rel φ H.get x w) {n o : Nat} {as : List AV} {vs : List Value} (h : writeA H n o as = .ok H') (hp : allPlain as = true) (hvs : VRs φ as vs) {b sz : Nat} (hφ : φ n = some (b, sz)) :
    ∃ w', (storeCells ⟨b, o, none⟩ vs).run P w = .ok () w' ∧ Step φ H.get x w φ H'.get x w' := by
  unfold writeA writeB at h
  split at h
  · rename_i ver el l e
    obtain ⟨l', hl', h2⟩ := R.bind_ok h
    cases h2
    obtain ⟨e1, e2⟩ := setS_ok _ _ _ _ hl'
    obtain ⟨b', sz', C, fr, ws, rest, hφ', hb, hs, hC, hws, hfr⟩ := r.cells e
    rw [hφ] at hφ'; cases hφ'
    have hlen := hws.length
    have hlv := hvs.length
    have hCs : C.size = ws.length + rest.length := by rw [← Array.length_toList, hC, List.length_append]
    have hone : ∀ v ∈ vs, v.oneCell' = true := by
      have hall := allPlain_mem as hp
      clear h hl' e1 e2 hlv hp
      induction as generalizing vs with
      | nil => cases hvs; intro v hv; cases hv
      | cons a t ih =>
        cases hvs with
        | cons h1 h2 =>
          intro v hv
          cases hv with
          | head => exact h1.oneCell (hall a (List.mem_cons_self ..))
          | tail _ hm => exact ih h2 (fun v hv => hall v (List.mem_cons_of_mem _ hv)) v hm
    obtain ⟨w', hr, h1, h2, h3, h4, h5, C', hC', hl2⟩ := storeCells_run (P := P) vs o 0 w C hb (fun j hj => hfr j (by omega)) (by omega) hone
    refine ⟨w', hr, step_put r e hφ (.cells el l') w' h1 h2 h3 h4 h5 ?_⟩
    simp only [Nat.add_zero] at hl2
    have hC's : C'.size = C.size := by
      rw [← Array.length_toList, hl2, ← Array.length_toList]
      simp only [List.length_append, List.length_take, List.length_drop, Array.length_toList]
      omega
    refine .cells hφ hC' (by omega) (vs := ws.take o ++ vs ++ ws.drop (o + vs.length)) (rest := rest) ?_ ?_ (fun i hi => hfr i hi)
    · rw [hl2, hC, List.take_append_of_le_length (by omega), List.drop_append_of_le_length (by omega)]
      simp [List.append_assoc]
    · rw [e1, ← hlv]
      exact ((hws.take o).append hvs).append (hws.drop _)
  · cases h

theorem storeA_ok (r : Rel φ H.get x w) {t : TypeId} {a u : AV} {av uv : Value} (h : storeA P H t a u = .ok H') (ha : VR φ a av) (hu : VR φ u uv) :
    ∃ φ' w', (Instr.storeAt t av uv).run P w = .ok () w' ∧ Step φ H.get x w φ' H'.get x w' := by
  unfold storeA at h
  split at h
  · rename_i n o
    unfold storeV at h
    obtain ⟨hj, h1⟩ := cond_ok' h
    obtain ⟨s, hs, h2⟩ := R.bind_ok h1
    obtain ⟨hl, h3⟩ := cond_ok h2
    obtain ⟨hp, h4⟩ := cond_ok h3
    obtain ⟨i, hi, hsi⟩ := sizeA_ok hs
    cases ha with
    | ptr hφ =>
      have hcs := hu.cells hj
      obtain ⟨w', hr, hst⟩ := writeA_ok (P := P) r h4 hp hcs hφ
      refine ⟨φ, w', ?_, hst⟩
      unfold Instr.storeAt Instr.sureAddr storeVar
      have hlen : uv.cells.size = i.size := by
        have := hcs.length
        rw [lenS_eq] at hl
        have := beqT hl
        rw [← Array.length_toList]; omega
      have hne : ¬ (uv.cells.size ≠ i.size) := fun h => h hlen
      simp only [Sem.run_bind, Sem.run_pure, Result.andThen, run_sizeOf hi, if_neg hne]
      exact hr
  · cases h

/-! ### New variables -/

theorem br_new {ψ : PM} {n : Nat} {el : TypeId} {l : List AV} {C : Array Value} (hψ : ψ n = some (w.heap.size, C.size)) (hl : VRs ψ l C.toList) : BR ψ (w.alloc (.cells C el)) n (.cells el l) := by
  refine .cells hψ (C := C) (fr := (0, 0)) ?_ rfl (vs := C.toList) (rest := []) (by simp) hl (fun i _ => by simp)
  show (w.heap.push _)[w.heap.size]? = _
  simp

theorem newRow_run (r : Rel φ H.get x w) (hf : φ x = none) {el : TypeId} {l : List AV} {C : Array Value} (hl : VRs φ l C.toList) :
    (newRow el C).run P w = .ok ⟨w.heap.size, 0, none⟩ (w.alloc (.cells C el)) ∧ Step φ H.get x w (φ.add x (w.heap.size, C.size)) (newB H x (.cells el l)).get (x + 1) (w.alloc (.cells C el)) := by
  refine ⟨?_, step_new r hf _ _ C.size (br_new PM.add_self (hl.mono (PM.add_ext hf)))⟩
  simp [newRow]

theorem alloc_ok (r : Rel φ H.get x w) (hf : φ x = none) {t : TypeId} {z : AV} (hz : zeroA P t = .ok z) (hj : z.isJunk = false) :
    VRun P φ H x w (Instr.alloc t true (.tuple #[])) (.ptr x 0) (newB H x (.cells t z.cells)) (x + 1) := by
  obtain ⟨i, zv, hi, hzv, rfl⟩ := zeroA_ok hz
  have hcs := (VR.ofVal φ zv).cells hj
  obtain ⟨hr, hst⟩ := newRow_run (P := P) (el := t) r hf hcs
  refine ⟨_, _, _, ?_, .ptr PM.add_self, hst⟩
  unfold Instr.alloc newVar
  simp only [Sem.run_bind, run_zeroValue hi hzv, Result.andThen, hr]
  rfl

theorem box_ok (r : Rel φ H.get x w) (hf : φ x = none) {t : TypeId} {a : AV} {av : Value} (ha : VR φ a av) (hj : a.isJunk = false) :
    VRun P φ H x w (Instr.box t av) (.ptr x 0) (newB H x (.cells t a.cells)) (x + 1) := by
  obtain ⟨hr, hst⟩ := newRow_run (P := P) (el := t) r hf (ha.cells hj)
  refine ⟨_, _, _, ?_, .ptr PM.add_self, hst⟩
  unfold Instr.box newVar
  simp only [Sem.run_bind, Result.andThen, hr]
  rfl

end Go.Ce
