/- The abstract evaluator 'Ce': each operation, run by the model, does what the evaluator says. -/
import Derived.Test.YtiellonfgcmaaaaGreatCeB
import Derived.Laws.Cells
import Derived.Laws.NewBlocks
set_option linter.unusedVariables false
set_option linter.unusedSimpArgs false
set_option linter.unusedSectionVars false
namespace Go.Ce
variable {P : Program} {φ : PM} {w : World}

/-! ### Types -/

theorem sizeA_ok {t : TypeId} {s : Nat} (h : sizeA P t = .ok s) : ∃ i, P.info? t = some i ∧ i.size = s := by
  unfold sizeA at h
  split at h
  · rename_i i hi; cases h; exact ⟨i, hi, rfl⟩
  · cases h

theorem run_sizeOf {t : TypeId} {i : TypeInfo} (h : P.info? t = some i) : (sizeOf t).run P w = .ok i.size w := by
  simp [sizeOf, typeInfo, h]

theorem run_typeInfo {t : TypeId} {i : TypeInfo} (h : P.info? t = some i) : (typeInfo t).run P w = .ok i w := by
  simp [typeInfo, h]

theorem isAggA_ok {t : TypeId} {b : Bool} (h : isAggA P t = .ok b) : ∃ d, P.underlying t = some d ∧ aggD d = b := by
  unfold isAggA at h
  split at h
  · rename_i d hd; cases h; exact ⟨d, hd, rfl⟩
  · cases h

theorem run_isAgg {t : TypeId} {d : TypeDesc} (h : P.underlying t = some d) : (isAgg t).run P w = .ok (aggD d) w := by
  unfold isAgg
  simp only [Sem.run_bind, run_underlying h, Result.andThen]
  cases d <;> rfl

theorem zeroA_ok {t : TypeId} {z : AV} (h : zeroA P t = .ok z) : ∃ i v, P.info? t = some i ∧ i.zero = some v ∧ z = ofVal v := by
  unfold zeroA at h
  split at h
  · rename_i i hi
    split at h
    · rename_i v hv; cases h; exact ⟨i, v, hi, hv, rfl⟩
    · cases h
  · cases h

theorem run_zeroValue {t : TypeId} {i : TypeInfo} {v : Value} (h : P.info? t = some i) (hz : i.zero = some v) : (zeroValue t).run P w = .ok v w := by
  simp [zeroValue, typeInfo, h, hz]

theorem elemA_ok {t e : TypeId} (h : elemA P t = .ok e) : P.underlying t = some (.slice e) := by
  unfold elemA at h
  split at h
  · rename_i e' he; cases h; exact he
  · cases h

theorem arrOf_ok {t : TypeId} {q : Nat × TypeId} (h : arrOf P t = .ok q) : P.underlying t = some (.array q.1 q.2) := by
  unfold arrOf at h
  split at h
  · rename_i n e he; cases h; exact he
  · cases h

theorem mapTy_ok {t : TypeId} {q : TypeId × TypeId} (h : mapTy P t = .ok q) : P.underlying t = some (.map q.1 q.2) := by
  unfold mapTy at h
  split at h
  · rename_i n e he; cases h; exact he
  · cases h

/-! ### Parts -/

theorem headR_ok {l : List AV} {v : AV} (h : headR l = .ok v) : ∃ r, l = v :: r := by
  cases l with
  | nil => cases h
  | cons a t => cases h; exact ⟨t, rfl⟩

theorem partA_ok {t : TypeId} {o : Nat} {l : List AV} {v : AV} (h : partA P t o l = .ok v) :
    (∃ d i, P.underlying t = some d ∧ aggD d = true ∧ P.info? t = some i ∧ v = .agg ((l.drop o).take i.size) ∧ ((l.drop o).take i.size).length = i.size) ∨
    (∃ d, P.underlying t = some d ∧ aggD d = false ∧ l[o]? = some v) := by
  unfold partA at h
  obtain ⟨b, hb, h⟩ := R.bind_ok h
  obtain ⟨d, hd, rfl⟩ := isAggA_ok hb
  cases hagg : aggD d with
  | true =>
    rw [hagg, cond_true] at h
    obtain ⟨s, hs, h2⟩ := R.bind_ok h
    obtain ⟨r, hr, h3⟩ := R.bind_ok h2
    cases h3
    obtain ⟨i, hi, rfl⟩ := sizeA_ok hs
    obtain ⟨e1, e2⟩ := subS_ok hr
    exact .inl ⟨d, i, hd, hagg, hi, by rw [e1], by rw [← e1]; exact e2⟩
  | false =>
    rw [hagg, cond_false] at h
    refine .inr ⟨d, hd, hagg, ?_⟩
    obtain ⟨r, hr⟩ := headR_ok h
    rw [dropS_eq] at hr
    have : (l.drop o)[0]? = some v := by rw [hr]; rfl
    simpa using this

theorem run_part {t : TypeId} {o : Nat} {l : List AV} {v : AV} {vs : List Value} (h : partA P t o l = .ok v) (hl : VRs φ l vs) :
    ∃ val, (part t vs.toArray o).run P w = .ok val w ∧ VR φ v val := by
  rcases partA_ok h with ⟨d, i, hd, hagg, hi, rfl, hlen⟩ | ⟨d, hd, hagg, hv⟩
  · refine ⟨.agg (vs.toArray.extract o (o + i.size)), ?_, ?_⟩
    · unfold part
      simp only [Sem.run_bind, run_isAgg hd, Result.andThen, hagg, if_true, run_sizeOf hi]
      rfl
    · have : vs.toArray.extract o (o + i.size) = ((vs.drop o).take i.size).toArray := by simp
      rw [this]
      exact .agg ((hl.drop o).take i.size)
  · obtain ⟨x, hx, hr⟩ := hl.get hv
    refine ⟨x, ?_, hr⟩
    unfold part
    simp only [Sem.run_bind, run_isAgg hd, Result.andThen, hagg]
    simp [hx]

/-- The cells of a row, read as a variable. -/
theorem run_loadVar {t : TypeId} {b o : Nat} {l : List AV} {v : AV} {vs : List Value} (h : partA P t o l = .ok v) (hl : VRs φ l vs)
    (hc : ∀ i u, vs[i]? = some u → w.cell? ⟨b, i, none⟩ = some u) : ∃ val, (loadVar t ⟨b, o, none⟩).run P w = .ok val w ∧ VR φ v val := by
  have hadd : ∀ j, (⟨b, o, none⟩ : Addr).add j = ⟨b, o + j, none⟩ := by
    intro j; unfold Addr.add; split
    · rename_i e; subst e; rfl
    · rfl
  rcases partA_ok h with ⟨d, i, hd, hagg, hi, rfl, hlen⟩ | ⟨d, hd, hagg, hv⟩
  · have hl' := (hl.drop o).take i.size
    have hlen' : ((vs.drop o).take i.size).length = i.size := hl'.length.trans hlen
    refine ⟨.agg ((vs.drop o).take i.size).toArray, ?_, .agg hl'⟩
    unfold loadVar
    simp only [Sem.run_bind, run_isAgg hd, Result.andThen, hagg, if_true, run_sizeOf hi]
    have := run_loadCells_list (P := P) (w := w) ⟨b, o, none⟩ ((vs.drop o).take i.size) (fun j u hj => by
      rw [hadd]
      refine hc _ _ ?_
      rw [List.getElem?_take] at hj
      split at hj
      · simpa using hj
      · cases hj)
    rw [hlen'] at this
    rw [this]
    rfl
  · obtain ⟨x, hx, hr⟩ := hl.get hv
    refine ⟨x, ?_, hr⟩
    unfold loadVar
    simp only [Sem.run_bind, run_isAgg hd, Result.andThen, hagg]
    simp [hc o x hx]

/-! ### The heap: new blocks, writes -/

theorem Rel.size_pos {h : HF} {x : Nat} (r : Rel φ h x w) {n : Nat} {b : Blk} (hn : h n = some b) : ∃ y, φ n = some y ∧ y.1 < w.heap.size := by
  obtain ⟨y, o, hy, ho⟩ := (r.blk n b hn).known
  exact ⟨y, hy, (Array.getElem?_eq_some_iff.1 ho).1⟩

/-- φ with one name more. -/
def PM.add (φ : PM) (x : Nat) (y : Nat × Nat) : PM := fun n => if n = x then some y else φ n

theorem PM.add_ext {x : Nat} {y : Nat × Nat} (h : φ x = none) : Ext φ (φ.add x y) := by
  intro n z hz
  unfold PM.add
  split
  · rename_i e; subst e; rw [h] at hz; cases hz
  · exact hz

theorem PM.add_self {x : Nat} {y : Nat × Nat} : φ.add x y x = some y := by simp [PM.add]
theorem PM.add_ne {x n : Nat} {y : Nat × Nat} (h : n ≠ x) : φ.add x y n = φ n := by simp [PM.add, h]

/-- A new block. -/
theorem step_new {H : Hp} {x : Nat} (r : Rel φ H.get x w) (hf : φ x = none) (o : Obj) (b : AB) (sz : Nat)
    (hb : BR (φ.add x (w.heap.size, sz)) (w.alloc o) x b) : Step φ H.get x w (φ.add x (w.heap.size, sz)) (newB H x b).get (x + 1) (w.alloc o) := by
  have hsz : (w.alloc o).heap.size = w.heap.size + 1 := Array.size_push ..
  have hlook : ∀ k, k < w.heap.size → (w.alloc o).heap[k]? = w.heap[k]? := by
    intro k hk
    show (w.heap.push o)[k]? = _
    rw [Array.getElem?_push, if_neg (by omega)]
  have hnx : ∀ n, (H.get n).isSome = true → n ≠ x := fun n hn => by have := r.bnd n hn; omega
  have hold : ∀ n, ((newB H x b).get n).isSome = true → n = x ∨ (n ≠ x ∧ (H.get n).isSome = true) := by
    intro n hn
    obtain ⟨q, hq⟩ := Option.isSome_iff_exists.1 hn
    rcases Tr.get_ins hq with ⟨e, _⟩ | ⟨e, h2⟩
    · exact .inl e
    · exact .inr ⟨e, by rw [h2]; rfl⟩
  refine { rel := ⟨?_, ?_, ?_⟩, ext := PM.add_ext hf, dom := ?_, le := Nat.le_succ _, frame := ?_, live := ?_, size := by omega, os := rfl, tape := rfl, output := rfl, old := ?_, ver := ?_, same := fun n _ _ y hn _ _ hy => hlook _ (r.lt (by rw [hn]; rfl) hy), bnd := r.bnd }
  · intro n q hq
    rcases Tr.get_ins hq with ⟨rfl, rfl⟩ | ⟨e, h2⟩
    · exact hb
    · refine (r.blk n q h2).kept (PM.add_ext hf) (fun y hy => hlook _ ?_)
      exact r.lt (by rw [h2]; rfl) hy
  · intro n m y z hn hm hy hz e
    rcases hold n hn with rfl | ⟨hne, hn'⟩ <;> rcases hold m hm with rfl | ⟨hme, hm'⟩
    · rfl
    · rw [PM.add_self] at hy; rw [PM.add_ne hme] at hz
      cases hy
      have := r.lt hm' hz
      omega
    · rw [PM.add_self] at hz; rw [PM.add_ne hne] at hy
      cases hz
      have := r.lt hn' hy
      omega
    · rw [PM.add_ne hne] at hy; rw [PM.add_ne hme] at hz
      exact r.inj n m y z hn' hm' hy hz e
  · intro n hn
    rcases hold n hn with rfl | ⟨_, hn'⟩
    · omega
    · have := r.bnd n hn'; omega
  · intro n hn
    exact PM.add_ne (by omega)
  · intro k hk _
    exact hlook k hk
  · intro n y hn hy
    rcases hold n hn with rfl | ⟨hne, hn'⟩
    · rw [PM.add_self] at hy; cases hy; exact .inl (Nat.le_refl _)
    · rw [PM.add_ne hne] at hy
      exact .inr ⟨n, y, hn', hy, rfl⟩
  · intro n hlt hn
    rcases hold n hn with rfl | ⟨_, hn'⟩
    · omega
    · exact hn'
  · intro n q q' hq hq'
    rcases Tr.get_ins hq' with ⟨rfl, _⟩ | ⟨e, h2⟩
    · exact absurd rfl (hnx n (by rw [hq]; rfl))
    · rw [hq] at h2; cases h2; exact ⟨Nat.le_refl _, fun _ => rfl⟩

/-- A block is written. -/
theorem step_put {H : Hp} {x : Nat} (r : Rel φ H.get x w) {n : Nat} {q : Blk} (hn : H.get n = some q) {y : Nat × Nat} (hy : φ n = some y) (b : AB) (w' : World)
    (hos : w'.os = w.os) (htape : w'.tape = w.tape) (hout : w'.output = w.output) (hsz : w'.heap.size = w.heap.size) (hlook : ∀ k, k ≠ y.1 → w'.heap[k]? = w.heap[k]?)
    (hb : BR φ w' n b) : Step φ H.get x w φ (H.ins dH n ⟨q.v + 1, b⟩).get x w' := by
  have hold : ∀ m, ((H.ins dH n ⟨q.v + 1, b⟩).get m).isSome = true → (H.get m).isSome = true := by
    intro m hm
    obtain ⟨u, hu⟩ := Option.isSome_iff_exists.1 hm
    rcases Tr.get_ins hu with ⟨rfl, _⟩ | ⟨e, h2⟩
    · rw [hn]; rfl
    · rw [h2]; rfl
  refine { rel := ⟨?_, ?_, ?_⟩, ext := Ext.refl _, dom := fun _ _ => rfl, le := Nat.le_refl _, frame := ?_, live := ?_, size := by omega, os := hos, tape := htape, output := hout, old := fun m _ h => hold m h, ver := ?_, same := ?_, bnd := r.bnd }
  · intro m u hu
    rcases Tr.get_ins hu with ⟨rfl, rfl⟩ | ⟨e, h2⟩
    · exact hb
    · refine (r.blk m u h2).kept (Ext.refl _) (fun z hz => hlook _ fun e' => e ?_)
      exact r.inj m n z y (by rw [h2]; rfl) (by rw [hn]; rfl) hz hy e'
  · intro m k z u hm hk hz hu e
    exact r.inj m k z u (hold m hm) (hold k hk) hz hu e
  · intro m hm
    exact r.bnd m (hold m hm)
  · intro k _ hnot
    exact hlook k (fun e => hnot n y (by rw [hn]; rfl) hy e.symm)
  · intro m z hm hz
    exact .inr ⟨m, z, hold m hm, hz, rfl⟩
  · intro m u u' hu hu'
    rcases Tr.get_ins hu' with ⟨rfl, rfl⟩ | ⟨e, h2⟩
    · rw [hn] at hu; cases hu
      exact ⟨Nat.le_succ _, fun e => absurd e (by show q.v ≠ q.v + 1; omega)⟩
    · rw [hu] at h2; cases h2; exact ⟨Nat.le_refl _, fun _ => rfl⟩
  · intro m u u' z hu hu' e hz
    rcases Tr.get_ins hu' with ⟨rfl, rfl⟩ | ⟨hne, h2⟩
    · rw [hn] at hu; cases hu
      exact absurd e (by show q.v ≠ q.v + 1; omega)
    · exact hlook _ fun e' => hne (r.inj m n z y (by rw [hu]; rfl) (by rw [hn]; rfl) hz hy e')

/-- A name is given up. -/
theorem step_del {H : Hp} {x : Nat} (r : Rel φ H.get x w) (n : Nat) : Step φ H.get x w φ (H.del dH n).get x w := by
  have hold : ∀ m, ((H.del dH n).get m).isSome = true → (H.get m).isSome = true := by
    intro m hm
    obtain ⟨u, hu⟩ := Option.isSome_iff_exists.1 hm
    rw [(Tr.get_del hu).2]; rfl
  refine { rel := ⟨?_, ?_, ?_⟩, ext := Ext.refl _, dom := fun _ _ => rfl, le := Nat.le_refl _, frame := fun _ _ _ => rfl, live := ?_, size := Nat.le_refl _, os := rfl, tape := rfl, output := rfl, old := fun m _ h => hold m h, ver := ?_, same := fun _ _ _ _ _ _ _ _ => rfl, bnd := r.bnd }
  · intro m u hu
    exact r.blk m u (Tr.get_del hu).2
  · intro m k z u hm hk hz hu e
    exact r.inj m k z u (hold m hm) (hold k hk) hz hu e
  · intro m hm
    exact r.bnd m (hold m hm)
  · intro m z hm hz
    exact .inr ⟨m, z, hold m hm, hz, rfl⟩
  · intro m u u' hu hu'
    have h2 := (Tr.get_del hu').2
    rw [hu] at h2; cases h2; exact ⟨Nat.le_refl _, fun _ => rfl⟩

end Go.Ce
