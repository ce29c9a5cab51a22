/- The abstract evaluator 'Ce': len, cap, append, copy. -/
import Derived.Test.YtiellonfgcmaaaaGreatCeK
import Derived.Laws.Append
set_option linter.unusedVariables false
set_option linter.unusedSimpArgs false
set_option linter.unusedSectionVars false
namespace Go.Ce
variable {P : Program} {φ : PM} {w : World} {H H' : Hp} {x x' : Nat} {v : AV}

theorem str_len (s : ByteArray) : s.data.toList.length = s.size := by rw [Array.length_toList]; rfl

theorem i64_ok (n : Nat) : VR φ (i64 n) (goInt n) := .int .i64 n

theorem lenA_ok (r : Rel φ H.get x w) {t ty : TypeId} {ts : Array TypeId} (ht : ts[0]? = some t) {a : AV} {av : Value} (h : lenA P H t a = .ok v) (ha : VR φ a av) :
    ∃ val, (Builtin.len_ ts ty #[av]).run P w = .ok val w ∧ VR φ v val := by
  have harg : (#[av] : Array Value)[0]? = some av := rfl
  unfold lenA at h
  unfold Builtin.len_
  split at h
  · rename_i e hu
    split at h
    · cases h; cases ha
      exact ⟨_, by simp only [ht, harg, Sem.run_bind, run_underlying hu, Result.andThen_ok, Sem.run_pure], i64_ok _⟩
    · cases h; cases ha
      exact ⟨_, by simp only [ht, harg, Sem.run_bind, run_underlying hu, Result.andThen_ok, Sem.run_pure], i64_ok _⟩
    · cases h; cases ha
      exact ⟨_, by simp only [ht, harg, Sem.run_bind, run_underlying hu, Result.andThen_ok, Sem.run_pure], i64_ok _⟩
    · cases h
  · rename_i hu
    split at h
    · cases h
      obtain ⟨s, rfl, rfl⟩ := str_of ha
      refine ⟨goInt s.size, by simp only [ht, harg, Sem.run_bind, run_underlying hu, Result.andThen_ok, Sem.run_pure], ?_⟩
      rw [str_len]; exact i64_ok _
    · cases h
  · rename_i n e hu
    cases h
    exact ⟨goInt n, by simp only [ht, harg, Sem.run_bind, run_underlying hu, Result.andThen_ok, Sem.run_pure], i64_ok _⟩
  · rename_i ar hu
    obtain ⟨q, hq, h2⟩ := R.bind_ok h
    have hu2 := arrOf_ok hq
    cases h2
    exact ⟨goInt q.1, by simp only [ht, harg, Sem.run_bind, run_underlying hu, run_underlying hu2, Result.andThen_ok, Sem.run_pure], i64_ok _⟩
  · rename_i kt et hu
    obtain ⟨es, hes, h2⟩ := R.bind_ok h
    cases h2
    obtain ⟨ev, hev, hers⟩ := entriesA_ok r hes ha
    have hl : es.length = ev.size := by
      rw [← Array.length_toList]
      clear hev h hes
      generalize ev.toList = l at hers
      induction hers with
      | nil => rfl
      | cons _ _ _ ih => simp [ih]
    rw [hl]
    refine ⟨goInt ev.size, ?_, i64_ok _⟩
    rcases hev with ⟨rfl, rfl⟩ | ⟨b, c, rfl, hb⟩
    · simp only [ht, harg, Sem.run_bind, run_underlying hu, Result.andThen_ok, Sem.run_pure]; rfl
    · simp only [ht, harg, Sem.run_bind, run_underlying hu, run_getObj_map hb, Result.andThen_ok, Sem.run_pure]
  · cases h

theorem capA_ok {t ty : TypeId} {ts : Array TypeId} (ht : ts[0]? = some t) {a : AV} {av : Value} (h : capA P t a = .ok v) (ha : VR φ a av) :
    ∃ val, (Builtin.cap_ ts ty #[av]).run P w = .ok val w ∧ VR φ v val := by
  have harg : (#[av] : Array Value)[0]? = some av := rfl
  unfold capA at h
  unfold Builtin.cap_
  split at h
  · rename_i e hu
    split at h
    · cases h
      cases ha with
      | slice hφ h1 h2 h3 =>
        rename_i cap
        have := h2 rfl
        subst this
        exact ⟨_, by simp only [ht, harg, Sem.run_bind, run_underlying hu, Result.andThen_ok, Sem.run_pure], i64_ok _⟩
    · cases h; cases ha
      exact ⟨_, by simp only [ht, harg, Sem.run_bind, run_underlying hu, Result.andThen_ok, Sem.run_pure], i64_ok _⟩
    · cases h
  · rename_i n e hu
    cases h
    exact ⟨goInt n, by simp only [ht, harg, Sem.run_bind, run_underlying hu, Result.andThen_ok, Sem.run_pure], i64_ok _⟩
  · cases h

/-! ### Elements -/

theorem lenOfA_ok {a : AV} {av : Value} {n : Nat} (h : lenOfA a = .ok n) (ha : VR φ a av) : (Builtin.lenOf av).run P w = .ok n w := by
  unfold lenOfA at h
  split at h
  · cases h; cases ha; rfl
  · cases h; cases ha; rfl
  · cases h; cases ha; rfl
  · cases h
    obtain ⟨s, rfl, rfl⟩ := str_of ha
    rw [str_len]; rfl
  · cases h

theorem firstA_ok (r : Rel φ H.get x w) {s n : Nat} {a : AV} {av : Value} {l : List AV} (h : firstA H s n a = .ok l) (ha : VR φ a av) :
    ∃ vs, (∀ w' : World, w'.heap = w.heap → (Builtin.firstCells s n av).run P w' = .ok vs.toArray w') ∧ VRs φ l vs := by
  unfold firstA at h
  split at h
  · rename_i m o _ _ _ _
    obtain ⟨cs, hcs, h2⟩ := R.bind_ok h
    obtain ⟨h3, h4⟩ := subS_ok h2
    subst h3
    obtain ⟨ver, elc, hn⟩ := cellsOf_ok hcs
    obtain ⟨B, sz, C, fr, ws, rest, hφ, hbk, hs, hC, hws, hfr⟩ := r.cells hn
    cases ha with
    | slice hφ' h1 h2 h3 =>
      rw [hφ] at hφ'; cases hφ'
      have hl := (hws.drop o).take (n * s)
      refine ⟨_, fun w' hw => run_firstCells_some w' s n ⟨B, o, none⟩ _ _ ((ws.drop o).take (n * s)) (hl.length.trans h4) (fun j u hj => ?_), hl⟩
      rw [add_mk]
      have : w'.cell? ⟨B, o + j, none⟩ = w.cell? ⟨B, o + j, none⟩ := by simp only [World.cell?, hw]
      rw [this, cell_of hbk]
      refine get_append hC ?_
      rw [List.getElem?_take] at hj
      split at hj
      · simpa using hj
      · cases hj
  · cases h; cases ha; exact ⟨[], fun _ _ => rfl, .nil⟩
  · obtain ⟨h0, h2⟩ := cond_ok h
    cases h2
    cases ha with
    | emptySlice a cap =>
      refine ⟨[], fun w' _ => ?_, .nil⟩
      show (loadCells a (n * s)).run P w' = _
      rw [beqT h0]; rfl
  · cases h
    obtain ⟨b, rfl, rfl⟩ := str_of ha
    refine ⟨_, fun w' _ => ?_, by rw [intsOf_eq, takeB_eq]; exact .ints _⟩
    show Result.ok _ _ = _
    congr 1
    apply Array.ext'
    simp only [Array.toList_map, ByteArray.data_extract, Array.toList_extract, List.extract_eq_take_drop, Nat.sub_zero, List.drop_zero]
  · cases h

theorem zeroCellsA_ok {inf : TypeInfo} {n : Nat} {l : List AV} (h : zeroCellsA inf n = .ok l) (φ : PM) :
    (n * inf.size = 0 ∧ l = []) ∨ (n * inf.size ≠ 0 ∧ ∃ z vs, inf.zero = some z ∧ (Builtin.zeroCells z.cells n) = vs.toArray ∧ VRs φ l vs) := by
  unfold zeroCellsA at h
  cases h0 : Nat.beq (n * inf.size) 0 with
  | true => rw [h0, cond_true] at h; cases h; exact .inl ⟨beqT h0, rfl⟩
  | false =>
    rw [h0, cond_false] at h
    refine .inr ⟨beqN h0, ?_⟩
    split at h
    · cases h
    · rename_i z hz
      obtain ⟨hj, h1⟩ := cond_ok' h
      obtain ⟨hl, h2⟩ := cond_ok h1
      cases h2
      rw [lenS_eq] at hl
      have hl := beqT hl
      have hcs := (VR.ofVal φ z).cells hj
      have hlen := hcs.length
      refine ⟨z, _, hz, ?_, by rw [repS_eq, List.append_nil]; exact hcs.replicate n⟩
      apply Array.ext'
      unfold Builtin.zeroCells
      exact zeros_eq z.cells n z.cells.size rfl

/-- What is appended, as the model has it. -/
inductive Src2 (P : Program) (inf : TypeInfo) (ud : TypeDesc) (y : Value) (n : Nat) (vs : List Value) (w : World) : Prop
  | of (hd : ∀ k, ud ≠ .int k) (hl : (Builtin.lenOf y).run P w = .ok n w) (hc : ∀ w', w'.heap = w.heap → (Builtin.firstCells inf.size n y).run P w' = .ok vs.toArray w')
  | zeros (k : IntKind) (hd : ud = .int k) (k' : IntKind) (hy : y = .int k' n) (hw : IntKind.i64.wrap n = n) (hb : n * inf.bytes ≤ 281474976710656)
      (hc : (n * inf.size = 0 ∧ vs = []) ∨ (n * inf.size ≠ 0 ∧ ∃ z, inf.zero = some z ∧ Builtin.zeroCells z.cells n = vs.toArray))

theorem wrap_nat {n : Nat} (h : n ≤ 9223372036854775807) : IntKind.i64.wrap (n : Int) = n := by
  rw [IntKind.wrap_i64]; omega

theorem newCells_ok (r : Rel φ H.get x w) {inf : TypeInfo} {ud : TypeDesc} {y : AV} {yv : Value} {q : Nat × List AV} (h : newCells H inf ud y = .ok q) (hy : VR φ y yv) :
    ∃ vs, Src2 P inf ud yv q.1 vs w ∧ VRs φ q.2 vs ∧ allPlain q.2 = true ∧ q.2.length = q.1 * inf.size := by
  have hpl : ∀ {n : Nat} {l : List AV}, plainR inf.size n l = .ok q → q = (n, l) ∧ allPlain l = true ∧ l.length = n * inf.size := by
    intro n l h
    unfold plainR at h
    obtain ⟨h1, h2⟩ := cond_ok h
    obtain ⟨h3, h4⟩ := cond_ok h2
    rw [lenS_eq] at h3
    have := beqT h3
    cases h4
    exact ⟨rfl, h1, by omega⟩
  unfold newCells at h
  split at h
  · rename_i k
    obtain ⟨n, hn, h2⟩ := R.bind_ok h
    obtain ⟨hle, h3⟩ := cond_ok h2
    obtain ⟨l, hl, h4⟩ := R.bind_ok h3
    obtain ⟨rfl, h5, h6⟩ := hpl h4
    obtain ⟨k', rfl⟩ := idxOf_ok hn hy
    simp only [Bool.and_eq_true] at hle
    have hb := bleT hle.1
    have hw := wrap_nat (bleT hle.2)
    rcases zeroCellsA_ok hl φ with ⟨h0, rfl⟩ | ⟨h0, z, vs, hz, hzc, hvs⟩
    · exact ⟨[], .zeros k rfl k' rfl hw hb (.inl ⟨h0, rfl⟩), .nil, h5, h6⟩
    · exact ⟨vs, .zeros k rfl k' rfl hw hb (.inr ⟨h0, z, hz, hzc⟩), hvs, h5, h6⟩
  · rename_i d hd
    obtain ⟨n, hn, h2⟩ := R.bind_ok h
    obtain ⟨l, hl, h4⟩ := R.bind_ok h2
    obtain ⟨rfl, h5, h6⟩ := hpl h4
    obtain ⟨vs, hvs, hv2⟩ := firstA_ok (P := P) r hl hy
    exact ⟨vs, .of (fun k e => hd k e) (lenOfA_ok hn hy) hvs, hv2, h5, h6⟩

/-! ### append -/

theorem notInt {ud : TypeDesc} (hd : ∀ k, ud ≠ .int k) : (match ud with | .int _ => true | _ => false) = false := by
  cases ud <;> first | exact absurd rfl (hd _) | rfl

/-- append, where there is room. -/
theorem run_append_room {t u ty el : TypeId} {ts : Array TypeId} (ht : ts[0]? = some t) (htu : ts[1]? = some u) {ud : TypeDesc} (hu : P.underlying u = some ud) (hel : P.underlying t = some (.slice el)) {inf : TypeInfo} (hi : P.info? el = some inf)
    {base : Option Addr} {sLen sCap n : Nat} {y : Value} {vs : List Value} (hs : Src2 P inf ud y n vs w) (hle : sLen + n ≤ sCap) :
    (Builtin.append_ ts ty #[.slice base sLen sCap, y]).run P w = ((match base with | some a => storeCells (a.add (sLen * inf.size)) vs | none => pure ()).run P w).andThen fun _ w => .ok (.slice base (sLen + n) sCap) w := by
  have hargs0 : (#[Value.slice base sLen sCap, y] : Array Value)[0]? = some (.slice base sLen sCap) := rfl
  have hargs1 : (#[Value.slice base sLen sCap, y] : Array Value)[1]? = some y := rfl
  unfold Builtin.append_
  simp only [ht, htu, hargs0, hargs1, Sem.run_bind, run_underlying hel, run_underlying hu, Result.andThen_ok, run_sizeOf hi, Sem.run_pure]
  cases hs with
  | of hd hl hc =>
    have hc := hc w rfl
    rw [if_neg]
    rotate_left
    · cases ud <;> first | exact absurd rfl (hd _) | exact Bool.false_ne_true
    rw [Sem.run_bind, hl, Result.andThen_ok, if_pos hle, Sem.run_bind, if_pos]
    rotate_left
    · cases ud <;> first | exact absurd rfl (hd _) | rfl
    rw [hc, Result.andThen_ok]
    cases base with
    | none => rfl
    | some a => simp only [Sem.run_bind, Sem.run_pure]
  | zeros k hd k' hy hw hb hc =>
    subst hd hy
    simp only []
    rw [if_pos trivial, Sem.run_bind]
    have ha : (asInt (.int k' (n : Int))).run P w = .ok (n : Int) w := rfl
    have h48 : ((2 : Int) ^ 48) = 281474976710656 := by decide
    have hb' : ¬ ((n : Int) * (inf.bytes : Int) > 281474976710656) := by
      rw [← Int.natCast_mul]; omega
    rw [ha, Result.andThen_ok, hw, if_neg (by omega), Sem.run_bind, run_typeInfo hi, Result.andThen_ok, h48, if_neg hb', Sem.run_bind, Sem.run_pure, Result.andThen_ok, Int.toNat_natCast, if_pos hle, Sem.run_bind, if_neg (by decide)]
    rcases hc with ⟨h0, rfl⟩ | ⟨h0, z, hz, hzc⟩
    · rw [if_pos h0, Sem.run_pure, Result.andThen_ok]
      cases base with
      | none => rfl
      | some a => simp only [Sem.run_bind, Sem.run_pure]
    · rw [if_neg h0, Sem.run_bind, run_zeroValue hi hz, Result.andThen_ok, Sem.run_pure, Result.andThen_ok, hzc]
      cases base with
      | none => rfl
      | some a => simp only [Sem.run_bind, Sem.run_pure]

theorem cut_cap {need old : Nat} {el : TypeId} (t : Nat) : need ≤ (Question.appendCap need old el).cut t := Nat.le_add_right _ _

/-- append, where there is none: a new row, of whatever capacity. -/
theorem run_append_grow {t u ty el : TypeId} {ts : Array TypeId} (ht : ts[0]? = some t) (htu : ts[1]? = some u) {ud : TypeDesc} (hu : P.underlying u = some ud) (hel : P.underlying t = some (.slice el)) {inf : TypeInfo} (hi : P.info? el = some inf)
    {z : Value} (hz : inf.zero = some z) (hzs : z.cells.size = inf.size) {base : Option Addr} {sLen sCap n : Nat} {y : Value} {vs olds : List Value} (hs : Src2 P inf ud y n vs w) (hgt : ¬ sLen + n ≤ sCap)
    (hbytes : inf.bytes ≠ 0) (hroom : 4 * (sLen + n) * inf.bytes ≤ 281474976710656) (ho : ∀ w' : World, w'.heap = w.heap → (Builtin.firstCells inf.size sLen (.slice base sLen sCap)).run P w' = .ok olds.toArray w') :
    ∃ cap rest, sLen + n ≤ cap ∧ rest.length = (cap - (sLen + n)) * inf.size ∧
      (Builtin.append_ ts ty #[.slice base sLen sCap, y]).run P w = .ok (.slice (some ⟨w.heap.size, 0, none⟩) (sLen + n) cap) (w.drew.alloc (.cells (olds ++ vs ++ rest).toArray el)) := by
  have hargs0 : (#[Value.slice base sLen sCap, y] : Array Value)[0]? = some (.slice base sLen sCap) := rfl
  have hargs1 : (#[Value.slice base sLen sCap, y] : Array Value)[1]? = some y := rfl
  have hneed : 4 * (sLen + n) ≤ 281474976710656 := Nat.le_trans (Nat.le_mul_of_pos_right _ (Nat.pos_of_ne_zero hbytes)) hroom
  have hnext := nextslicecap_le (need := sLen + n) (old := sCap) (by omega)
  have h48n : Builtin.nextslicecap (sLen + n) sCap * inf.bytes ≤ 281474976710656 := by
    refine Nat.le_trans (Nat.mul_le_mul_right _ hnext) (Nat.le_trans (Nat.mul_le_mul_right _ ?_) hroom)
    omega
  let cap := (Question.appendCap (sLen + n) sCap el).cut (w.tape w.drawn (.appendCap (sLen + n) sCap el))
  have hcap : sLen + n ≤ cap := cut_cap _
  refine ⟨cap, (Builtin.zeroCells z.cells (cap - (sLen + n))).toList, hcap, ?_, ?_⟩
  · unfold Builtin.zeroCells; simp [hzs]
  have h63 : ¬ (((sLen + n : Nat) : Int) > IntKind.i64.max) := by
    have : IntKind.i64.max = 9223372036854775807 := by decide
    omega
  have hq : (Question.appendCap (sLen + n) sCap el).forced = false := rfl
  have hch : (choose (.appendCap (sLen + n) sCap el)).run P w = .ok cap w.drew := by
    rw [run_choose, hq]; rfl
  have hold := ho w.drew rfl
  have hrows : ∀ A : Array Value, olds.toArray ++ vs.toArray ++ A = (olds ++ vs ++ A.toList).toArray := by intro A; apply Array.ext'; simp
  have hrow : ∀ c, (newRow el c).run P w.drew = .ok ⟨w.heap.size, 0, none⟩ (w.drew.alloc (.cells c el)) := fun c => rfl
  unfold Builtin.append_
  simp only [ht, htu, hargs0, hargs1, Sem.run_bind, run_underlying hel, run_underlying hu, Result.andThen_ok, run_sizeOf hi, Sem.run_pure]
  cases hs with
  | of hd hl hc =>
    have hc := hc w.drew rfl
    rw [if_neg]
    rotate_left
    · cases ud <;> first | exact absurd rfl (hd _) | exact Bool.false_ne_true
    rw [Sem.run_bind, hl, Result.andThen_ok, if_neg hgt, Sem.run_bind, run_typeInfo hi, Result.andThen_ok, if_neg (fun e => h63 e.1), Sem.run_bind, run_typeInfo hi, Result.andThen_ok, if_neg (by omega)]
    rw [Sem.run_bind, hch, Result.andThen_ok, Sem.run_bind, run_typeInfo hi, Result.andThen_ok, Sem.run_bind, run_askRoom, Result.andThen_ok, Sem.run_bind, hold, Result.andThen_ok, Sem.run_bind, if_pos]
    rotate_left
    · cases ud <;> first | exact absurd rfl (hd _) | rfl
    rw [hc, Result.andThen_ok, Sem.run_bind, run_zeroValue hi hz, Result.andThen_ok, Sem.run_bind, hrow, Result.andThen_ok, Sem.run_pure, ← hrows]
  | zeros k hd k' hy hw hb hc =>
    subst hd hy
    simp only []
    rw [if_pos trivial, Sem.run_bind]
    have ha : (asInt (.int k' (n : Int))).run P w = .ok (n : Int) w := rfl
    have h48 : ((2 : Int) ^ 48) = 281474976710656 := by decide
    have hb' : ¬ ((n : Int) * (inf.bytes : Int) > 281474976710656) := by
      rw [← Int.natCast_mul]; omega
    rw [ha, Result.andThen_ok, hw, if_neg (by omega), Sem.run_bind, run_typeInfo hi, Result.andThen_ok, h48, if_neg hb', Sem.run_bind, Sem.run_pure, Result.andThen_ok, Int.toNat_natCast, if_neg hgt]
    rw [Sem.run_bind, run_typeInfo hi, Result.andThen_ok, if_neg (fun e => h63 e.1), Sem.run_bind, run_typeInfo hi, Result.andThen_ok, if_neg (by omega)]
    rw [Sem.run_bind, hch, Result.andThen_ok, Sem.run_bind, run_typeInfo hi, Result.andThen_ok, Sem.run_bind, run_askRoom, Result.andThen_ok, Sem.run_bind, hold, Result.andThen_ok, Sem.run_bind, if_neg (by decide)]
    rcases hc with ⟨h0, rfl⟩ | ⟨h0, z', hz', hzc⟩
    · rw [if_pos h0, Sem.run_pure, Result.andThen_ok, Sem.run_bind, run_zeroValue hi hz, Result.andThen_ok, Sem.run_bind, hrow, Result.andThen_ok, Sem.run_pure, ← hrows]
    · rw [if_neg h0, Sem.run_bind, run_zeroValue hi hz', Result.andThen_ok, Sem.run_pure, Result.andThen_ok, hzc, Sem.run_bind, run_zeroValue hi hz, Result.andThen_ok, Sem.run_bind, hrow, Result.andThen_ok, Sem.run_pure, ← hrows]

/-! ### Steps -/

theorem Rel.heap {φ : PM} {h : HF} {x : Nat} {w w' : World} (r : Rel φ h x w) (e : w'.heap = w.heap) : Rel φ h x w' :=
  ⟨fun n b hb => (r.blk n b hb).kept (Ext.refl _) fun _ _ => by rw [e], r.inj, r.bnd⟩

theorem step_heap (r : Rel φ H.get x w) {w' : World} (e : w'.heap = w.heap) (hos : w'.os = w.os) (htape : w'.tape = w.tape) (hout : w'.output = w.output) : Step φ H.get x w φ H.get x w' where
  rel := r.heap e
  ext := Ext.refl _
  dom := fun _ _ => rfl
  le := Nat.le_refl _
  frame := fun _ _ _ => by rw [e]
  live := fun n y hn hy => .inr ⟨n, y, hn, hy, rfl⟩
  size := by rw [e]; exact Nat.le_refl _
  os := hos
  tape := htape
  output := hout
  old := fun _ _ h => h
  ver := fun n b b' hb hb' => by rw [hb] at hb'; cases hb'; exact ⟨Nat.le_refl _, fun _ => rfl⟩
  same := fun _ _ _ _ _ _ _ _ => by rw [e]
  bnd := r.bnd

/-- A name is given up for a new one, of the same block. -/
theorem step_alias (r : Rel φ H.get x w) (hf : φ x = none) {m : Nat} (hm : (H.get m).isSome = true) {y : Nat × Nat} (hy : φ m = some y) (b : AB) (w' : World)
    (hos : w'.os = w.os) (htape : w'.tape = w.tape) (hout : w'.output = w.output) (hsz : w'.heap.size = w.heap.size) (hlook : ∀ k, k ≠ y.1 → w'.heap[k]? = w.heap[k]?)
    (hb : BR (φ.add x y) w' x b) : Step φ H.get x w (φ.add x y) (newB (H.del dH m) x b).get (x + 1) w' := by
  have hnx : ∀ n, (H.get n).isSome = true → n ≠ x := fun n hn => by have := r.bnd n hn; omega
  have hget : ∀ n q, (newB (H.del dH m) x b).get n = some q → (n = x ∧ q = ⟨0, b⟩) ∨ (n ≠ x ∧ n ≠ m ∧ H.get n = some q) := by
    intro n q hq
    rcases Tr.get_ins hq with ⟨e, e2⟩ | ⟨e, h2⟩
    · exact .inl ⟨e, e2⟩
    · have := Tr.get_del h2
      exact .inr ⟨e, this.1, this.2⟩
  have hold : ∀ n, ((newB (H.del dH m) x b).get n).isSome = true → n = x ∨ (n ≠ x ∧ n ≠ m ∧ (H.get n).isSome = true) := by
    intro n hn
    obtain ⟨q, hq⟩ := Option.isSome_iff_exists.1 hn
    rcases hget n q hq with ⟨e, _⟩ | ⟨e, e2, h2⟩
    · exact .inl e
    · exact .inr ⟨e, e2, by rw [h2]; rfl⟩
  refine { rel := ⟨?_, ?_, ?_⟩, ext := PM.add_ext hf, dom := ?_, le := Nat.le_succ _, frame := ?_, live := ?_, size := by omega, os := hos, tape := htape, output := hout, old := ?_, ver := ?_, same := ?_, bnd := r.bnd }
  · intro n q hq
    rcases hget n q hq with ⟨rfl, rfl⟩ | ⟨e, e2, h2⟩
    · exact hb
    · refine (r.blk n q h2).kept (PM.add_ext hf) (fun z hz => hlook _ fun e' => e2 ?_)
      exact r.inj n m z y (by rw [h2]; rfl) hm hz hy e'
  · intro n k z u hn hk hz hu e
    rcases hold n hn with rfl | ⟨hne, hnm, hn'⟩ <;> rcases hold k hk with rfl | ⟨hke, hkm, hk'⟩
    · rfl
    · rw [PM.add_self] at hz; cases hz
      rw [PM.add_ne hke] at hu
      exact absurd (r.inj m k y u hm hk' hy hu e).symm hkm
    · rw [PM.add_self] at hu; cases hu
      rw [PM.add_ne hne] at hz
      exact absurd (r.inj n m z y hn' hm hz hy e) hnm
    · rw [PM.add_ne hne] at hz; rw [PM.add_ne hke] at hu
      exact r.inj n k z u hn' hk' hz hu e
  · intro n hn
    rcases hold n hn with rfl | ⟨_, _, hn'⟩
    · omega
    · have := r.bnd n hn'; omega
  · intro n hn
    exact PM.add_ne (by omega)
  · intro k _ hnot
    exact hlook k (fun e => hnot m y hm hy e.symm)
  · intro n z hn hz
    rcases hold n hn with rfl | ⟨hne, _, hn'⟩
    · rw [PM.add_self] at hz; cases hz; exact .inr ⟨m, y, hm, hy, rfl⟩
    · rw [PM.add_ne hne] at hz
      exact .inr ⟨n, z, hn', hz, rfl⟩
  · intro n hlt hn
    rcases hold n hn with rfl | ⟨_, _, hn'⟩
    · omega
    · exact hn'
  · intro n q q' hq hq'
    rcases hget n q' hq' with ⟨rfl, _⟩ | ⟨e, _, h2⟩
    · exact absurd rfl (hnx n (by rw [hq]; rfl))
    · rw [hq] at h2; cases h2; exact ⟨Nat.le_refl _, fun _ => rfl⟩
  · intro n q q' z hq hq' _ hz
    rcases hget n q' hq' with ⟨rfl, _⟩ | ⟨_, hnm, _⟩
    · exact absurd rfl (hnx n (by rw [hq]; rfl))
    · exact hlook _ fun e' => hnm (r.inj n m z y (by rw [hq]; rfl) hm hz hy e')

/-- A new row, of which the first cells are known. -/
theorem br_row {ψ : PM} {n : Nat} {el : TypeId} {l : List AV} {vs rest : List Value} (hψ : ψ n = some (w.heap.size, vs.length + rest.length)) (hl : VRs ψ l vs) : BR ψ (w.alloc (.cells (vs ++ rest).toArray el)) n (.cells el l) := by
  refine .cells hψ (C := (vs ++ rest).toArray) (fr := (0, 0)) ?_ (by simp) (vs := vs) (rest := rest) (by simp) hl (fun i _ => by simp)
  show (w.heap.push _)[w.heap.size]? = _
  simp

theorem growA_ok {H₀ : Hp} (r₀ : Step φ H.get x w φ H₀.get x w) (hf : φ x = none) {t u ty el : TypeId} {ts : Array TypeId} (ht : ts[0]? = some t) (htu : ts[1]? = some u) {ud : TypeDesc} (hu : P.underlying u = some ud) (hel : P.underlying t = some (.slice el))
    {inf : TypeInfo} (hi : P.info? el = some inf) {old new : List AV} {olds vs : List Value} {base : Option Addr} {sLen sCap n need : Nat} {y : Value} (h : growA H₀ x el inf old new need = .ok v H' x') (hneed : need = sLen + n)
    (hs : Src2 P inf ud y n vs w) (hgt : ¬ sLen + n ≤ sCap) (ho : ∀ w' : World, w'.heap = w.heap → (Builtin.firstCells inf.size sLen (.slice base sLen sCap)).run P w' = .ok olds.toArray w')
    (hold : VRs φ old olds) (hnew : VRs φ new vs) (hl1 : old.length = sLen * inf.size) (hl2 : new.length = n * inf.size) :
    VRun P φ H x w (Builtin.append_ ts ty #[.slice base sLen sCap, y]) v H' x' := by
  unfold growA at h
  obtain ⟨hc, h2⟩ := condO_ok h
  simp only [Bool.and_eq_true, Bool.not_eq_true'] at hc
  have hroom := bleT hc.1
  have hbytes := beqN hc.2
  subst hneed
  split at h2
  · cases h2
  · rename_i z hz
    obtain ⟨hzs, h3⟩ := condO_ok h2
    have hzs := beqT hzs
    cases h3
    obtain ⟨cap, rest, hcap, hrest, hrun⟩ := run_append_grow (ty := ty) ht htu hu hel hi hz hzs hs hgt hbytes hroom ho
    have s1 : Step φ H.get x w φ H₀.get x w.drew := r₀.trans (step_heap r₀.rel rfl rfl rfl rfl)
    have hlen : (olds ++ vs).length + rest.length = cap * inf.size := by
      have e1 := hold.length
      have e2 := hnew.length
      rw [List.length_append, hrest, e1, e2, hl1, hl2, ← Nat.add_mul, ← Nat.add_mul]
      congr 1; omega
    have hvs : VRs φ (appS old new) (olds ++ vs) := by rw [appS_eq]; exact hold.append hnew
    have s2 := step_new s1.rel hf (.cells (olds ++ vs ++ rest).toArray el) (.cells el (appS old new)) ((olds ++ vs).length + rest.length) (br_row PM.add_self (hvs.mono (PM.add_ext hf)))
    exact ⟨_, _, _, hrun, .slice PM.add_self hcap (fun e => by cases e) (by omega), s1.trans s2⟩

theorem elemOfB_ok {m ver : Nat} {el : TypeId} {l : List AV} (h : H.get m = some ⟨ver, .cells el l⟩) : elemOfB (H.get m) = el := by rw [h]; rfl

theorem appendTo_ok (r : Rel φ H.get x w) (hf : φ x = none) {t u ty el : TypeId} {ts : Array TypeId} (ht : ts[0]? = some t) (htu : ts[1]? = some u) {ud : TypeDesc} (hu : P.underlying u = some ud) (hel : P.underlying t = some (.slice el))
    {inf : TypeInfo} (hi : P.info? el = some inf) {new : List AV} {vs : List Value} {n : Nat} {s : AV} {sv y : Value} (h : appendTo H x el inf n new s = .ok v H' x') (hsv : VR φ s sv)
    (hs : Src2 P inf ud y n vs w) (hnew : VRs φ new vs) (hp : allPlain new = true) (hl2 : new.length = n * inf.size) :
    VRun P φ H x w (Builtin.append_ ts ty #[sv, y]) v H' x' := by
  have hfirst0 : ∀ w' : World, w'.heap = w.heap → (Builtin.firstCells inf.size 0 (.slice none 0 0)).run P w' = .ok ([] : List Value).toArray w' := fun _ _ => rfl
  unfold appendTo at h
  split at h
  · cases hsv
    cases hn : Nat.beq n 0 with
    | true =>
      rw [hn, cond_true] at h
      have hn := beqT hn
      subst hn
      cases h
      refine ⟨φ, w, .slice none 0 0, ?_, .nilSlice, .refl r⟩
      rw [run_append_room ht htu hu hel hi hs (Nat.le_refl _)]
      rfl
    | false =>
      rw [hn, cond_false] at h
      have hn := beqN hn
      exact growA_ok (.refl r) hf ht htu hu hel hi h (by omega) hs (by omega) hfirst0 .nil hnew (by simp) hl2
  · cases hsv with
    | emptySlice a cap =>
      obtain ⟨hn, h2⟩ := condO_ok h
      have hn := beqT hn
      subst hn
      cases h2
      have hv : vs = [] := List.eq_nil_of_length_eq_zero (by rw [hnew.length, hl2]; simp)
      subst hv
      refine ⟨φ, w, .slice (some a) 0 cap, ?_, .emptySlice a cap, .refl r⟩
      rw [run_append_room ht htu hu hel hi hs (by omega)]
      rfl
  · rename_i m o len lb ex es
    obtain ⟨hes, h2⟩ := condO_ok h
    have hes := beqT hes
    subst hes
    cases hsv with
    | slice hφ h1 hex h3 =>
      rename_i B sz cap
      cases hle : Nat.ble (len + n) lb with
      | true =>
        rw [hle, cond_true] at h2
        have hle := bleT hle
        obtain ⟨H2, hw, h4⟩ := casesO_ok h2
        cases h4
        obtain ⟨w', hr, hst⟩ := writeA_ok (P := P) r hw hp hnew hφ
        refine ⟨φ, w', .slice (some ⟨B, o, none⟩) (len + n) cap, ?_, .slice hφ h1 hex h3, hst⟩
        rw [run_append_room ht htu hu hel hi hs (by omega)]
        simp only [add_mk, hr, Result.andThen_ok]
      | false =>
        rw [hle, cond_false] at h2
        obtain ⟨old, hold, h4⟩ := casesO_ok h2
        obtain ⟨cs, hcs, h5⟩ := R.bind_ok hold
        have hfirst : firstA H inf.size len (.slice m o len lb ex inf.size) = .ok old := hold
        obtain ⟨olds, ho, holds⟩ := firstA_ok (P := P) r hfirst (.slice hφ h1 hex h3)
        obtain ⟨e1, e2⟩ := subS_ok h5
        have hle : ¬ len + n ≤ lb := fun e => by
          have : Nat.ble (len + n) lb = true := Nat.ble_eq_true_of_le e
          rw [this] at hle; cases hle
        cases ex with
        | true =>
          rw [cond_true] at h4
          have := hex rfl
          subst this
          exact growA_ok (.refl r) hf ht htu hu hel hi h4 rfl hs hle ho holds hnew e2 hl2
        | false =>
          rw [cond_false] at h4
          obtain ⟨hc, h6⟩ := condO_ok h4
          simp only [Bool.and_eq_true] at hc
          have ho0 := beqT hc.1
          have hel0 := beqT hc.2
          subst ho0
          obtain ⟨ver, elc, hm⟩ := cellsOf_ok hcs
          rw [elemOfB_ok hm] at hel0
          subst hel0
          by_cases hroom : len + n ≤ cap
          · -- the block is written in place, under a new name
            obtain ⟨B', sz', C, fr, ws, rest, hφ', hb, hsz, hC, hws, hfr⟩ := r.cells hm
            rw [hφ] at hφ'; cases hφ'
            have hCs : C.size = ws.length + rest.length := by rw [← Array.length_toList, hC, List.length_append]
            have hvl := hnew.length
            have hcapsz : (len + n) * inf.size ≤ cap * inf.size := Nat.mul_le_mul_right _ hroom
            rw [Nat.add_mul] at hcapsz
            have hone : ∀ v ∈ vs, v.oneCell' = true := by
              have hall := allPlain_mem new hp
              clear hl2 hs hvl h6 hp h h2 h4
              induction new generalizing vs with
              | nil => cases hnew; intro v hv; cases hv
              | cons a t ih =>
                cases hnew with
                | cons h1 h2 =>
                  intro v hv
                  cases hv with
                  | head => exact h1.oneCell (hall a (List.mem_cons_self ..))
                  | tail _ hm => exact ih h2 (fun v hv => hall v (List.mem_cons_of_mem _ hv)) v hm
            obtain ⟨w', hr, g1, g2, g3, g4, g5, C', hC', hl'⟩ := storeCells_run (P := P) vs (0 + len * inf.size) 0 w C hb (fun j hj => hfr j (by omega)) (by omega) hone
            unfold growA at h6
            obtain ⟨_, h7⟩ := condO_ok h6
            split at h7
            · cases h7
            · obtain ⟨_, h8⟩ := condO_ok h7
              cases h8
              have holdv : olds = ws.take (len * inf.size) := by
                have e3 := ho w rfl
                have hws' := (hws.drop 0).take (len * inf.size)
                have e4 := run_firstCells_some (P := P) w inf.size len ⟨B, 0, none⟩ len cap ((ws.drop 0).take (len * inf.size)) (by rw [hws'.length]; simpa [e1] using e2) (fun j u hj => by
                  rw [add_mk, cell_of hb]
                  refine get_append hC ?_
                  rw [List.getElem?_take] at hj
                  split at hj
                  · simpa using hj
                  · cases hj)
                have e5 := e3.symm.trans e4
                injection e5 with e6
                simpa using congrArg Array.toList e6
              have hCl : C'.size = C.size := by
                rw [← Array.length_toList, hl', ← Array.length_toList]
                simp only [List.length_append, List.length_take, List.length_drop, Array.length_toList]
                omega
              refine ⟨φ.add x (B, sz), w', .slice (some ⟨B, 0, none⟩) (len + n) cap, ?_, .slice PM.add_self hroom (fun e => by cases e) h3, ?_⟩
              · rw [run_append_room ht htu hu hel hi hs hroom]
                simp only [add_mk, hr, Result.andThen_ok]
              · refine step_alias r hf (by rw [hm]; rfl) hφ _ w' g1 g2 g3 g4 g5 ?_
                refine .cells PM.add_self hC' (by omega) (vs := olds ++ vs) (rest := C.toList.drop (len * inf.size + vs.length)) ?_ ?_ (fun i hi => hfr i hi)
                · have hlw : len * inf.size ≤ ws.length := by
                    have := holds.length
                    rw [e2, holdv, List.length_take] at this
                    omega
                  rw [hl', holdv, hC]
                  simp only [Nat.zero_add, Nat.add_zero]
                  rw [List.take_append_of_le_length hlw]
                · rw [appS_eq]
                  exact (holds.append hnew).mono (PM.add_ext hf)
          · exact growA_ok (step_del r m) hf ht htu hu hel hi h6 rfl hs hroom ho holds hnew e2 hl2
  · cases h

theorem appendA_ok (r : Rel φ H.get x w) (hf : φ x = none) {t u ty : TypeId} {ts : Array TypeId} (ht : ts[0]? = some t) (htu : ts[1]? = some u) {s y : AV} {sv yv : Value} (h : appendA P H x t u s y = .ok v H' x') (hsv : VR φ s sv) (hy : VR φ y yv) :
    VRun P φ H x w (Builtin.append_ ts ty #[sv, yv]) v H' x' := by
  unfold appendA at h
  split at h
  · cases h
  · rename_i ud hud
    obtain ⟨el, hel, h2⟩ := casesO_ok h
    split at h2
    · cases h2
    · rename_i inf hi
      obtain ⟨q, hq, h3⟩ := casesO_ok h2
      obtain ⟨vs, h4, h5, h6, h7⟩ := newCells_ok r hq hy
      exact appendTo_ok r hf ht htu hud (elemA_ok hel) hi h3 hsv h4 h5 h6 h7

/-! ### copy -/

theorem copyA_ok (r : Rel φ H.get x w) {t ty : TypeId} {ts : Array TypeId} (ht : ts[0]? = some t) {d s : AV} {dv sv : Value} {q : AV × Hp} (h : copyA P H t d s = .ok q) (hd : VR φ d dv) (hs : VR φ s sv) :
    VRun P φ H x w (Builtin.copy_ ts ty #[dv, sv]) q.1 q.2 x := by
  unfold copyA at h
  obtain ⟨el, hel, h2⟩ := R.bind_ok h
  obtain ⟨z, hz, h3⟩ := R.bind_ok h2
  obtain ⟨ls, hls, h4⟩ := R.bind_ok h3
  obtain ⟨ld, hld, h5⟩ := R.bind_ok h4
  obtain ⟨cs, hcs, h6⟩ := R.bind_ok h5
  have hu := elemA_ok hel
  obtain ⟨inf, hinf, hsi⟩ := sizeA_ok hz
  obtain ⟨vs, hvs, hv⟩ := firstA_ok (P := P) r hcs hs
  have hvs := hvs w rfl
  unfold copyTo at h6
  obtain ⟨hp, h7⟩ := cond_ok h6
  have hargs0 : (#[dv, sv] : Array Value)[0]? = some dv := rfl
  have hargs1 : (#[dv, sv] : Array Value)[1]? = some sv := rfl
  have hl := lenOfA_ok (P := P) (w := w) hls hs
  unfold Builtin.copy_
  split at h7
  · cases h7
    cases hd
    unfold lenOfA at hld
    cases hld
    refine ⟨φ, w, goInt (Nat.min ls 0), ?_, i64_ok _, .refl r⟩
    simp only [ht, hargs0, hargs1, Sem.run_bind, run_underlying hu, Result.andThen_ok, hl, run_sizeOf hinf, hsi, hvs, Sem.run_pure]
  · obtain ⟨hn, h8⟩ := cond_ok h7
    cases h8
    cases hd with
    | emptySlice a cap =>
      unfold lenOfA at hld
      cases hld
      rw [lenS_eq] at hn
      have hn := beqT hn
      have hv0 : vs = [] := List.eq_nil_of_length_eq_zero (by rw [hv.length]; omega)
      subst hv0
      refine ⟨φ, w, goInt (Nat.min ls 0), ?_, i64_ok _, .refl r⟩
      simp only [ht, hargs0, hargs1, Sem.run_bind, run_underlying hu, Result.andThen_ok, hl, run_sizeOf hinf, hsi, hvs, Sem.run_pure]
      rfl
  · rename_i m o len lb ex es
    obtain ⟨H2, hw, h8⟩ := R.bind_ok h7
    cases h8
    unfold lenOfA at hld
    cases hld
    cases hd with
    | slice hφ h1 hex h3 =>
      obtain ⟨w', hr, hst⟩ := writeA_ok (P := P) r hw hp hv hφ
      refine ⟨φ, w', _, ?_, i64_ok _, hst⟩
      simp only [ht, hargs0, hargs1, Sem.run_bind, run_underlying hu, Result.andThen_ok, hl, run_sizeOf hinf, hsi, hvs, Sem.run_pure, hr]
  · cases h7

end Go.Ce
