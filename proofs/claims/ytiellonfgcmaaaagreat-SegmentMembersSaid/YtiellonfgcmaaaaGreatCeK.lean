/- The abstract evaluator 'Ce': look-ups and updates of maps. -/
import Derived.Test.YtiellonfgcmaaaaGreatCeJ
set_option linter.unusedVariables false
set_option linter.unusedSimpArgs false
set_option linter.unusedSectionVars false
namespace Go.Ce
variable {P : Program} {φ : PM} {w : World} {H H' : Hp} {x x' : Nat} {v : AV}

theorem keyA_und {d : Nat} {t : TypeId} {a : AV} (h : keyA P d t a = true) : ∃ q, P.underlying t = some q := by
  cases d with
  | zero => cases h
  | succ d =>
    unfold keyA at h
    cases hu : P.underlying t with
    | some q => exact ⟨q, rfl⟩
    | none => rw [hu] at h; cases h

theorem run_getObj_map {b : Nat} {es : Array MapEntry} {c : Nat} (hb : w.heap[b]? = some (.map es c)) : (getObj b).run P w = .ok (.map es c) w := by
  simp [getObj, Sem.run, hb]

theorem run_setObj_map {b : Nat} {es : Array MapEntry} {c : Nat} (o : Obj) (hb : w.heap[b]? = some (.map es c)) : (setObj b o).run P w = .ok () { w with heap := w.heap.setIfInBounds b o } := by
  simp [setObj, Sem.run, hb]

theorem okOr_ok {ok b : Bool} {a : AV} {av : Value} (ha : VR φ a av) : VR φ (okOr ok a b) (if ok then .tuple #[av, .bool b] else av) := by
  cases ok with
  | false => exact ha
  | true => exact .tup (.cons ha (.cons (.bool b) .nil))

theorem run_lookup (P : Program) (w : World) {t kt et : TypeId} {m k : Value} {ok : Bool} {es : Array MapEntry} {r : Option (Nat × Value)} (hu : P.underlying t = some (.map kt et))
    (hm : (m = .map none ∧ es = #[]) ∨ ∃ b c, m = .map (some b) ∧ w.heap[b]? = some (.map es c)) (hk : ∀ e, (Instr.checkKey e 10000 kt k).run P w = .ok () w)
    (hf : (Instr.findKey kt k es.toList).run P w = .ok r w) :
    (Instr.lookup t m k ok).run P w = (match r with
      | some (_, v) => .ok (if ok then .tuple #[v, .bool true] else v) w
      | none => (zeroValue et).run P w |>.andThen fun z w => .ok (if ok then .tuple #[z, .bool false] else z) w) := by
  unfold Instr.lookup
  rcases hm with ⟨rfl, rfl⟩ | ⟨b, c, rfl, hb⟩
  · simp only [Sem.run_bind, run_underlying hu, Result.andThen_ok, hk, Sem.run_pure, hf]
    cases r with
    | none => simp only [Sem.run_bind, Sem.run_pure]; rfl
    | some q => rfl
  · simp only [Sem.run_bind, run_underlying hu, Result.andThen_ok, run_getObj_map hb, hk, Sem.run_pure, hf]
    cases r with
    | none => simp only [Sem.run_bind, Sem.run_pure]; rfl
    | some q => rfl

theorem entriesA_ok (r : Rel φ H.get x w) {m : AV} {mv : Value} {es : List (AV × AV × Nat)} (h : entriesA H m = .ok es) (hm : VR φ m mv) :
    ∃ ev : Array MapEntry, ((mv = .map none ∧ ev = #[]) ∨ ∃ b c, mv = .map (some b) ∧ w.heap[b]? = some (.map ev c)) ∧ ERs φ es ev.toList := by
  unfold entriesA at h
  split at h
  · cases hm; cases h; exact ⟨#[], .inl ⟨rfl, rfl⟩, .nil⟩
  · rename_i n
    obtain ⟨b, hb, h6⟩ := R.bind_ok h
    cases h6
    obtain ⟨bk, sz, el, hφ, hbk, hel⟩ := r.map (mapOf_ok hb)
    cases hm with
    | map hφ' =>
      rw [hφ] at hφ'; cases hφ'
      exact ⟨el.toArray, .inr ⟨_, _, rfl, hbk⟩, by simpa using hel⟩
  · cases h

theorem lookupA_ok (r : Rel φ H.get x w) {t : TypeId} {m k : AV} {mv kv : Value} {ok : Bool} (h : lookupA P H t m k ok = .ok v) (hm : VR φ m mv) (hk : VR φ k kv) :
    ∃ val, (Instr.lookup t mv kv ok).run P w = .ok val w ∧ VR φ v val := by
  unfold lookupA at h
  obtain ⟨q, hq, h2⟩ := R.bind_ok h
  obtain ⟨hkey, h3⟩ := cond_ok h2
  obtain ⟨es, hes, h4⟩ := R.bind_ok h3
  obtain ⟨f, hf, h5⟩ := R.bind_ok h4
  have hu := mapTy_ok hq
  obtain ⟨qd, hqd⟩ := keyA_und hkey
  obtain ⟨ev, hev, hers⟩ := entriesA_ok r hes hm
  obtain ⟨rv, h7, h8⟩ := findA_ok (w := w) hqd hk hf hers
  have h9 := fun e => keyA_ok (w := w) e dE 10000 q.1 k kv (by decide) hkey hk
  rw [run_lookup P w hu hev h9 h7]
  cases h8 with
  | none =>
    obtain ⟨z, hz, h10⟩ := R.bind_ok h5
    cases h10
    obtain ⟨i, zv, hi, hzv, rfl⟩ := zeroA_ok hz
    refine ⟨_, ?_, okOr_ok (ok := ok) (b := false) (VR.ofVal φ zv)⟩
    simp only [run_zeroValue hi hzv, Result.andThen_ok]
  | some i h8 =>
    cases h5
    exact ⟨_, rfl, okOr_ok (ok := ok) (b := true) h8⟩

/-! ### Updates -/

theorem sameCell_ok {a b : AV} {av bv : Value} (h : sameCell a b = true) (ha : VR φ a av) (hb : VR φ b bv) (n : Nat) : Instr.sameBits n av bv = true := by
  unfold sameCell at h
  split at h
  · cases ha; cases hb; unfold Instr.sameBits; exact h
  · rename_i j a k b
    cases ha; cases hb
    cases hk : beqK j k with
    | false => rw [hk] at h; cases h
    | true =>
      rw [hk, cond_true, eqI_eq] at h
      unfold Instr.sameBits
      have : j = k := by revert hk; cases j <;> cases k <;> simp [beqK]
      subst this
      simpa using h
  · rename_i a b
    obtain ⟨s, rfl, rfl⟩ := str_of ha
    obtain ⟨s', rfl, rfl⟩ := str_of hb
    rw [bytesEq_eq] at h
    have h2 : s.data.toList = s'.data.toList := by simpa using h
    have h3 : s = s' := ByteArray.ext (Array.ext' h2)
    subst h3
    unfold Instr.sameBits
    show (s == s) = true
    rw [beq_toListBytes]; exact beq_self_eq_true _
  · cases ha; cases hb; unfold Instr.sameBits; simp
  · cases ha; cases hb; unfold Instr.sameBits; rfl
  · cases h

theorem sameCells_ok {n : Nat} : ∀ {l m : List AV} {lv mv : List Value}, sameCells l m = true → VRs φ l lv → VRs φ m mv → lv.length = mv.length ∧ ((lv.zip mv).all fun (x, y) => Instr.sameBits n x y) = true := by
  intro l
  induction l with
  | nil =>
    intro m lv mv h hl hm
    cases m with
    | nil => cases hl; cases hm; exact ⟨rfl, rfl⟩
    | cons _ _ => cases h
  | cons a l ih =>
    intro m lv mv h hl hm
    cases m with
    | nil => cases h
    | cons b m =>
      unfold sameCells at h
      cases hc : sameCell a b with
      | false => rw [hc] at h; cases h
      | true =>
        rw [hc, cond_true] at h
        cases hl with
        | cons ha hl =>
          cases hm with
          | cons hb hm =>
            obtain ⟨h1, h2⟩ := ih h hl hm
            refine ⟨by simp [h1], ?_⟩
            simp only [List.zip_cons_cons, List.all_cons, sameCell_ok hc ha hb n, Bool.true_and]
            exact h2

theorem sameA_ok {a b : AV} {av bv : Value} (h : sameA a b = true) (ha : VR φ a av) (hb : VR φ b bv) (n : Nat) : Instr.sameBits (n + 1) av bv = true := by
  unfold sameA at h
  split at h
  · obtain ⟨vs, rfl, hvs⟩ := agg_of ha
    obtain ⟨ws, rfl, hws⟩ := agg_of hb
    obtain ⟨h1, h2⟩ := sameCells_ok (n := n) h hvs hws
    unfold Instr.sameBits
    simp only [Bool.and_eq_true]
    exact ⟨by simpa using h1, by simpa using h2⟩
  · exact sameCell_ok h ha hb _

theorem run_keyStays {a b : Value} (h : Instr.sameBits 10000 a b = true) : (Instr.keyThatStays a b).run P w = .ok b w := by
  unfold Instr.keyThatStays
  rw [if_pos h]; rfl

theorem setEntry_ok {k v : AV} {kv vv : Value} (hk : VR φ k kv) (hv : VR φ v vv) : ∀ {i : Nat} {es es' : List (AV × AV × Nat)} {ev : List MapEntry}, setEntry i k v es = .ok es' → ERs φ es ev →
    ∃ e, ev[i]? = some e ∧ Instr.sameBits 10000 e.key kv = true ∧ ERs φ es' (ev.modify i fun e => { e with key := kv, val := vv }) := by
  intro i
  induction i with
  | zero =>
    intro es es' ev h he
    cases he with
    | nil => cases h
    | cons h1 h2 h3 =>
      unfold setEntry at h
      obtain ⟨hs, h4⟩ := cond_ok h
      cases h4
      exact ⟨_, rfl, sameA_ok hs h1 hk 9999, .cons (e := { key := kv, val := vv, born := _ }) hk hv h3⟩
  | succ i ih =>
    intro es es' ev h he
    cases he with
    | nil => cases h
    | cons h1 h2 h3 =>
      unfold setEntry at h
      obtain ⟨r, hr, h4⟩ := R.bind_ok h
      cases h4
      obtain ⟨e, e1, e2, e3⟩ := ih hr h3
      exact ⟨e, by simpa using e1, e2, .cons h1 h2 e3⟩

theorem snoc_ok {k v : AV} {e : MapEntry} (hk : VR φ k e.key) (hv : VR φ v e.val) : ∀ {es : List (AV × AV × Nat)} {ev : List MapEntry}, ERs φ es ev → ERs φ (snoc es (k, v, e.born)) (ev ++ [e]) := by
  intro es
  induction es with
  | nil => intro ev h; cases h; exact .cons hk hv .nil
  | cons a l ih => intro ev h; cases h with | cons h1 h2 h3 => exact .cons h1 h2 (ih h3)

theorem eraseAt_ok : ∀ {i : Nat} {es : List (AV × AV × Nat)} {ev : List MapEntry}, ERs φ es ev → ERs φ (eraseAt i es) (ev.eraseIdx i) := by
  intro i
  induction i with
  | zero => intro es ev h; cases h with | nil => exact .nil | cons h1 h2 h3 => exact h3
  | succ i ih => intro es ev h; cases h with | nil => exact .nil | cons h1 h2 h3 => exact .cons h1 h2 (ih h3)

/-- A map's block is set. -/
theorem map_set (r : Rel φ H.get x w) {n ver : Nat} {l l' : List (AV × AV × Nat)} {c c' : Nat} {B sz : Nat} {ev : Array MapEntry} (hn : H.get n = some ⟨ver, .map l c⟩) (hφ : φ n = some (B, sz)) (hB : ∃ o, w.heap[B]? = some o) (he : ERs φ l' ev.toList) :
    Step φ H.get x w φ (H.ins dH n ⟨ver + 1, .map l' c'⟩).get x { w with heap := w.heap.setIfInBounds B (.map ev c') } := by
  obtain ⟨o, hB⟩ := hB
  have hlt : B < w.heap.size := (Array.getElem?_eq_some_iff.1 hB).1
  refine step_put r hn hφ (.map l' c') _ rfl rfl rfl (by simp) (fun k hk => ?_) ?_
  · show (w.heap.setIfInBounds B _)[k]? = _
    rw [Array.getElem?_setIfInBounds, if_neg (fun e => hk e.symm)]
  · refine .map (es := ev.toList) hφ ?_ he
    show (w.heap.setIfInBounds B _)[B]? = _
    rw [Array.getElem?_setIfInBounds_self, if_pos hlt]

theorem mapUpdateA_ok (r : Rel φ H.get x w) {t : TypeId} {m k u : AV} {mv kv uv : Value} (h : mapUpdateA P H t m k u = .ok H') (hm : VR φ m mv) (hk : VR φ k kv) (hu : VR φ u uv) :
    ∃ φ' w', (Instr.mapUpdate t mv kv uv).run P w = .ok () w' ∧ Step φ H.get x w φ' H'.get x w' := by
  unfold mapUpdateA at h
  obtain ⟨q, hq, h2⟩ := R.bind_ok h
  obtain ⟨hkey, h3⟩ := cond_ok h2
  have hty := mapTy_ok hq
  obtain ⟨qd, hqd⟩ := keyA_und hkey
  split at h3
  · rename_i n
    obtain ⟨b, hb, h4⟩ := R.bind_ok h3
    obtain ⟨f, hf, h5⟩ := R.bind_ok h4
    obtain ⟨b', hb', h6⟩ := R.bind_ok h5
    cases h6
    have hn := mapOf_ok hb
    obtain ⟨B, sz, el, hφ, hB, hel⟩ := r.map hn
    cases hm with
    | map hφ' =>
      rw [hφ] at hφ'; cases hφ'
      obtain ⟨rv, h7, h8⟩ := findA_ok (w := w) hqd hk hf hel
      have h9 := keyA_ok (w := w) false dE 10000 q.1 k kv (by decide) hkey hk
      unfold putEntry at hb'
      cases h8 with
      | none =>
        cases hb'
        refine ⟨φ, _, ?_, map_set r hn hφ ⟨_, hB⟩ (ev := el.toArray.push { key := kv, val := uv, born := b.2.2 }) (by simpa using snoc_ok (e := { key := kv, val := uv, born := b.2.2 }) hk hu hel)⟩
        unfold Instr.mapUpdate
        simp only [Sem.run_bind, run_underlying hty, Result.andThen_ok, run_getObj_map hB, h9, h7, run_setObj_map _ hB]
      | some i hi =>
        obtain ⟨es', he', h10⟩ := R.bind_ok hb'
        cases h10
        obtain ⟨e, e1, e2, e3⟩ := setEntry_ok hk hu he' hel
        refine ⟨φ, _, ?_, map_set r hn hφ ⟨_, hB⟩ (ev := el.toArray.modify i fun e => { e with key := kv, val := uv }) (by simpa using e3)⟩
        unfold Instr.mapUpdate
        have e4 : ((el.toArray[i]?).map (·.key)).getD kv = e.key := by simp [e1]
        simp only [Sem.run_bind, run_underlying hty, Result.andThen_ok, run_getObj_map hB, h9, h7, e4, run_keyStays e2, run_setObj_map _ hB]
  · cases h3

theorem deleteA_ok (r : Rel φ H.get x w) {t ty : TypeId} {ts : Array TypeId} (ht : ts[0]? = some t) {m k : AV} {mv kv : Value} (h : deleteA P H t m k = .ok H') (hm : VR φ m mv) (hk : VR φ k kv) :
    ∃ φ' w', (Builtin.delete_ ts ty #[mv, kv]).run P w = .ok (.tuple #[]) w' ∧ Step φ H.get x w φ' H'.get x w' := by
  unfold deleteA at h
  obtain ⟨q, hq, h2⟩ := R.bind_ok h
  obtain ⟨hkey, h3⟩ := cond_ok h2
  have hty := mapTy_ok hq
  obtain ⟨qd, hqd⟩ := keyA_und hkey
  have h9 := fun e => keyA_ok (w := w) e dE 10000 q.1 k kv (by decide) hkey hk
  have hargs0 : (#[mv, kv] : Array Value)[0]? = some mv := rfl
  have hargs1 : (#[mv, kv] : Array Value)[1]? = some kv := rfl
  split at h3
  · cases h3
    cases hm
    refine ⟨φ, w, ?_, .refl r⟩
    unfold Builtin.delete_
    simp only [ht, hargs0, hargs1, Sem.run_bind, run_underlying hty, Result.andThen_ok, h9, Sem.run_pure]
  · rename_i n
    obtain ⟨b, hb, h4⟩ := R.bind_ok h3
    obtain ⟨f, hf, h5⟩ := R.bind_ok h4
    cases h5
    have hn := mapOf_ok hb
    obtain ⟨B, sz, el, hφ, hB, hel⟩ := r.map hn
    cases hm with
    | map hφ' =>
      rw [hφ] at hφ'; cases hφ'
      obtain ⟨rv, h7, h8⟩ := findA_ok (w := w) hqd hk hf hel
      cases h8 with
      | none =>
        refine ⟨φ, _, ?_, map_set r hn hφ ⟨_, hB⟩ (ev := el.toArray) (by simpa [delEntry] using hel)⟩
        unfold Builtin.delete_
        simp only [ht, hargs0, hargs1, Sem.run_bind, run_underlying hty, Result.andThen_ok, run_getObj_map hB, h9, h7, run_setObj_map _ hB, Sem.run_pure]
      | some i hi =>
        refine ⟨φ, _, ?_, map_set r hn hφ ⟨_, hB⟩ (ev := el.toArray.eraseIdxIfInBounds i) (by simpa [delEntry] using eraseAt_ok (i := i) hel)⟩
        unfold Builtin.delete_
        simp only [ht, hargs0, hargs1, Sem.run_bind, run_underlying hty, Result.andThen_ok, run_getObj_map hB, h9, h7, run_setObj_map _ hB, Sem.run_pure]
  · cases h3

end Go.Ce
