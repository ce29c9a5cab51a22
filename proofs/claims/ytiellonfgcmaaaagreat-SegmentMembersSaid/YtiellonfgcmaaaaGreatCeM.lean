/- The abstract evaluator 'Ce': the other operations that call nothing. -/
import Derived.Test.YtiellonfgcmaaaaGreatCeL
import Derived.Laws.BytesString
set_option linter.unusedVariables false
set_option linter.unusedSimpArgs false
set_option linter.unusedSectionVars false
namespace Go.Ce
variable {P : Program} {φ : PM} {w : World} {H H' : Hp} {x x' : Nat} {v : AV}

/-! ### min, max -/

theorem minmax1_ok {mx : Bool} {a b : AV} {av bv : Value} (h : minmax1 mx a b = .ok v) (ha : VR φ a av) (hb : VR φ b bv) :
    ∃ val, ((if mx then Builtin.max2 else Builtin.min2) av bv).run P w = .ok val w ∧ VR φ v val := by
  unfold minmax1 at h
  split at h
  · rename_i k p _ q
    cases h; cases ha; cases hb
    cases mx with
    | true =>
      refine ⟨.int k (if q > p then q else p), rfl, ?_⟩
      rw [cond_true, ltI_eq]
      by_cases hpq : p < q
      · rw [if_pos hpq, decide_eq_true hpq]; exact .int ..
      · rw [if_neg hpq, decide_eq_false hpq]; exact .int ..
    | false =>
      refine ⟨.int k (if q < p then q else p), rfl, ?_⟩
      rw [cond_false, ltI_eq]
      by_cases hpq : q < p
      · rw [if_pos hpq, decide_eq_true hpq]; exact .int ..
      · rw [if_neg hpq, decide_eq_false hpq]; exact .int ..
  · cases h

theorem minmaxA_ok {mx : Bool} : ∀ {l : List AV} {a : AV} {av : Value} {lv : List Value} {v : AV}, minmaxA mx a l = .ok v → VR φ a av → VRs φ l lv →
    ∃ val, (lv.foldlM (if mx then Builtin.max2 else Builtin.min2) av : Sem Value).run P w = .ok val w ∧ VR φ v val := by
  intro l
  induction l with
  | nil => intro a av lv v h ha hl; cases hl; cases h; exact ⟨av, rfl, ha⟩
  | cons b l ih =>
    intro a av lv v h ha hl
    cases hl with
    | cons hb hl =>
      unfold minmaxA at h
      obtain ⟨c, hc, h2⟩ := R.bind_ok h
      obtain ⟨cv, h3, h4⟩ := minmax1_ok (P := P) (w := w) hc ha hb
      obtain ⟨val, h5, h6⟩ := ih h2 h4 hl
      refine ⟨val, ?_, h6⟩
      rw [List.foldlM_cons, Sem.run_bind, h3, Result.andThen_ok]
      exact h5

/-! ### make -/

theorem makeSliceA_ok (r : Rel φ H.get x w) (hf : φ x = none) {t : TypeId} {l c : AV} {lv cv : Value} (h : makeSliceA P H x t l c = .ok v H' x') (hl : VR φ l lv) (hc : VR φ c cv) :
    VRun P φ H x w (Instr.makeSlice t lv cv) v H' x' := by
  unfold makeSliceA at h
  obtain ⟨ln, hln, h2⟩ := casesO_ok h
  obtain ⟨cn, hcn, h3⟩ := casesO_ok h2
  obtain ⟨el, hel, h4⟩ := casesO_ok h3
  split at h4
  · cases h4
  · rename_i inf hi
    obtain ⟨hb, h5⟩ := condO_ok h4
    obtain ⟨row, hrow, rfl, rfl, rfl⟩ := toN_ok h5
    obtain ⟨z, hz, h6⟩ := R.bind_ok hrow
    obtain ⟨inf', zv, hi', hzv, rfl⟩ := zeroA_ok hz
    obtain rfl := Option.some.inj (hi.symm.trans hi')
    unfold sliceCells at h6
    obtain ⟨hj, h7⟩ := cond_ok' h6
    obtain ⟨hln2, h8⟩ := cond_ok h7
    cases h8
    simp only [Bool.and_eq_true] at hb
    obtain ⟨⟨hb1, hb2⟩, hb3⟩ := hb
    have hb1 := bleT hb1
    have hb2 := bleT hb2
    have hb3 := bleT hb3
    have hcs := (VR.ofVal φ zv).cells hj
    have hlen := hcs.length
    rw [lenS_eq] at hln2
    have hln2 := beqT hln2
    have hzs : zv.cells.size = inf.size := by rw [← Array.length_toList]; omega
    obtain ⟨k, rfl⟩ := idxOf_ok hln hl
    obtain ⟨k', rfl⟩ := idxOf_ok hcn hc
    have hu := elemA_ok hel
    have hw1 := wrap_nat (n := ln) (by omega)
    have hw2 := wrap_nat (n := cn) hb3
    have ha1 : (asInt (.int k (ln : Int))).run P w = .ok (ln : Int) w := rfl
    have ha2 : (asInt (.int k' (cn : Int))).run P w = .ok (cn : Int) w := rfl
    have hvr : VRs φ (repS cn (ofVal zv).cells []) ((List.replicate cn zv.cells.toList).flatten) := by rw [repS_eq, List.append_nil]; exact hcs.replicate cn
    have hrow : ∀ C : Array Value, C.toList = (List.replicate cn zv.cells.toList).flatten → VRun P φ H x w (do
        let a ← newRow el C
        pure (.slice (some a) ln cn)) (.slice x 0 ln cn true inf.size) (newB H x (.cells el (repS cn (ofVal zv).cells []))) (x + 1) := by
      intro C hC
      obtain ⟨hr, hst⟩ := newRow_run (P := P) (el := el) r hf (l := repS cn (ofVal zv).cells []) (C := C) (by rw [hC]; exact hvr)
      refine ⟨_, _, .slice (some ⟨w.heap.size, 0, none⟩) ln cn, ?_, .slice PM.add_self (Nat.le_refl _) (fun _ => rfl) ?_, hst⟩
      · simp only [Sem.run_bind, hr, Result.andThen_ok, Sem.run_pure]
      · have : C.size = cn * inf.size := by
          rw [← Array.length_toList, hC]
          simp only [List.length_flatten, List.map_replicate, List.sum_replicate_nat, Array.length_toList, hzs]
        omega
    have key : (Instr.makeSlice t (.int k (ln : Int)) (.int k' (cn : Int))).run P w = (do
        let a ← newRow el (if cn * inf.size = 0 then #[] else (Array.range (cn * inf.size)).map (zv.cells[· % zv.cells.size]!))
        pure (.slice (some a) ln cn) : Sem Value).run P w := by
      unfold Instr.makeSlice
      simp only [Sem.run_bind, run_underlying hu, Result.andThen_ok, ha1, ha2, run_typeInfo hi, hw1, hw2]
      rw [if_neg]
      rotate_left
      · have : ((2 : Int) ^ 48) = 281474976710656 := by decide
        rw [this, ← Int.natCast_mul]
        simp only [Bool.or_eq_true, decide_eq_true_eq]
        omega
      rw [Sem.run_bind, run_askRoom, Result.andThen_ok, Sem.run_bind, run_sizeOf hi, Result.andThen_ok, Int.toNat_natCast, Int.toNat_natCast]
      by_cases h0 : cn * inf.size = 0
      · simp only [h0, if_true, Sem.run_bind, Sem.run_pure, Result.andThen_ok]
        rw [show (Array.map (fun x => (#[] : Array Value)[x % (#[] : Array Value).size]!) (Array.range 0)) = #[] from by simp]
      · simp only [h0, if_false, Sem.run_bind, run_zeroValue hi hzv, Sem.run_pure, Result.andThen_ok]
    unfold VRun
    rw [key]
    refine hrow _ ?_
    by_cases h0 : cn * inf.size = 0
    · rw [if_pos h0]
      have : ((List.replicate cn zv.cells.toList).flatten).length = 0 := by
        simp only [List.length_flatten, List.map_replicate, List.sum_replicate_nat, Array.length_toList, hzs, h0]
      rw [List.eq_nil_of_length_eq_zero this]
    · rw [if_neg h0]
      exact zeros_eq zv.cells cn inf.size hzs

theorem makeMap_ok (r : Rel φ H.get x w) (hf : φ x = none) {t : TypeId} {q : TypeId × TypeId} (hq : mapTy P t = .ok q) {ro : Option Value} (hro : ∀ u, ro = some u → ∃ k n, u = .int k n) :
    VRun P φ H x w (Instr.makeMap t ro) (.map x) (newB H x (.map [] 0)) (x + 1) := by
  have hu := mapTy_ok hq
  have hst := step_new r hf (.map #[] 0) (.map [] 0) 0 (.map (es := []) PM.add_self (by show (w.heap.push _)[w.heap.size]? = _; simp) .nil)
  refine ⟨_, _, .map (some w.heap.size), ?_, .map PM.add_self, hst⟩
  unfold Instr.makeMap
  cases ro with
  | none => rfl
  | some u =>
    obtain ⟨k, n, rfl⟩ := hro u rfl
    simp only [Sem.run_bind, run_underlying hu, Result.andThen_ok]
    rfl

/-! ### Conversions -/

theorem bytesOf_ok : ∀ {l : List AV} {bs : List UInt8} {vs : List Value}, bytesOf l = .ok bs → VRs φ l vs → ∃ ns : List Int, vs = ns.map (Value.int .u8) ∧ bs = ns.map fun n => UInt8.ofNat n.toNat := by
  intro l
  induction l with
  | nil => intro bs vs h hl; cases hl; cases h; exact ⟨[], rfl, rfl⟩
  | cons a l ih =>
    intro bs vs h hl
    cases hl with
    | cons ha hl =>
      have h' : (R.casesOn (byteOf a) (fun b => R.casesOn (bytesOf l) (fun r => .ok (b :: r)) .no) .no : R (List UInt8)) = .ok bs := h
      cases hb : byteOf a with
      | no c => rw [hb] at h'; cases h'
      | ok b =>
        cases hr : bytesOf l with
        | no c => rw [hb, hr] at h'; cases h'
        | ok r =>
          rw [hb, hr] at h'
          cases h'
          obtain ⟨ns, rfl, rfl⟩ := ih hr hl
          unfold byteOf at hb
          split at hb
          · rename_i n
            cases hb; cases ha
            exact ⟨Int.ofNat n :: ns, rfl, rfl⟩
          · cases hb

theorem foldl_push : ∀ (ns : List Int) (s : ByteArray), (ns.foldl (fun r n => r.push (UInt8.ofNat n.toNat)) s).data.toList = s.data.toList ++ ns.map fun n => UInt8.ofNat n.toNat := by
  intro ns
  induction ns with
  | nil => intro s; simp
  | cons n ns ih =>
    intro s
    rw [List.foldl_cons, ih]
    have : (s.push (UInt8.ofNat n.toNat)).data.toList = s.data.toList ++ [UInt8.ofNat n.toNat] := by simp [ByteArray.push]
    rw [this]; simp

theorem strOfA_ok (r : Rel φ H.get x w) {a : AV} {av : Value} (h : strOfA H a = .ok v) (ha : VR φ a av) : ∃ val, (Conv.bytesToString av).run P w = .ok val w ∧ VR φ v val := by
  unfold strOfA at h
  split at h
  · cases h; cases ha; exact ⟨.string .empty, rfl, .str ByteArray.empty⟩
  · cases h
    cases ha with
    | emptySlice a cap =>
      have := run_bytesToString (P := P) w a 0 cap [] rfl
      exact ⟨_, this, .str ByteArray.empty⟩
  · rename_i m o n _ _ _
    obtain ⟨l, hl, h2⟩ := R.bind_ok h
    obtain ⟨cs, hcs, h3⟩ := R.bind_ok h2
    obtain ⟨bs, hbs, h4⟩ := R.bind_ok h3
    cases h4
    have hfirst : firstA H 1 n (.slice m o n n true 1) = .ok cs := by
      show ((cellsOf (H.get m)).bind fun l => subS o (n * 1) l) = _
      rw [hl, Nat.mul_one]; exact hcs
    cases ha with
    | slice hφ h1 hex h3 =>
      rename_i B sz cap
      obtain ⟨e1, e2⟩ := subS_ok hcs
      obtain ⟨ver, elc, hm⟩ := cellsOf_ok hl
      obtain ⟨B', sz', C, fr, ws, rest, hφ', hbk, hs, hC, hws, hfr⟩ := r.cells hm
      rw [hφ] at hφ'; cases hφ'
      have hv := (hws.drop o).take n
      have hload := run_loadCells_list (P := P) (w := w) ⟨B, o, none⟩ ((ws.drop o).take n) (fun j u hj => by
        rw [add_mk, cell_of hbk]
        refine get_append hC ?_
        rw [List.getElem?_take] at hj
        split at hj
        · simpa using hj
        · cases hj)
      rw [← e1] at hv
      rw [hv.length, e2] at hload
      obtain ⟨ns, hns, rfl⟩ := bytesOf_ok hbs hv
      rw [hns] at hload
      refine ⟨_, run_bytesToString w ⟨B, o, none⟩ n cap ns hload, .strOf ?_⟩
      rw [foldl_push]; simp
  · cases h

theorem isBytes_ok {d : TypeDesc} (h : isBytes P d = true) : ∃ e, d = .slice e ∧ P.underlying e = some (.int .u8) := by
  unfold isBytes at h
  split at h
  · rename_i e
    split at h
    · rename_i he; exact ⟨e, rfl, he⟩
    · cases h
  · cases h

theorem modify_push (h : Array Obj) (o : Obj) (f : Obj → Obj) : (h.push o).modify h.size f = h.push (f o) := by
  apply Array.ext_getElem?
  intro i
  rw [Array.getElem?_modify]
  by_cases hi : h.size = i
  · subst hi
    rw [if_pos rfl]
    simp
  · rw [if_neg hi]
    simp only [Array.getElem?_push]
    rw [if_neg (fun e => hi e.symm), if_neg (fun e => hi e.symm)]

theorem stringToBytes_ok (r : Rel φ H.get x w) (hf : φ x = none) {e : TypeId} {s : ByteArray} :
    VRun P φ H x w (Conv.stringToBytes e s) (.slice x 0 s.data.toList.length s.data.toList.length false 1) (newB H x (.cells e (intsOf s.data.toList))) (x + 1) := by
  let cap := (Question.appendCap s.size 0 e).cut (w.tape w.drawn (.appendCap s.size 0 e))
  have hcap : s.size ≤ cap := cut_cap _
  have hch : (choose (.appendCap s.size 0 e)).run P w = .ok cap w.drew := by
    rw [run_choose, show (Question.appendCap s.size 0 e).forced = false from rfl]; rfl
  let vs : List Value := s.data.toList.map fun b => Value.int .u8 b.toNat
  let rest : List Value := List.replicate (cap - s.size) (Value.int .u8 0)
  have hvs : VRs φ (intsOf s.data.toList) vs := by rw [intsOf_eq]; exact .ints _
  let C : Array Value := (vs ++ rest).toArray
  have hsz : C.size = cap := by
    show (vs ++ rest).toArray.size = cap
    simp only [List.size_toArray, List.length_append, vs, rest, List.length_map, List.length_replicate]
    rw [str_len]; omega
  have hC : (s.data.map fun b => (Value.int .u8 b.toNat)) ++ Array.replicate (cap - s.size) (Value.int .u8 0) = C := by
    apply Array.ext'
    simp [C, vs, rest]
  let o : Obj := .cells C e (cap, cap + 1)
  have s1 : Step φ H.get x w φ H.get x w.drew := step_heap r rfl rfl rfl rfl
  have hb : BR (φ.add x (w.drew.heap.size, cap)) (w.drew.alloc o) x (.cells e (intsOf s.data.toList)) := by
    refine .cells PM.add_self (C := C) (fr := (cap, cap + 1)) ?_ hsz (vs := vs) (rest := rest) (by simp [C]) (hvs.mono (PM.add_ext hf)) (fun i hi => ?_)
    · show (w.heap.push o)[w.heap.size]? = _
      simp [o]
    · simp only [Bool.and_eq_false_iff, decide_eq_false_iff_not]
      exact .inl (by show ¬ (cap ≤ i); omega)
  have s2 := step_new s1.rel hf o (.cells e (intsOf s.data.toList)) cap hb
  refine ⟨_, _, .slice (some ⟨w.heap.size, 0, none⟩) s.size cap, ?_, ?_, s1.trans s2⟩
  · unfold Conv.stringToBytes
    rw [Sem.run_bind, hch, Result.andThen_ok]
    dsimp only
    rw [hC]
    have hrow : (newRow e C).run P w.drew = .ok ⟨w.heap.size, 0, none⟩ (w.drew.alloc (.cells C e)) := rfl
    simp only [Sem.run_bind, hrow, Result.andThen_ok]
    have hshape : (w.drew.alloc (.cells C e)).shape? w.heap.size = some (e, C.size) := by
      unfold World.shape?
      show (match (w.heap.push (.cells C e))[w.heap.size]? with | some (.cells c e _) => some (e, c.size) | _ => none) = _
      simp
    have hmark : (markStringish ⟨w.heap.size, 0, none⟩).run P (w.drew.alloc (.cells C e)) = .ok () (w.drew.alloc o) := by
      unfold markStringish
      simp only [Sem.run_bind, run_shape, hshape, Result.andThen_ok, run_freeze]
      have : (w.drew.alloc (.cells C e)).freeze ⟨w.heap.size, C.size, none⟩ 1 = w.drew.alloc o := by
        unfold World.freeze
        rw [if_neg (by decide)]
        have hm := modify_push w.heap (.cells C e) (fun
          | .cells c elem (lo, hi) => .cells c elem (if lo == hi then (C.size, C.size + 1) else (min lo C.size, max hi (C.size + 1)))
          | o => o)
        have : ({ w.drew.alloc (.cells C e) with heap := w.heap.push o } : World) = w.drew.alloc o := rfl
        rw [← this]
        have ho : (Obj.cells C e (C.size, C.size + 1)) = o := by show _ = Obj.cells C e (cap, cap + 1); rw [hsz]
        rw [← ho]
        exact congrArg (fun h => ({ w.drew.alloc (.cells C e) with heap := h } : World)) hm
      rw [this]
    rw [hmark, Result.andThen_ok, Sem.run_pure]
  · rw [str_len]
    exact .slice PM.add_self hcap (fun e => by cases e) (by omega)

end Go.Ce
