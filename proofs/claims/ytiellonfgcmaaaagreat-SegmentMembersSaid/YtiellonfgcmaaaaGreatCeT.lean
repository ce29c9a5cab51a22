/- The abstract evaluator 'Ce': regions that draw their order: the text's own tests; operands; footprints; the trace. -/
import Derived.Test.YtiellonfgcmaaaaGreatCeS
set_option linter.unusedVariables false
set_option linter.unusedSimpArgs false
set_option linter.unusedSectionVars false
namespace Go.Ce

/-! ### What an operation looks at -/

theorem evs_congr {ρ ρ' : Operand → AV} : ∀ {l : List Operand}, (∀ x ∈ l, ρ x = ρ' x) → evs ρ l = evs ρ' l := by
  intro l
  induction l with
  | nil => intro _; rfl
  | cons o l ih =>
    intro h
    show ρ o :: evs ρ l = ρ' o :: evs ρ' l
    rw [h o (List.mem_cons_self ..), ih fun x hx => h x (List.mem_cons_of_mem _ hx)]

theorem evps_congr {ρ ρ' : Operand → AV} : ∀ {l : List (Nat × Operand)}, (∀ x ∈ l.map (·.2), ρ x = ρ' x) → evps ρ l = evps ρ' l := by
  intro l
  induction l with
  | nil => intro _; rfl
  | cons q l ih =>
    intro h
    show (q.1, ρ q.2) :: evps ρ l = (q.1, ρ' q.2) :: evps ρ' l
    rw [h q.2 (by simp), ih fun x hx => h x (by rw [List.map_cons]; exact List.mem_cons_of_mem _ hx)]

theorem opt_congr {ρ ρ' : Operand → AV} {o : Option Operand} (h : ∀ x ∈ o.toArray, ρ x = ρ' x) : o.map ρ = o.map ρ' := by
  cases o with
  | none => rfl
  | some x => simp only [Option.map_some]; rw [h x (by simp)]

theorem execA_congr {E : Env} {rec : Rec} {ρ ρ' : Operand → AV} {op : Op} (h : ∀ x ∈ op.operands, ρ x = ρ' x) (H : Hp) (x : Nat) : execA op E rec ρ H x = execA op E rec ρ' H x := by
  cases op with
  | move a => show O3.ok (ρ a) H x = _; rw [h a (by simp [Op.operands])]; rfl
  | assign a => show O3.ok (ρ a) H x = _; rw [h a (by simp [Op.operands])]; rfl
  | pick c a b =>
    show oPick c a b E.P ρ H x = oPick c a b E.P ρ' H x
    unfold oPick
    rw [h c (by simp [Op.operands]), h a (by simp [Op.operands]), h b (by simp [Op.operands])]
  | alloc t => rfl
  | box t a => show oBox t a E.P ρ H x = oBox t a E.P ρ' H x; unfold oBox; rw [h a (by simp [Op.operands])]
  | build t ps => show oBuild t ps E.P ρ H x = oBuild t ps E.P ρ' H x; unfold oBuild; rw [evps_congr (ρ := ρ) (ρ' := ρ') fun x hx => h x (by simpa [Op.operands] using hx)]
  | buildSlice t n ps => show oBuildSlice t n ps E.P ρ H x = oBuildSlice t n ps E.P ρ' H x; unfold oBuildSlice; rw [evps_congr (ρ := ρ) (ρ' := ρ') fun x hx => h x (by simpa [Op.operands] using hx)]
  | insert t m k v => show oInsert t m k v E.P ρ H x = oInsert t m k v E.P ρ' H x; unfold oInsert; rw [h m (by simp [Op.operands]), h k (by simp [Op.operands]), h v (by simp [Op.operands])]
  | mapUpdate t m k v => show oInsert t m k v E.P ρ H x = oInsert t m k v E.P ρ' H x; unfold oInsert; rw [h m (by simp [Op.operands]), h k (by simp [Op.operands]), h v (by simp [Op.operands])]
  | load t a => show oLoad t a E.P ρ H x = oLoad t a E.P ρ' H x; unfold oLoad; rw [h a (by simp [Op.operands])]
  | store t a v => show oStore t a v E.P ρ H x = oStore t a v E.P ρ' H x; unfold oStore; rw [h a (by simp [Op.operands]), h v (by simp [Op.operands])]
  | nilCheck a => show oNilCheck a E.P ρ H x = oNilCheck a E.P ρ' H x; unfold oNilCheck; rw [h a (by simp [Op.operands])]
  | binOp op t a b u => show oBin op t a b u E.P ρ H x = oBin op t a b u E.P ρ' H x; unfold oBin; rw [h a (by simp [Op.operands]), h b (by simp [Op.operands])]
  | unOp op t a => show oUn op t a E.P ρ H x = oUn op t a E.P ρ' H x; unfold oUn; rw [h a (by simp [Op.operands])]
  | convert s d a => show oConvert s d a E.P ρ H x = oConvert s d a E.P ρ' H x; unfold oConvert; rw [h a (by simp [Op.operands])]
  | sliceToArrayPointer t a => show oArrPtr t a E.P ρ H x = oArrPtr t a E.P ρ' H x; unfold oArrPtr; rw [h a (by simp [Op.operands])]
  | makeInterface t a => show oMakeIface t a E.P ρ H x = oMakeIface t a E.P ρ' H x; unfold oMakeIface; rw [h a (by simp [Op.operands])]
  | makeFunc fn f c =>
    show oMakeFunc fn f c E.P ρ H x = oMakeFunc fn f c E.P ρ' H x
    unfold oMakeFunc
    rw [evs_congr (ρ := ρ) (ρ' := ρ') (l := f.toList) fun x hx => h x (by simp only [Op.operands, Array.mem_append]; exact .inl (by simpa using hx)),
      evs_congr (ρ := ρ) (ρ' := ρ') (l := c.toList) fun x hx => h x (by simp only [Op.operands, Array.mem_append]; exact .inr (by simpa using hx))]
  | makeMap t r =>
    show oMakeMap t r E.P ρ H x = oMakeMap t r E.P ρ' H x
    unfold oMakeMap
    cases r with
    | none => rfl
    | some o => dsimp only; rw [h o (by simp [Op.operands])]
  | makeSlice t l c => show oMakeSlice t l c E.P ρ H x = oMakeSlice t l c E.P ρ' H x; unfold oMakeSlice; rw [h l (by simp [Op.operands]), h c (by simp [Op.operands])]
  | slice t a lo hi mx =>
    show oSlice t a lo hi mx E.P ρ H x = oSlice t a lo hi mx E.P ρ' H x
    unfold oSlice
    rw [h a (by simp [Op.operands]), opt_congr (ρ := ρ) (ρ' := ρ') (o := lo) fun x hx => h x (by simp only [Op.operands, Array.mem_append]; exact .inl (.inl (.inr hx))),
      opt_congr (ρ := ρ) (ρ' := ρ') (o := hi) fun x hx => h x (by simp only [Op.operands, Array.mem_append]; exact .inl (.inr hx)),
      opt_congr (ρ := ρ) (ρ' := ρ') (o := mx) fun x hx => h x (by simp only [Op.operands, Array.mem_append]; exact .inr hx)]
  | fieldAddr t a i => show oFieldAddr t a i E.P ρ H x = oFieldAddr t a i E.P ρ' H x; unfold oFieldAddr; rw [h a (by simp [Op.operands])]
  | field t a i => show oField t a i E.P ρ H x = oField t a i E.P ρ' H x; unfold oField; rw [h a (by simp [Op.operands])]
  | indexAddr t a i => show oIndexAddr t a i E.P ρ H x = oIndexAddr t a i E.P ρ' H x; unfold oIndexAddr; rw [h a (by simp [Op.operands]), h i (by simp [Op.operands])]
  | index t a i => show oIndex t a i E.P ρ H x = oIndex t a i E.P ρ' H x; unfold oIndex; rw [h a (by simp [Op.operands]), h i (by simp [Op.operands])]
  | lookup t m k ok => show oLookup t m k ok E.P ρ H x = oLookup t m k ok E.P ρ' H x; unfold oLookup; rw [h m (by simp [Op.operands]), h k (by simp [Op.operands])]
  | typeAssert a u t ok => show oAssert a u t ok E.P ρ H x = oAssert a u t ok E.P ρ' H x; unfold oAssert; rw [h a (by simp [Op.operands])]
  | extract a i => show oExtract a i E.P ρ H x = oExtract a i E.P ρ' H x; unfold oExtract; rw [h a (by simp [Op.operands])]
  | range t a => show oRange t a E.P ρ H x = oRange t a E.P ρ' H x; unfold oRange; rw [h a (by simp [Op.operands])]
  | next a isS => show oNext a isS E.P ρ H x = oNext a isS E.P ρ' H x; unfold oNext; rw [h a (by simp [Op.operands])]
  | entry a => show oEntry a E.P ρ H x = oEntry a E.P ρ' H x; unfold oEntry; rw [h a (by simp [Op.operands])]
  | mapEntry t m k => show oMapEntry t m k E.P ρ H x = oMapEntry t m k E.P ρ' H x; unfold oMapEntry; rw [h m (by simp [Op.operands]), h k (by simp [Op.operands])]
  | entryStore t m s v => show oEntryStore t m s v E.P ρ H x = oEntryStore t m s v E.P ρ' H x; unfold oEntryStore; rw [h m (by simp [Op.operands]), h s (by simp [Op.operands]), h v (by simp [Op.operands])]
  | panic a => show oPanic a E.P ρ H x = oPanic a E.P ρ' H x; unfold oPanic; rw [h a (by simp [Op.operands])]
  | call c =>
    show oCall c E rec ρ H x = oCall c E rec ρ' H x
    unfold oCall
    have hargs : evs ρ c.args.toList = evs ρ' c.args.toList := evs_congr fun x hx => h x (by simp only [Op.operands, Call.operands, Array.mem_append]; exact .inr (by simpa using hx))
    rw [hargs]
    split
    · rfl
    · rename_i f hf
      rw [h f (by simp [Op.operands, Call.operands, hf])]
    · rename_i r name hr
      rw [h r (by simp [Op.operands, Call.operands, hr])]
  | _ => rfl

/-! ### Footprints -/

theorem pick_sub {H : Hp} : ∀ {l : List Nat} {out : Hp}, (∀ n b, out.get n = some b → H.get n = some b) → ∀ n b, (pick H l out).get n = some b → H.get n = some b := by
  intro l
  induction l with
  | nil => intro out h; exact h
  | cons k l ih =>
    intro out h n b hn
    unfold pick at hn
    split at hn
    · rename_i b' hb'
      refine ih (fun n b hn => ?_) n b hn
      rcases Tr.get_ins hn with ⟨rfl, rfl⟩ | ⟨_, h2⟩
      · exact hb'
      · exact h n b h2
    · exact ih h n b hn

theorem reach_sub {H : Hp} : ∀ {d : Nat} {l : List Nat} {out : Hp}, (∀ n b, out.get n = some b → H.get n = some b) → ∀ n b, (reach H d l out).get n = some b → H.get n = some b := by
  intro d
  induction d with
  | zero => intro l out h; exact h
  | succ d ih =>
    intro l out h n b hn
    cases l with
    | nil => exact h n b hn
    | cons k l =>
      unfold reach at hn
      split at hn
      · exact ih h n b hn
      · split at hn
        · exact ih h n b hn
        · rename_i b' hb'
          refine ih (fun n b hn => ?_) n b hn
          rcases Tr.get_ins hn with ⟨rfl, rfl⟩ | ⟨_, h2⟩
          · exact hb'
          · exact h n b h2

theorem empty_sub {H : Hp} (n : Nat) (b : Blk) (h : (Tr.e : Hp).get n = some b) : H.get n = some b := by simp [Tr.get, Tr.find_e] at h

theorem footA_sub {ρ : Operand → AV} {H : Hp} {op : Op} {n : Nat} {b : Blk} (h : (footA ρ H op).get n = some b) : H.get n = some b := by
  unfold footA at h
  split at h
  all_goals first
    | exact pick_sub empty_sub n b h
    | exact empty_sub n b h
    | skip
  unfold footCall at h
  split at h
  · exact pick_sub empty_sub n b h
  · exact reach_sub empty_sub n b h
  · exact reach_sub empty_sub n b h

/-! ### The text's tests -/

theorem memN_ok {n : Nat} : ∀ {l : List Nat}, n ∈ l → memN n l = true := by
  intro l
  induction l with
  | nil => intro h; cases h
  | cons a l ih =>
    intro h
    show (bif Nat.beq a n then true else memN n l) = true
    cases h with
    | head => simp
    | tail _ h => rw [ih h]; cases Nat.beq a n <;> rfl

theorem apartT_ok {ops : Array Oper} {x y : Oper} (h : apartT ops x y = true) : (∀ d, x.dst = some d → d ∉ y.looksAt ops ∧ y.dst ≠ some d) ∧ (∀ d, y.dst = some d → d ∉ x.looksAt ops) := by
  unfold apartT at h
  simp only [Bool.and_eq_true] at h
  obtain ⟨h1, h2⟩ := h
  refine ⟨fun d hd => ?_, fun d hd hm => ?_⟩
  · rw [hd] at h1
    simp only [Bool.and_eq_true, Bool.not_eq_true'] at h1
    refine ⟨fun hm => ?_, fun he => ?_⟩
    · rw [memN_ok hm] at h1; cases h1.1
    · rw [he] at h1
      simp at h1
  · rw [hd] at h2
    simp only [Bool.not_eq_true'] at h2
    rw [memN_ok hm] at h2; cases h2

theorem apartAll_ok {ops : Array Oper} {y : Oper} {m : Nat} : ∀ {l : List Oper} {i : Nat}, apartAll ops y m l i = true → ∀ j x, l[j]? = some x → Nat.testBit m (i + j) = true ∨ apartT ops x y = true := by
  intro l
  induction l with
  | nil => intro i _ j x h; simp at h
  | cons a l ih =>
    intro i h j x hx
    have h : (bif Nat.testBit m i then apartAll ops y m l (Nat.succ i) else bif apartT ops a y then apartAll ops y m l (Nat.succ i) else false) = true := h
    cases j with
    | zero =>
      simp at hx
      subst hx
      cases ht : Nat.testBit m i with
      | true => exact .inl rfl
      | false =>
        rw [ht, cond_false] at h
        cases ha : apartT ops a y with
        | true => exact .inr rfl
        | false => rw [ha] at h; cases h
    | succ j =>
      have hl : apartAll ops y m l (Nat.succ i) = true := by
        revert h
        cases Nat.testBit m i <;> cases apartT ops a y <;> simp
      have := ih hl j x (by simpa using hx)
      rwa [show i.succ + j = i + (j + 1) from by omega] at this

theorem edgesOk_ok {i : Nat} : ∀ {l : List Edge}, edgesOk i l = true → ∀ e ∈ l, Region.binds .any e = true → e.on < i := by
  intro l
  induction l with
  | nil => intro _ e h; cases h
  | cons a l ih =>
    intro h e he hb
    have h : (bif Region.binds .any a then bif Nat.blt a.on i then edgesOk i l else false else edgesOk i l) = true := h
    have hl : edgesOk i l = true := by
      revert h
      cases Region.binds .any a <;> cases Nat.blt a.on i <;> simp
    cases he with
    | tail _ he => exact ih hl e he hb
    | head =>
      rw [hb, cond_true] at h
      cases ht : Nat.blt a.on i with
      | true => exact bltT ht
      | false => rw [ht] at h; cases h

theorem textOk_ok {ops : Array Oper} {bef : List Nat} : ∀ {l done : List Oper} {i : Nat}, i = done.length → textOk ops done bef l i = true → ∀ j y, l[j]? = some y →
    (∀ e ∈ y.after, Region.binds .any e = true → e.on < i + j) ∧ ∀ k x, (done ++ l)[k]? = some x → k < i + j → Nat.testBit (nthN bef (i + j)) k = true ∨ apartT ops x y = true := by
  intro l
  induction l with
  | nil => intro done i _ _ j y h; simp at h
  | cons o l ih =>
    intro done i hi h j y hy
    have h : (bif edgesOk i o.after.toList then bif apartAll ops o (nthN bef i) done 0 then textOk ops (done ++ [o]) bef l (Nat.succ i) else false else false) = true := h
    cases he : edgesOk i o.after.toList with
    | false => rw [he] at h; cases h
    | true =>
      rw [he, cond_true] at h
      cases ha : apartAll ops o (nthN bef i) done 0 with
      | false => rw [ha] at h; cases h
      | true =>
        rw [ha, cond_true] at h
        cases j with
        | zero =>
          simp at hy
          subst hy
          refine ⟨fun e hm hb => edgesOk_ok he e (by simpa using hm) hb, fun k x hx hk => ?_⟩
          have hx' : done[k]? = some x := by rwa [List.getElem?_append_left (by omega)] at hx
          have := apartAll_ok ha k x hx'
          simpa using this
        | succ j =>
          have := ih (done := done ++ [o]) (i := Nat.succ i) (by simp [hi]) h j y (by simpa using hy)
          rw [show i.succ + j = i + (j + 1) from by omega] at this
          refine ⟨this.1, fun k x hx hk => this.2 k x ?_ hk⟩
          simpa using hx

theorem nthN_eq : ∀ (l : List Nat) (i : Nat), nthN l i = l.getD i 0 := by
  intro l
  induction l with
  | nil => intro i; rfl
  | cons a l ih =>
    intro i
    cases i with
    | zero => rfl
    | succ i => show nthN l i = _; rw [ih]; simp

theorem befOf_ok {acc : Nat → Nat} {j : Nat} : ∀ {l : List Edge} {s : Nat}, Nat.testBit (befOf acc l s) j = true → Nat.testBit s j = true ∨ ∃ e ∈ l, Region.binds .any e = true ∧ (j = e.on ∨ Nat.testBit (acc e.on) j = true) := by
  intro l
  induction l with
  | nil => intro s h; exact .inl h
  | cons a l ih =>
    intro s h
    have h : Nat.testBit (bif Region.binds .any a then befOf acc l (s ||| Nat.pow 2 a.on ||| acc a.on) else befOf acc l s) j = true := h
    cases hb : Region.binds .any a with
    | false =>
      rw [hb, cond_false] at h
      rcases ih h with h1 | ⟨e, he, h2⟩
      · exact .inl h1
      · exact .inr ⟨e, List.mem_cons_of_mem _ he, h2⟩
    | true =>
      rw [hb, cond_true] at h
      rcases ih h with h1 | ⟨e, he, h2⟩
      · rw [Nat.testBit_or, Nat.testBit_or] at h1
        have h1 : (Nat.testBit s j || Nat.testBit (2 ^ a.on) j || Nat.testBit (acc a.on) j) = true := h1
        rw [Nat.testBit_two_pow] at h1
        simp only [Bool.or_eq_true, decide_eq_true_eq] at h1
        rcases h1 with (h1 | h1) | h1
        · exact .inl h1
        · exact .inr ⟨a, List.mem_cons_self .., hb, .inl h1.symm⟩
        · exact .inr ⟨a, List.mem_cons_self .., hb, .inr h1⟩
      · exact .inr ⟨e, List.mem_cons_of_mem _ he, h2⟩

theorem befL_acc : ∀ {l : List Oper} {acc : List Nat}, ∃ r, befL l acc = acc ++ r := by
  intro l
  induction l with
  | nil => intro acc; exact ⟨[], by simp [befL]⟩
  | cons o l ih =>
    intro acc
    obtain ⟨r, hr⟩ := ih (acc := acc ++ [befOf (nthN acc) o.after.toList 0])
    exact ⟨_, by rw [befL, hr, List.append_assoc]⟩

theorem befL_old {l : List Oper} {acc : List Nat} {k : Nat} (hk : k < acc.length) : nthN (befL l acc) k = nthN acc k := by
  obtain ⟨r, hr⟩ := befL_acc (l := l) (acc := acc)
  rw [hr, nthN_eq, nthN_eq, List.getD_eq_getElem?_getD, List.getD_eq_getElem?_getD, List.getElem?_append_left hk]

theorem befL_at : ∀ {l : List Oper} {acc : List Nat} {j : Nat} {o : Oper}, l[j]? = some o → (∀ k y, l[k]? = some y → ∀ e ∈ y.after, Region.binds .any e = true → e.on < acc.length + k) → ∀ b, Nat.testBit (nthN (befL l acc) (acc.length + j)) b = true →
    ∃ e ∈ o.after, Region.binds .any e = true ∧ (b = e.on ∨ Nat.testBit (nthN (befL l acc) e.on) b = true) := by
  intro l
  induction l with
  | nil => intro acc j o h; simp at h
  | cons a l ih =>
    intro acc j o h hedge b hb
    have hstep : befL (a :: l) acc = befL l (acc ++ [befOf (nthN acc) a.after.toList 0]) := rfl
    cases j with
    | zero =>
      simp at h
      subst h
      rw [hstep, befL_old (by simp)] at hb
      have hval : nthN (acc ++ [befOf (nthN acc) a.after.toList 0]) (acc.length + 0) = befOf (nthN acc) a.after.toList 0 := by
        rw [nthN_eq]; simp
      rw [hval] at hb
      rcases befOf_ok hb with h1 | ⟨e, he, hbd, h2⟩
      · simp at h1
      · refine ⟨e, by simpa using he, hbd, ?_⟩
        rcases h2 with h2 | h2
        · exact .inl h2
        · right
          have hlt := hedge 0 a rfl e (by simpa using he) hbd
          rw [befL_old (by simpa using hlt)]
          exact h2
    | succ j =>
      rw [hstep] at hb ⊢
      have := ih (acc := acc ++ [befOf (nthN acc) a.after.toList 0]) (j := j) (o := o) (by simpa using h) (fun k y hy e he hbd => by
        have := hedge (k + 1) y (by simpa using hy) e he hbd
        simp; omega) b (by rw [show (acc ++ [befOf (nthN acc) a.after.toList 0]).length + j = acc.length + (j + 1) from by simp; omega]; exact hb)
      exact this

/-- All that the text's tests say. -/
theorem regionOk_ok {ops : Array Oper} (h : regionOk ops.toList = true) :
    (∀ i o, ops[i]? = some o → ∀ e ∈ o.after, Region.binds .any e = true → e.on < i) ∧
    (∀ i j x y, ops[j]? = some x → ops[i]? = some y → j < i → Nat.testBit (nthN (befL ops.toList []) i) j = true ∨ apartT ops x y = true) ∧
    (∀ i o, ops[i]? = some o → ∀ b, Nat.testBit (nthN (befL ops.toList []) i) b = true → ∃ e ∈ o.after, Region.binds .any e = true ∧ (b = e.on ∨ Nat.testBit (nthN (befL ops.toList []) e.on) b = true)) := by
  unfold regionOk at h
  rw [Array.toArray_toList] at h
  have key := fun j y hy => textOk_ok (done := []) (i := 0) rfl h j y hy
  have h1 : ∀ i o, ops[i]? = some o → ∀ e ∈ o.after, Region.binds .any e = true → e.on < i := fun i o ho e he hb => by
    have := (key i o (by simpa using ho)).1 e he hb
    omega
  refine ⟨h1, fun i j x y hx hy hlt => ?_, fun i o ho b hb => ?_⟩
  · have := (key i y (by simpa using hy)).2 j x (by simpa using hx) (by omega)
    simpa using this
  · have := befL_at (acc := []) (l := ops.toList) (j := i) (o := o) (by simpa using ho) (fun k y hy e he hbd => by
      have := h1 k y (by simpa using hy) e he hbd
      simpa using this) b (by simpa using hb)
    exact this

end Go.Ce
