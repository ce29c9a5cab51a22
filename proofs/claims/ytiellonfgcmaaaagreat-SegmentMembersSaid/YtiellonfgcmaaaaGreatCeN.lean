/- The abstract evaluator 'Ce': conversions, assertions, and all operations that call nothing. -/
import Derived.Test.YtiellonfgcmaaaaGreatCeY
set_option linter.unusedVariables false
set_option linter.unusedSimpArgs false
set_option linter.unusedSectionVars false
namespace Go.Ce
variable {P : Program} {φ : PM} {w : World} {H H' : Hp} {x x' : Nat} {v : AV}

theorem toStrA_ok (r : Rel φ H.get x w) {src dst : TypeId} {sd : TypeDesc} (hs : P.underlying src = some sd) (hd : P.underlying dst = some .string) {a : AV} {av : Value} (h : toStrA P H sd a = .ok v) (ha : VR φ a av) :
    ∃ val, (convert src dst av).run P w = .ok val w ∧ VR φ v val := by
  unfold toStrA at h
  split at h
  · cases h
    obtain ⟨s, rfl, rfl⟩ := str_of ha
    refine ⟨.string s, ?_, .str s⟩
    unfold convert
    simp only [Sem.run_bind, run_underlying hs, run_underlying hd, Result.andThen_ok]
    cases sd <;> rfl
  · cases h
  · obtain ⟨hb, h2⟩ := cond_ok h
    obtain ⟨e, rfl, he⟩ := isBytes_ok hb
    obtain ⟨val, h3, h4⟩ := strOfA_ok (P := P) r h2 ha
    have hsl : ∃ b l c, av = .slice b l c := by
      unfold strOfA at h2
      split at h2
      · cases ha; exact ⟨_, _, _, rfl⟩
      · cases ha; exact ⟨_, _, _, rfl⟩
      · cases ha; exact ⟨_, _, _, rfl⟩
      · cases h2
    obtain ⟨b, l, c, rfl⟩ := hsl
    exact ⟨val, (run_convert_bytes_string w src dst e b l c hs he hd).trans h3, h4⟩

theorem convertA_ok (r : Rel φ H.get x w) (hf : φ x = none) {src dst : TypeId} {a : AV} {av : Value} (h : convertA P H x src dst a = .ok v H' x') (ha : VR φ a av) :
    VRun P φ H x w (convert src dst av) v H' x' := by
  unfold convertA at h
  split at h
  · cases h
  · rename_i sd hs
    split at h
    · rename_i k hd
      split at h
      · rename_i k' n
        cases h; cases ha
        rw [wrapV_eq]
        refine VRun.pure r ⟨.int k (k.wrap n), ?_, .int ..⟩
        unfold convert
        simp only [Sem.run_bind, run_underlying hs, run_underlying hd, Result.andThen_ok]
        cases sd <;> rfl
      · cases h
    · rename_i hd
      obtain ⟨h2, rfl, rfl⟩ := toO_ok h
      exact VRun.pure r (toStrA_ok r hs hd h2 ha)
    · rename_i e hd
      split at h
      · rename_i l
        obtain ⟨hb, h2⟩ := condO_ok h
        obtain ⟨e', he', hu⟩ := isBytes_ok hb
        cases he'
        obtain ⟨row, hrow, rfl, rfl, rfl⟩ := toN_ok h2
        cases hrow
        obtain ⟨s, rfl, rfl⟩ := str_of ha
        obtain ⟨φ', w', val, h3, h4, h5⟩ := stringToBytes_ok (P := P) r hf (e := e) (s := s)
        refine ⟨φ', w', val, ?_, h4, h5⟩
        unfold convert
        simp only [Sem.run_bind, run_underlying hs, run_underlying hd, Result.andThen_ok]
        cases sd <;> simp only [run_underlying hu, Result.andThen_ok] <;> exact h3
      · cases h
    · cases h

/-! ### Assertions -/

theorem zeroFalse_ok {t : TypeId} {ok : Bool} (h : zeroFalse P t ok = .ok v) : ok = true ∧ ∃ val, (do pure (.tuple #[← zeroValue t, .bool false]) : Sem Value).run P w = .ok val w ∧ VR φ v val := by
  unfold zeroFalse at h
  obtain ⟨hok, h2⟩ := cond_ok h
  obtain ⟨z, hz, h3⟩ := R.bind_ok h2
  cases h3
  obtain ⟨i, zv, hi, hzv, rfl⟩ := zeroA_ok hz
  refine ⟨hok, .tuple #[zv, .bool false], ?_, .tup (.cons (VR.ofVal φ zv) (.cons (.bool false) .nil))⟩
  simp only [Sem.run_bind, run_zeroValue hi hzv, Result.andThen_ok, Sem.run_pure]

theorem typeAssertA_ok {xt t : TypeId} {a : AV} {av : Value} {ok : Bool} (h : typeAssertA P t a ok = .ok v) (ha : VR φ a av) : ∃ val, (Instr.typeAssert av xt t ok).run P w = .ok val w ∧ VR φ v val := by
  unfold typeAssertA at h
  split at h
  · cases h
  · rename_i want hu
    split at h
    · cases ha
      obtain ⟨rfl, val, h1, h2⟩ := zeroFalse_ok (φ := φ) (w := w) h
      refine ⟨val, ?_, h2⟩
      unfold Instr.typeAssert
      simp only [Sem.run_bind, run_underlying hu, Result.andThen_ok, if_true]
      simpa only [Sem.run_bind] using h1
    · rename_i u y
      cases ha with
      | iface _ hy =>
        rename_i yv
        split at h
        · cases h
        · rename_i i hi
          cases hm : Instr.missingMethod want i.methods with
          | none =>
            rw [hm] at h
            cases h
            refine ⟨_, ?_, okOr_ok (ok := ok) (b := true) (.iface u hy)⟩
            unfold Instr.typeAssert
            simp only [Sem.run_bind, run_underlying hu, Result.andThen_ok, run_typeInfo hi, hm, Sem.run_pure]
          | some m =>
            rw [hm] at h
            obtain ⟨rfl, val, h1, h2⟩ := zeroFalse_ok (φ := φ) (w := w) (show zeroFalse P t ok = .ok v from h)
            refine ⟨val, ?_, h2⟩
            unfold Instr.typeAssert
            simp only [Sem.run_bind, run_underlying hu, Result.andThen_ok, run_typeInfo hi, hm, if_true]
            simpa only [Sem.run_bind] using h1
    · cases h
  · rename_i d hnd hu
    split at h
    · cases ha
      obtain ⟨rfl, val, h1, h2⟩ := zeroFalse_ok (φ := φ) (w := w) h
      refine ⟨val, ?_, h2⟩
      unfold Instr.typeAssert
      simp only [Sem.run_bind, run_underlying hu, Result.andThen_ok, if_true]
      cases d <;> first | exact absurd rfl (hnd _) | simpa only [Sem.run_bind] using h1
    · rename_i u y
      cases ha with
      | iface _ hy =>
        rename_i yv
        cases hut : Nat.beq u t with
        | true =>
          rw [hut, cond_true] at h
          have := beqT hut
          subst this
          cases h
          refine ⟨_, ?_, okOr_ok (ok := ok) (b := true) hy⟩
          unfold Instr.typeAssert
          simp only [Sem.run_bind, run_underlying hu, Result.andThen_ok]
          cases d <;> first | exact absurd rfl (hnd _) | simp only [if_true, Sem.run_pure]
        | false =>
          rw [hut, cond_false] at h
          have hne := beqN hut
          obtain ⟨rfl, val, h1, h2⟩ := zeroFalse_ok (φ := φ) (w := w) h
          refine ⟨val, ?_, h2⟩
          unfold Instr.typeAssert
          simp only [Sem.run_bind, run_underlying hu, Result.andThen_ok]
          cases d <;> first | exact absurd rfl (hnd _) | (rw [if_neg hne]; simpa only [Sem.run_bind, if_true] using h1)
    · cases h

/-! ### The small ones -/

theorem nthV_ok : ∀ {l : List AV} {vs : List Value} {i : Nat}, nthV l i = .ok v → VRs φ l vs → ∃ val, vs[i]? = some val ∧ VR φ v val := by
  intro l
  induction l with
  | nil => intro vs i h; cases h
  | cons a l ih =>
    intro vs i h hl
    cases hl with
    | cons ha hl =>
      cases i with
      | zero => cases h; exact ⟨_, rfl, ha⟩
      | succ i =>
        obtain ⟨val, e1, e2⟩ := ih (i := i) h hl
        exact ⟨val, by simpa using e1, e2⟩

theorem evs_ok {ρ : Operand → AV} {ρc : Operand → Value} (hρ : ∀ o, VR φ (ρ o) (ρc o)) : ∀ (l : List Operand), VRs φ (evs ρ l) (l.map ρc) := by
  intro l
  induction l with
  | nil => exact .nil
  | cons o l ih => exact .cons (hρ o) ih

theorem intOnly_ok {a : AV} {av : Value} (h : intOnly a = true) (ha : VR φ a av) : ∃ k n, av = .int k n := by
  cases ha <;> first | exact ⟨_, _, rfl⟩ | cases h

/-- All operations that call nothing. -/
theorem lift_ok (r : Rel φ H.get x w) (hf : φ x = none) {E : Env} (hE : E.P = P) {rec : Rec} {ρ : Operand → AV} {ρc : Operand → Value} (hρ : ∀ o, VR φ (ρ o) (ρc o)) {o : Oper} (hc : ∀ c, o.op ≠ .call c) (h : execA o.op E rec ρ H x = .ok v H' x') :
    OpRun P φ H x w (execOp ρc o) v H' x' := by
  subst hE
  unfold execOp
  have hpure : ∀ {a : AV} {av : Value}, VR φ a av → OpRun E.P φ H x w (pure (.value av)) a H x := fun ha => ⟨φ, w, _, _, rfl, .inl rfl, ha, .refl r⟩
  have hov : ∀ lo : Option Operand, OV φ (lo.map ρ) (lo.map ρc) := by
    intro lo; cases lo with
    | none => exact .none
    | some o => exact .some (hρ o)
  cases ho : o.op <;> rw [ho] at h
  case move a => cases h; exact hpure (hρ a)
  case assign a => cases h; exact hpure (hρ a)
  case pick c a b =>
    dsimp only
    have h : (match ρ c with | .bool t => .ok (bif t then ρ a else ρ b) H x | _ => .no 200 : O3) = .ok v H' x' := h
    have hcv := hρ c
    split at h
    · rename_i t ht
      rw [ht] at hcv
      cases h
      generalize ρc c = cv at hcv ⊢
      cases hcv
      cases t with
      | true => exact hpure (hρ a)
      | false => exact hpure (hρ b)
    · cases h
  case alloc t =>
    obtain ⟨l, hl, rfl, rfl, rfl⟩ := toN_ok (show toN H x t (.ptr x 0) _ = _ from h)
    obtain ⟨z, hz, h2⟩ := R.bind_ok hl
    obtain ⟨hj, h3⟩ := cond_ok' h2
    cases h3
    exact (alloc_ok r hf hz hj).op
  case box t a =>
    have h : (bif (ρ a).isJunk then .no 202 else .ok (.ptr x 0) (newB H x (.cells t (ρ a).cells)) (Nat.succ x) : O3) = .ok v H' x' := h
    cases hj : (ρ a).isJunk with
    | true => rw [hj] at h; cases h
    | false =>
      rw [hj, cond_false] at h
      cases h
      exact (box_ok r hf (hρ a) hj).op
  case build t ps =>
    obtain ⟨h2, rfl, rfl⟩ := toO_ok (show toO H x _ = _ from h)
    exact (VRun.pure r (buildA_ok hρ h2)).op
  case buildSlice t n ps => exact (buildSliceA_ok r hf hρ h).op
  case insert t m k u =>
    obtain ⟨h2, rfl, rfl⟩ := toU_ok (show toU x _ = _ from h)
    exact OpRun.unit (mapUpdateA_ok r h2 (hρ m) (hρ k) (hρ u))
  case mapUpdate t m k u =>
    obtain ⟨h2, rfl, rfl⟩ := toU_ok (show toU x _ = _ from h)
    exact OpRun.unit (mapUpdateA_ok r h2 (hρ m) (hρ k) (hρ u))
  case load t a =>
    obtain ⟨h2, rfl, rfl⟩ := toO_ok (show toO H x _ = _ from h)
    exact (VRun.pure r (loadA_ok r h2 (hρ a))).op
  case store t a u =>
    obtain ⟨h2, rfl, rfl⟩ := toU_ok (show toU x _ = _ from h)
    exact OpRun.unit (storeA_ok r h2 (hρ a) (hρ u))
  case nilCheck a =>
    dsimp only
    obtain ⟨h2, rfl, rfl⟩ := toO_ok (show toO H x _ = _ from h)
    have ha := hρ a
    generalize ρc a = av at ha ⊢
    generalize ρ a = aa at ha h2
    unfold nilCheckA at h2
    split at h2
    · cases h2
    · cases h2
    · cases h2
    · cases h2
    · cases h2
    · cases h2
      rename_i hn1 hn2 hn3 hn4 hn5
      have ha2 := ha
      cases ha <;> first | exact absurd rfl hn1 | exact absurd rfl hn2 | exact absurd rfl hn3 | exact absurd rfl hn4 | skip
      case func fn f c vf vc hf hc =>
        cases fn <;> first | exact absurd rfl (hn5 _ _ _) | exact hpure (.func hf hc)
      all_goals exact hpure ha2
  case binOp op t a b u =>
    obtain ⟨h2, rfl, rfl⟩ := toO_ok (show toO H x _ = _ from h)
    exact (VRun.pure r (binA_ok h2 (hρ a) (hρ b))).op
  case unOp op t a =>
    obtain ⟨h2, rfl, rfl⟩ := toO_ok (show toO H x _ = _ from h)
    exact (VRun.pure r (unA_ok h2 (hρ a))).op
  case convert s d a => exact (convertA_ok r hf h (hρ a)).op
  case sliceToArrayPointer t a =>
    dsimp only
    obtain ⟨h2, rfl, rfl⟩ := toO_ok (show toO H x _ = _ from h)
    obtain ⟨q, hq, h3⟩ := R.bind_ok h2
    have hu := arrOf_ok hq
    have ha := hρ a
    generalize ρc a = av at ha ⊢
    split at h3
    · rename_i m oo len _ _ _ hae
      rw [hae] at ha
      obtain ⟨hle, h4⟩ := cond_ok h3
      have hle := bleT hle
      cases h4
      cases ha with
      | slice hφ _ _ _ =>
        refine (VRun.pure r ⟨.pointer _, ?_, .ptr hφ⟩).op
        unfold Instr.arrayAt
        simp only [Sem.run_bind, run_underlying hu, Result.andThen_ok]
        rw [if_neg (by omega)]; rfl
    · cases h3
  case makeInterface t a =>
    obtain ⟨hcc, h2⟩ := condO_ok (show (bif concreteA E.P t then .ok (.iface t (ρ a)) H x else .no 206 : O3) = _ from h)
    cases h2
    refine (VRun.pure r ⟨.iface t (ρc a), ?_, .iface t (hρ a)⟩).op
    unfold concreteA at hcc
    unfold Instr.makeInterface
    split at hcc
    · cases hcc
    · cases hcc
    · rename_i d hnd hu
      simp only [Sem.run_bind, run_underlying hu, Result.andThen_ok]
      cases d <;> first | exact absurd rfl (hnd _) | rfl
  case makeFunc fn f c =>
    obtain ⟨_, h2⟩ := condO_ok (show (bif plainFn fn then .ok (.func fn (evs ρ f.toList) (evs ρ c.toList)) H x else .no 208 : O3) = _ from h)
    cases h2
    refine (VRun.pure r ⟨.func fn (f.map ρc) (c.map ρc), rfl, ?_⟩).op
    have e1 : f.map ρc = (f.toList.map ρc).toArray := by apply Array.ext'; simp only [Array.toList_map]
    have e2 : c.map ρc = (c.toList.map ρc).toArray := by apply Array.ext'; simp only [Array.toList_map]
    rw [e1, e2]
    exact .func (evs_ok hρ _) (evs_ok hρ _)
  case makeMap t ro =>
    obtain ⟨q, hq, h2⟩ := casesO_ok (show (R.casesOn (mapTy E.P t) _ O3.no : O3) = _ from h)
    cases ro with
    | none => cases h2; exact (makeMap_ok r hf hq (fun u e => by cases e)).op
    | some o =>
      obtain ⟨hi, h3⟩ := condO_ok h2
      cases h3
      exact (makeMap_ok r hf hq (fun u e => by cases e; exact intOnly_ok hi (hρ o))).op
  case makeSlice t l c => exact (makeSliceA_ok r hf h (hρ l) (hρ c)).op
  case slice t a lo hi mx =>
    obtain ⟨h2, rfl, rfl⟩ := toO_ok (show toO H x _ = _ from h)
    exact (VRun.pure r (sliceA_ok r h2 (hρ a) (hov lo) (hov hi) (hov mx))).op
  case fieldAddr t a i =>
    obtain ⟨h2, rfl, rfl⟩ := toO_ok (show toO H x _ = _ from h)
    exact (VRun.pure r (fieldAddrA_ok h2 (hρ a))).op
  case field t a i =>
    obtain ⟨h2, rfl, rfl⟩ := toO_ok (show toO H x _ = _ from h)
    exact (VRun.pure r (fieldA_ok h2 (hρ a))).op
  case indexAddr t a i =>
    obtain ⟨h2, rfl, rfl⟩ := toO_ok (show toO H x _ = _ from h)
    exact (VRun.pure r (indexAddrA_ok h2 (hρ a) (hρ i))).op
  case index t a i =>
    obtain ⟨h2, rfl, rfl⟩ := toO_ok (show toO H x _ = _ from h)
    exact (VRun.pure r (indexA_ok h2 (hρ a) (hρ i))).op
  case lookup t m k ok =>
    obtain ⟨h2, rfl, rfl⟩ := toO_ok (show toO H x _ = _ from h)
    exact (VRun.pure r (lookupA_ok r h2 (hρ m) (hρ k))).op
  case typeAssert a u t ok =>
    obtain ⟨h2, rfl, rfl⟩ := toO_ok (show toO H x _ = _ from h)
    exact (VRun.pure r (typeAssertA_ok h2 (hρ a))).op
  case extract a i =>
    dsimp only
    have h : (match ρ a with | .tup l => toO H x (nthV l i) | _ => .no 211 : O3) = .ok v H' x' := h
    have ha := hρ a
    generalize ρc a = av at ha ⊢
    split at h
    · rename_i l hae
      rw [hae] at ha
      obtain ⟨h2, rfl, rfl⟩ := toO_ok h
      cases ha with
      | tup hl =>
        obtain ⟨val, h3, h4⟩ := nthV_ok h2 hl
        refine (VRun.pure r ⟨val, ?_, h4⟩).op
        unfold Instr.extract
        simp [h3]
    · cases h
  case range t a => exact (rangeIt_ok r hf h (hρ a)).op
  case next a isS =>
    obtain ⟨v2, H2, x2, hin, hv⟩ := nextA_ok (P := E.P) (ty := o.type) r (show nextA H x (ρ a) isS = _ from h) (fun c e => by cases e) (hρ a)
    obtain ⟨rfl, rfl, rfl⟩ : v2 = v ∧ H2 = H' ∧ x2 = x' := hin
    exact hv.op
  case entry a =>
    obtain ⟨h2, rfl, rfl⟩ := toO_ok (show toO H x _ = _ from h)
    exact (VRun.pure r (entryA_ok r h2 (hρ a))).op
  case mapEntry t m k =>
    obtain ⟨q, hq, h2⟩ := casesO_ok (show (R.casesOn (mapEntryA E.P H t (ρ m) (ρ k)) _ O3.no : O3) = _ from h)
    cases h2
    exact (mapEntryA_ok r hq (hρ m) (hρ k)).op
  case entryStore t m s u =>
    obtain ⟨h2, rfl, rfl⟩ := toU_ok (show toU x _ = _ from h)
    exact OpRun.unit (entryStoreA_ok r h2 (hρ m) (hρ s) (hρ u))
  case panic a =>
    have h : panicA H x (ρ a) = .ok v H' x' := h
    unfold panicA at h
    split at h <;> cases h
  case call c => exact absurd ho (hc c)
  all_goals cases h

end Go.Ce
