/- The abstract evaluator 'Ce': addresses, slices, composite values. -/
import Derived.Test.YtiellonfgcmaaaaGreatCeG
set_option linter.unusedVariables false
set_option linter.unusedSimpArgs false
set_option linter.unusedSectionVars false
namespace Go.Ce
variable {P : Program} {φ : PM} {w : World} {H H' : Hp} {x x' : Nat} {v : AV}

theorem add_mk (b o j : Nat) : (⟨b, o, none⟩ : Addr).add j = ⟨b, o + j, none⟩ := by
  unfold Addr.add; split
  · rename_i e; subst e; rfl
  · rfl

theorem fieldOf_ok {t : TypeId} {i : Nat} {f : Field} (h : fieldOf P t i = .ok f) : ∃ fs, P.underlying t = some (.struct fs) ∧ fs[i]? = some f := by
  unfold fieldOf at h
  split at h
  · rename_i fs hu
    split at h
    · rename_i g hg; cases h; exact ⟨fs, hu, hg⟩
    · cases h
  · cases h

theorem fieldAddrA_ok {t : TypeId} {a : AV} {av : Value} {i : Nat} (h : fieldAddrA P t a i = .ok v) (ha : VR φ a av) : ∃ val, (Instr.fieldAt t av i).run P w = .ok val w ∧ VR φ v val := by
  unfold fieldAddrA at h
  split at h
  · rename_i n o
    obtain ⟨d, hd, h2⟩ := R.bind_ok h
    cases h2
    unfold offOf at hd
    obtain ⟨f, hf, h3⟩ := R.bind_ok hd
    obtain ⟨s, hs, h4⟩ := R.bind_ok h3
    obtain ⟨h0, h5⟩ := cond_ok' h4
    cases h5
    obtain ⟨fs, hu, hfi⟩ := fieldOf_ok hf
    obtain ⟨inf, hi, hsi⟩ := sizeA_ok hs
    cases ha with
    | ptr hφ =>
      rename_i b sz
      refine ⟨.pointer (some ⟨b, o + f.offset, none⟩), ?_, .ptr hφ⟩
      have hne : ¬ inf.size = 0 := by rw [hsi]; exact beqN h0
      unfold Instr.fieldAt Instr.sureAddr fieldPlace
      simp only [Sem.run_bind, run_underlying hu, Result.andThen_ok, hfi, Sem.run_pure, run_sizeOf hi, if_neg hne, add_mk]
  · cases h

theorem fieldA_ok {t : TypeId} {a : AV} {av : Value} {i : Nat} (h : fieldA P t a i = .ok v) (ha : VR φ a av) : ∃ val, (Instr.field t av i).run P w = .ok val w ∧ VR φ v val := by
  unfold fieldA at h
  split at h
  · obtain ⟨f, hf, h2⟩ := R.bind_ok h
    obtain ⟨fs, hu, hfi⟩ := fieldOf_ok hf
    obtain ⟨vs, rfl, hvs⟩ := agg_of ha
    obtain ⟨val, h3, h4⟩ := run_part (P := P) (w := w) h2 hvs
    refine ⟨val, ?_, h4⟩
    unfold Instr.field
    simp only [Sem.run_bind, run_underlying hu, Result.andThen_ok, hfi, asAgg, Sem.run_pure]
    simpa using h3
  · cases h

theorem idxOf_ok {i : AV} {j : Nat} {iv : Value} (h : idxOf i = .ok j) (hi : VR φ i iv) : ∃ k, iv = .int k (j : Int) := by
  unfold idxOf at h
  split at h
  · rename_i k z
    cases hi
    cases z with
    | ofNat n => cases h; exact ⟨k, rfl⟩
    | negSucc n => cases h
  · cases h

theorem bltT {a b : Nat} (h : Nat.blt a b = true) : a < b := by simpa [Nat.blt_eq] using h
theorem bleT {a b : Nat} (h : Nat.ble a b = true) : a ≤ b := Nat.le_of_ble_eq_true h

theorem indexAddrA_ok {t : TypeId} {a i : AV} {av iv : Value} (h : indexAddrA P t a i = .ok v) (ha : VR φ a av) (hi : VR φ i iv) : ∃ val, (Instr.indexAt t av iv).run P w = .ok val w ∧ VR φ v val := by
  unfold indexAddrA at h
  split at h
  · rename_i n o len lb ex es
    obtain ⟨j, hj, h2⟩ := R.bind_ok h
    obtain ⟨k, rfl⟩ := idxOf_ok hj hi
    obtain ⟨hlt, h3⟩ := cond_ok h2
    obtain ⟨el, hel, h4⟩ := R.bind_ok h3
    obtain ⟨s, hs, h5⟩ := R.bind_ok h4
    have hu := elemA_ok hel
    obtain ⟨inf, hinf, hsi⟩ := sizeA_ok hs
    have hlt := bltT hlt
    cases h5
    cases ha with
    | slice hφ h1 h2 h3 =>
      rename_i b sz cap
      have hb : (0 : Int) ≤ (j : Int) ∧ (j : Int) < (len : Int) := by omega
      refine ⟨.pointer (some ⟨b, o + j * s, none⟩), ?_, .ptr hφ⟩
      unfold Instr.indexAt
      simp only [Sem.run_bind, asIntOf, Sem.run_pure, Result.andThen_ok, run_underlying hu, if_pos hb, run_sizeOf hinf, Int.toNat_natCast, add_mk, hsi]
  · rename_i n o
    obtain ⟨j, hj, h2⟩ := R.bind_ok h
    obtain ⟨k, rfl⟩ := idxOf_ok hj hi
    obtain ⟨q, hq, h3⟩ := R.bind_ok h2
    obtain ⟨hlt, h4⟩ := cond_ok h3
    obtain ⟨s, hs, h5⟩ := R.bind_ok h4
    have hu := arrOf_ok hq
    obtain ⟨inf, hinf, hsi⟩ := sizeA_ok hs
    have hlt := bltT hlt
    cases h5
    cases ha with
    | ptr hφ =>
      rename_i b sz
      have hb : (0 : Int) ≤ (j : Int) ∧ (j : Int) < (q.1 : Int) := by omega
      refine ⟨.pointer (some ⟨b, o + j * s, none⟩), ?_, .ptr hφ⟩
      unfold Instr.indexAt
      simp only [Sem.run_bind, asIntOf, Sem.run_pure, Result.andThen_ok, run_underlying hu, if_pos hb, run_sizeOf hinf, Int.toNat_natCast, add_mk, hsi, Instr.sureAddr]
  · cases h

theorem isStr_ok {t : TypeId} (h : isStr P t = true) : P.underlying t = some .string := by
  unfold isStr at h
  split at h
  · assumption
  · cases h

theorem indexA_ok {t : TypeId} {a i : AV} {av iv : Value} (h : indexA P t a i = .ok v) (ha : VR φ a av) (hi : VR φ i iv) : ∃ val, (Instr.index t av iv).run P w = .ok val w ∧ VR φ v val := by
  unfold indexA at h
  split at h
  · obtain ⟨j, hj, h2⟩ := R.bind_ok h
    obtain ⟨k, rfl⟩ := idxOf_ok hj hi
    obtain ⟨q, hq, h3⟩ := R.bind_ok h2
    obtain ⟨hlt, h4⟩ := cond_ok h3
    obtain ⟨s, hs, h5⟩ := R.bind_ok h4
    have hu := arrOf_ok hq
    obtain ⟨inf, hinf, hsi⟩ := sizeA_ok hs
    have hlt := bltT hlt
    obtain ⟨vs, rfl, hvs⟩ := agg_of ha
    have hb : (0 : Int) ≤ (j : Int) ∧ (j : Int) < (q.1 : Int) := by omega
    obtain ⟨val, h6, h7⟩ := run_part (P := P) (w := w) h5 hvs
    refine ⟨val, ?_, h7⟩
    unfold Instr.index
    simp only [Sem.run_bind, asIntOf, Sem.run_pure, Result.andThen_ok, run_underlying hu, if_pos hb, run_sizeOf hinf, Int.toNat_natCast, hsi]
    simpa using h6
  · obtain ⟨hst, h2⟩ := cond_ok h
    obtain ⟨j, hj, h3⟩ := R.bind_ok h2
    obtain ⟨k, rfl⟩ := idxOf_ok hj hi
    have hu := isStr_ok hst
    split at h3
    · rename_i b hb
      cases h3
      obtain ⟨s, rfl, rfl⟩ := str_of ha
      rw [nthB_eq] at hb
      refine ⟨.int .u8 b.toNat, ?_, .int ..⟩
      have hsb : s[j]? = some b := by
        rw [Array.getElem?_toList] at hb
        have hlt : j < s.data.size := (Array.getElem?_eq_some_iff.1 hb).1
        have : s[j]? = some (s[j]'hlt) := getElem?_pos s j hlt
        rw [this]
        rw [Array.getElem?_eq_getElem hlt] at hb
        exact hb
      unfold Instr.index
      simp only [Sem.run_bind, asIntOf, Sem.run_pure, Result.andThen_ok, run_underlying hu]
      simp [hsb]
    · cases h3
  · cases h

/-! ### Bounds -/

inductive OV (φ : PM) : Option AV → Option Value → Prop
  | none : OV φ none none
  | some {a : AV} {v : Value} (h : VR φ a v) : OV φ (some a) (some v)

theorem boundA_ok {a : AV} {av : Value} {y i : Nat} (h : boundA a y = .ok i) (ha : VR φ a av) {Y : Nat} (hY : y ≤ Y) (code : BoundsCode) : (Instr.sliceBound av Y code).run P w = .ok i w ∧ i ≤ y := by
  unfold boundA at h
  obtain ⟨j, hj, h2⟩ := R.bind_ok h
  obtain ⟨k, rfl⟩ := idxOf_ok hj ha
  obtain ⟨hle, h3⟩ := cond_ok h2
  cases h3
  have hle := bleT hle
  have hb : (0 : Int) ≤ (i : Int) ∧ (i : Int) ≤ (Y : Int) := by omega
  refine ⟨?_, hle⟩
  unfold Instr.sliceBound
  simp only [Sem.run_bind, asIntOf, Sem.run_pure, Result.andThen_ok, if_pos hb, Int.toNat_natCast]

theorem boundsA_ok {isS : Bool} {len cap C : Nat} {lo hi mx : Option AV} {lov hiv mxv : Option Value} {b : Nat × Nat × Nat} (h : boundsA len cap lo hi mx = .ok b) (hC : cap ≤ C) (h1 : OV φ lo lov) (h2 : OV φ hi hiv) (h3 : OV φ mx mxv) :
    (Instr.sliceBounds isS len C lov hiv mxv).run P w = .ok (b.1, b.2.1, if mx.isSome then b.2.2 else C) w ∧ b.2.2 ≤ cap ∧ (mx.isSome = false → b.2.2 = cap) := by
  unfold boundsA at h
  obtain ⟨m, hm, h4⟩ := R.bind_ok h
  obtain ⟨hh, hhh, h5⟩ := R.bind_ok h4
  obtain ⟨l, hl, h6⟩ := R.bind_ok h5
  cases h6
  unfold Instr.sliceBounds
  cases h3 with
  | none =>
    cases hm
    refine ⟨?_, Nat.le_refl _, fun _ => rfl⟩
    cases h2 with
    | none =>
      cases hhh
      cases h1 with
      | none => cases hl; rfl
      | some h1 =>
        have e1 := fun c => (boundA_ok (P := P) (w := w) hl h1 (Nat.le_refl _) c).1
        simp only [Sem.run_bind, Sem.run_pure, Result.andThen_ok, e1]
        rfl
    | some h2 =>
      have e2 := fun c => (boundA_ok (P := P) (w := w) hhh h2 hC c).1
      cases h1 with
      | none => cases hl; simp only [Sem.run_bind, Sem.run_pure, Result.andThen_ok, e2]; rfl
      | some h1 =>
        have e1 := fun c => (boundA_ok (P := P) (w := w) hl h1 (Nat.le_refl _) c).1
        simp only [Sem.run_bind, Sem.run_pure, Result.andThen_ok, e2, e1]
        rfl
  | some h3 =>
    have e3 := fun c => (boundA_ok (P := P) (w := w) hm h3 hC c).1
    have e3' := (boundA_ok (P := P) (w := w) hm h3 hC .slice3B).2
    refine ⟨?_, e3', fun e => by cases e⟩
    cases h2 with
    | none => cases hhh
    | some h2 =>
      have e2 := fun c => (boundA_ok (P := P) (w := w) hhh h2 (Nat.le_refl _) c).1
      cases h1 with
      | none => cases hl; simp only [Sem.run_bind, Sem.run_pure, Result.andThen_ok, e3, e2]; rfl
      | some h1 =>
        have e1 := fun c => (boundA_ok (P := P) (w := w) hl h1 (Nat.le_refl _) c).1
        simp only [Sem.run_bind, Sem.run_pure, Result.andThen_ok, e3, e2, e1]
        rfl

theorem subSlice_ok {n o s : Nat} {ex : Bool} {b : Nat × Nat × Nat} (h : subSlice n o s ex b = .ok v) {B sz M : Nat} (hφ : φ n = some (B, sz)) (hM : b.2.2 ≤ M) (hex : ex = true → M = b.2.2) (hsz : o + M * s ≤ sz) :
    VR φ v (.slice (some (if M = b.1 then ⟨B, o, none⟩ else (⟨B, o, none⟩ : Addr).add (b.1 * s))) (b.2.1 - b.1) (M - b.1)) := by
  unfold subSlice at h
  obtain ⟨hle, h2⟩ := cond_ok h
  have hle := bleT hle
  cases hm : Nat.beq b.2.2 b.1 with
  | true =>
    rw [hm, cond_true] at h2
    have hm := beqT hm
    cases ex with
    | true =>
      rw [cond_true] at h2
      cases h2
      have := hex rfl
      rw [if_pos (by omega)]
      exact .slice hφ (by omega) (fun _ => by omega) (by rw [show M - b.1 = 0 from by omega]; omega)
    | false =>
      rw [cond_false] at h2
      obtain ⟨he, h3⟩ := cond_ok h2
      have he := beqT he
      cases h3
      rw [show b.2.1 - b.1 = 0 from by omega]
      split <;> exact .emptySlice _ _
  | false =>
    rw [hm, cond_false] at h2
    have hm := beqN hm
    cases h2
    rw [if_neg (by omega), add_mk]
    refine .slice hφ (by omega) (fun e => by have := hex e; omega) ?_
    have : b.1 * s + (M - b.1) * s = M * s := by rw [← Nat.add_mul]; congr 1; omega
    omega

theorem arrSliceA_ok (r : Rel φ H.get x w) {n o len : Nat} {el : TypeId} {lo hi mx : Option AV} {lov hiv mxv : Option Value} (h : arrSliceA P H n o len el lo hi mx = .ok v) (h1 : OV φ lo lov) (h2 : OV φ hi hiv) (h3 : OV φ mx mxv) {B sz : Nat} (hφ : φ n = some (B, sz)) :
    ∃ b s inf, (Instr.sliceBounds false len len lov hiv mxv).run P w = .ok b w ∧ P.info? el = some inf ∧ inf.size = s ∧ VR φ v (.slice (some (if b.2.2 = b.1 then ⟨B, o, none⟩ else (⟨B, o, none⟩ : Addr).add (b.1 * s))) (b.2.1 - b.1) (b.2.2 - b.1)) := by
  unfold arrSliceA at h
  obtain ⟨cs, hcs, h4⟩ := R.bind_ok h
  obtain ⟨b, hb, h5⟩ := R.bind_ok h4
  obtain ⟨s, hs, h6⟩ := R.bind_ok h5
  obtain ⟨hle, h7⟩ := cond_ok h6
  obtain ⟨inf, hinf, hsi⟩ := sizeA_ok hs
  obtain ⟨e1, e2, e3⟩ := boundsA_ok (P := P) (w := w) (isS := false) hb (Nat.le_refl _) h1 h2 h3
  obtain ⟨ver, elc, hn⟩ := cellsOf_ok hcs
  obtain ⟨B', sz', C, fr, ws, rest, hφ', hbk, hs', hC, hws, hfr⟩ := r.cells hn
  rw [hφ] at hφ'; cases hφ'
  have hle := bleT hle
  rw [lenS_eq] at hle
  have hlen := hws.length
  have hCs : C.size = ws.length + rest.length := by rw [← Array.length_toList, hC, List.length_append]
  have hm : (if mx.isSome then b.2.2 else len) = b.2.2 := by
    cases hmx : mx.isSome with
    | true => rfl
    | false => exact (e3 hmx).symm
  rw [hm] at e1
  have hmul : b.2.2 * s ≤ len * s := Nat.mul_le_mul_right _ e2
  exact ⟨_, s, inf, e1, hinf, hsi, subSlice_ok h7 hφ (Nat.le_refl _) (fun _ => rfl) (Nat.le_trans (Nat.add_le_add_left hmul o) (by omega))⟩

theorem elemSz_ok {t el : TypeId} (h : elemSz P t = .ok el) : elemA P t = .ok el ∧ ∃ inf, P.info? el = some inf := by
  unfold elemSz at h
  obtain ⟨e, he, h2⟩ := R.bind_ok h
  obtain ⟨s, hs, h3⟩ := R.bind_ok h2
  cases h3
  obtain ⟨i, hi, _⟩ := sizeA_ok hs
  exact ⟨he, i, hi⟩

theorem boundsA_high {len cap : Nat} {lo hi mx : Option AV} {b : Nat × Nat × Nat} (h : boundsA len cap lo hi mx = .ok b) : b.2.1 = len ∨ b.2.1 ≤ b.2.2 := by
  unfold boundsA at h
  obtain ⟨m, hm, h4⟩ := R.bind_ok h
  obtain ⟨hh, hhh, h5⟩ := R.bind_ok h4
  obtain ⟨l, hl, h6⟩ := R.bind_ok h5
  cases h6
  unfold boundHigh at hhh
  split at hhh
  · unfold boundA at hhh
    obtain ⟨j, hj, h2⟩ := R.bind_ok hhh
    obtain ⟨hle, h3⟩ := cond_ok h2
    cases h3
    exact .inr (bleT hle)
  · cases hhh; exact .inl rfl
  · cases hhh

theorem run_slice_any (P : Program) (w : World) {t el : TypeId} {inf : TypeInfo} {a : Option Addr} {len cap : Nat} {lov hiv mxv : Option Value} {b : Nat × Nat × Nat} (hu : P.underlying t = some (.slice el)) (hi : P.info? el = some inf)
    (hb : (Instr.sliceBounds true len cap lov hiv mxv).run P w = .ok b w) :
    (Instr.sliceAt t (.slice a len cap) lov hiv mxv).run P w = .ok (.slice (if b.2.2 = b.1 then a else a.map (·.add (b.1 * inf.size))) (b.2.1 - b.1) (b.2.2 - b.1)) w := by
  unfold Instr.sliceAt
  simp only [Sem.run_bind, run_underlying hu, Result.andThen_ok]
  unfold Instr.slice
  simp only [Sem.run_bind, run_underlying hu, Result.andThen_ok, hb, run_sizeOf hi, Sem.run_pure]

theorem sliceA_ok (r : Rel φ H.get x w) {t : TypeId} {a : AV} {av : Value} {lo hi mx : Option AV} {lov hiv mxv : Option Value} (h : sliceA P H t a lo hi mx = .ok v) (ha : VR φ a av) (h1 : OV φ lo lov) (h2 : OV φ hi hiv) (h3 : OV φ mx mxv) :
    ∃ val, (Instr.sliceAt t av lov hiv mxv).run P w = .ok val w ∧ VR φ v val := by
  unfold sliceA at h
  split at h
  · rename_i n o
    cases ha with
    | ptr hφ =>
      rename_i B sz
      split at h
      · rename_i len el hu
        obtain ⟨b, s, inf, e1, hinf, hsi, e2⟩ := arrSliceA_ok (P := P) r h h1 h2 h3 hφ
        refine ⟨_, ?_, e2⟩
        unfold Instr.sliceAt
        simp only [Sem.run_bind, run_underlying hu, Result.andThen_ok, Instr.sureAddr, Sem.run_pure, e1, run_sizeOf hinf, hsi]
      · rename_i ar hu
        obtain ⟨q, hq, h4⟩ := R.bind_ok h
        have hu2 := arrOf_ok hq
        obtain ⟨b, s, inf, e1, hinf, hsi, e2⟩ := arrSliceA_ok (P := P) r h4 h1 h2 h3 hφ
        refine ⟨_, ?_, e2⟩
        unfold Instr.sliceAt
        simp only [Sem.run_bind, run_underlying hu, Result.andThen_ok]
        unfold Instr.slice
        simp only [Sem.run_bind, run_underlying hu, Result.andThen_ok, asAddr, Sem.run_pure, run_underlying hu2, e1, run_sizeOf hinf, hsi]
      · cases h
  · rename_i l
    obtain ⟨hst, h4⟩ := cond_ok h
    have hu := isStr_ok hst
    obtain ⟨s, rfl, rfl⟩ := str_of ha
    split at h4
    · obtain ⟨b, hb, h5⟩ := R.bind_ok h4
      cases h5
      cases h3
      have hlen : s.data.toList.length = s.size := by rw [Array.length_toList]; rfl
      rw [hlen] at hb
      obtain ⟨e1, e2, e3⟩ := boundsA_ok (P := P) (w := w) (isS := false) hb (Nat.le_refl _) h1 h2 (.none)
      refine ⟨.string (s.extract b.1 b.2.1), ?_, .strOf ?_⟩
      · unfold Instr.sliceAt
        simp only [Sem.run_bind, run_underlying hu, Result.andThen_ok]
        unfold Instr.slice
        simp only [Sem.run_bind, run_underlying hu, Result.andThen_ok, e1, Sem.run_pure, Option.isSome_none, Bool.false_eq_true, if_false]
      · rw [takeB_eq, dropB_eq, ByteArray.data_extract, Array.toList_extract, List.extract_eq_take_drop]
    · cases h4
  · obtain ⟨el, hel, h4⟩ := R.bind_ok h
    obtain ⟨b, hb, h5⟩ := R.bind_ok h4
    obtain ⟨hel, inf, hinf⟩ := elemSz_ok hel
    have hu := elemA_ok hel
    cases ha
    cases h5
    obtain ⟨e1, e2, e3⟩ := boundsA_ok (P := P) (w := w) (isS := true) hb (Nat.le_refl _) h1 h2 h3
    have e4 := boundsA_high hb
    have hm : (if mx.isSome then b.2.2 else 0) = 0 := by split <;> omega
    rw [hm] at e1
    refine ⟨.slice none 0 0, ?_, .nilSlice⟩
    rw [run_slice_any P w hu hinf e1]
    have : b.2.1 = 0 := by omega
    simp [this]
  · obtain ⟨el, hel, h4⟩ := R.bind_ok h
    obtain ⟨b, hb, h5⟩ := R.bind_ok h4
    obtain ⟨hel, inf, hinf⟩ := elemSz_ok hel
    have hu := elemA_ok hel
    cases ha with
    | emptySlice a0 cap =>
      cases h5
      obtain ⟨e1, e2, e3⟩ := boundsA_ok (P := P) (w := w) (isS := true) hb (Nat.zero_le cap) h1 h2 h3
      have e4 := boundsA_high hb
      have : b.2.1 = 0 := by omega
      refine ⟨_, run_slice_any P w hu hinf e1, ?_⟩
      generalize (if mx.isSome then b.2.2 else cap) = M
      simp only [this, Nat.zero_sub]
      split
      · exact .emptySlice _ _
      · exact .emptySlice _ _
  · rename_i n o len lb ex es
    obtain ⟨el, hel, h4⟩ := R.bind_ok h
    obtain ⟨s, hs, h5⟩ := R.bind_ok h4
    obtain ⟨hes, h6⟩ := cond_ok h5
    obtain ⟨b, hb, h7⟩ := R.bind_ok h6
    have hu := elemA_ok hel
    obtain ⟨inf, hinf, hsi⟩ := sizeA_ok hs
    have hes := beqT hes
    cases ha with
    | slice hφ g1 g2 g3 =>
      rename_i B sz cap
      obtain ⟨e1, e2, e3⟩ := boundsA_ok (P := P) (w := w) (isS := true) hb g1 h1 h2 h3
      refine ⟨_, run_slice_any P w hu hinf e1, ?_⟩
      rw [hsi]
      have hM : b.2.2 ≤ if mx.isSome then b.2.2 else cap := by split <;> omega
      have key := subSlice_ok (s := s) h7 hφ hM (fun e => by
        cases hmx : mx.isSome with
        | true => rfl
        | false =>
          rw [hmx, Bool.or_false] at e
          have := e3 hmx
          have := g2 e
          show cap = b.2.2
          omega) (by
        have : (if mx.isSome then b.2.2 else cap) * s ≤ cap * s := Nat.mul_le_mul_right _ (by split <;> omega)
        rw [hes] at g3
        omega)
      simpa [apply_ite] using key
  · cases h

end Go.Ce
