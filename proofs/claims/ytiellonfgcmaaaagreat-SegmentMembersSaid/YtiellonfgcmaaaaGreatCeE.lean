/- The abstract evaluator 'Ce': integers, strings, equality. -/
import Derived.Test.YtiellonfgcmaaaaGreatCeD
import Derived.Laws.Strings
set_option linter.unusedVariables false
set_option linter.unusedSimpArgs false
set_option linter.unusedSectionVars false
namespace Go.Ce
variable {P : Program} {φ : PM} {w : World}

/-! ### Integers -/

theorem wrapV_eq (k : IntKind) (n : Int) : wrapV k n = .int k (k.wrap n) := by
  cases n with
  | ofNat m =>
    show (Bool.casesOn (Nat.ble m (maxI k)) (AV.int k (k.wrap (.ofNat m))) (AV.int k (.ofNat m)) : AV) = _
    cases h : Nat.ble m (maxI k) with
    | false => rfl
    | true =>
      have h := Nat.le_of_ble_eq_true h
      show AV.int k (.ofNat m) = _
      congr 1
      show (m : Int) = k.wrap (m : Int)
      cases k <;> simp only [maxI] at h <;> simp only [IntKind.wrap, IntKind.bits, IntKind.signed] <;> simp <;> omega
  | negSucc m =>
    show (Bool.casesOn (Nat.ble (Nat.succ m) (minI k)) (AV.int k (k.wrap (.negSucc m))) (AV.int k (.negSucc m)) : AV) = _
    cases h : Nat.ble (Nat.succ m) (minI k) with
    | false => rfl
    | true =>
      have h := Nat.le_of_ble_eq_true h
      show AV.int k (.negSucc m) = _
      congr 1
      rw [Int.negSucc_eq]
      cases k <;> simp only [minI] at h <;> simp only [IntKind.wrap, IntKind.bits, IntKind.signed] <;> simp <;> omega

theorem eqI_eq (x y : Int) : eqI x y = (x == y) := by
  rw [Bool.eq_iff_iff]
  cases x <;> cases y <;> simp [eqI] <;> omega

theorem ltI_eq (x y : Int) : ltI x y = decide (x < y) := by
  rw [Bool.eq_iff_iff]
  cases x <;> cases y <;> simp [ltI, Nat.blt_eq, Int.negSucc_eq] <;> omega

theorem beqK_ok {a b : IntKind} (h : beqK a b = true) : a = b := by
  cases a <;> cases b <;> first | rfl | cases h

theorem beqK_no {a b : IntKind} (h : beqK a b = false) : a ≠ b := by
  intro e; subst e; cases a <;> cases h

theorem intB_ok {op : BinOp} {t : TypeId} {k k' : IntKind} {a b : Int} {v : AV} (h : intB op k a k' b = .ok v) : ∃ val, (binOp op t (.int k a) (.int k' b)).run P w = .ok val w ∧ VR φ v val := by
  unfold intB at h
  cases hsh : isShift op with
  | true =>
    rw [hsh, cond_true] at h
    cases op <;> first | (cases hsh; done) | skip
    all_goals (
      cases b with
      | negSucc m => cases h
      | ofNat m =>
        have hy : ¬ (Int.ofNat m < 0) := by simp
        cases h
        refine ⟨_, ?_, by first | (rw [wrapV_eq]; exact .int ..) | exact .int ..⟩
        simp only [binOp, Op.shift, if_neg hy]
        rw [show ((Int.ofNat m).toNat) = m from rfl]
        simp [Sem.run_pure, Int.natCast_pow])
  | false =>
    rw [hsh, cond_false] at h
    obtain ⟨hk, h2⟩ := cond_ok h
    clear h
    obtain rfl := beqK_ok hk
    clear hk
    cases op <;> first | (cases hsh; done) | skip
    case add => cases h2; rw [wrapV_eq]; exact ⟨.int k (k.wrap (a + b)), by simp [binOp, Op.intArith], .int ..⟩
    case sub => cases h2; rw [wrapV_eq]; exact ⟨.int k (k.wrap (a - b)), by simp [binOp, Op.intArith], .int ..⟩
    case mul => cases h2; rw [wrapV_eq]; exact ⟨.int k (k.wrap (a * b)), by simp [binOp, Op.intArith], .int ..⟩
    case quo =>
      obtain ⟨h0, h3⟩ := cond_ok' (show (bif eqI b 0 then .no 13 else .ok (wrapV k (Int.tdiv a b)) : R AV) = .ok v from h2)
      cases h3
      rw [eqI_eq] at h0
      have h0 : ¬ b = 0 := by simpa using h0
      rw [wrapV_eq]; exact ⟨.int k (k.wrap (a.tdiv b)), by simp [binOp, Op.intDiv, h0], .int ..⟩
    case rem =>
      obtain ⟨h0, h3⟩ := cond_ok' (show (bif eqI b 0 then .no 14 else .ok (.int k (Int.tmod a b)) : R AV) = .ok v from h2)
      cases h3
      rw [eqI_eq] at h0
      have h0 : ¬ b = 0 := by simpa using h0
      exact ⟨.int k (a.tmod b), by simp [binOp, Op.intDiv, h0], .int ..⟩
    case and => cases h2; rw [wrapV_eq]; exact ⟨.int k (k.wrap (BitVec.ofInt k.bits a &&& BitVec.ofInt k.bits b).toNat), by simp [binOp, Op.intBits], .int ..⟩
    case or => cases h2; rw [wrapV_eq]; exact ⟨.int k (k.wrap (BitVec.ofInt k.bits a ||| BitVec.ofInt k.bits b).toNat), by simp [binOp, Op.intBits], .int ..⟩
    case xor => cases h2; rw [wrapV_eq]; exact ⟨.int k (k.wrap (BitVec.ofInt k.bits a ^^^ BitVec.ofInt k.bits b).toNat), by simp [binOp, Op.intBits], .int ..⟩
    case andNot => cases h2; rw [wrapV_eq]; exact ⟨.int k (k.wrap (BitVec.ofInt k.bits a &&& ~~~BitVec.ofInt k.bits b).toNat), by simp [binOp, Op.intBits], .int ..⟩
    case eql => cases h2; exact ⟨.bool (a == b), by simp [binOp, Op.intCmp], by rw [eqI_eq]; exact .bool _⟩
    case neq => cases h2; exact ⟨.bool (a != b), by simp [binOp, Op.intCmp], by rw [eqI_eq]; exact .bool _⟩
    case lss => cases h2; exact ⟨.bool (decide (a < b)), by simp [binOp, Op.intCmp], by rw [ltI_eq]; exact .bool _⟩
    case leq =>
      cases h2
      have e : (!(ltI b a)) = decide (a ≤ b) := by rw [ltI_eq, Bool.eq_iff_iff]; simp
      exact ⟨.bool (decide (a ≤ b)), by simp [binOp, Op.intCmp], by show VR φ (.bool (!(ltI b a))) _; rw [e]; exact .bool _⟩
    case gtr => cases h2; exact ⟨.bool (decide (a > b)), by simp [binOp, Op.intCmp], by rw [ltI_eq]; exact .bool _⟩
    case geq =>
      cases h2
      have e : (!(ltI a b)) = decide (a ≥ b) := by rw [ltI_eq, Bool.eq_iff_iff]; simp
      exact ⟨.bool (decide (a ≥ b)), by simp [binOp, Op.intCmp], by show VR φ (.bool (!(ltI a b))) _; rw [e]; exact .bool _⟩

theorem unA_ok {op : UnOp} {a : AV} {av : Value} {v : AV} (h : unA op a = .ok v) (ha : VR φ a av) : ∃ val, (Op.unary op av).run P w = .ok val w ∧ VR φ v val := by
  unfold unA at h
  split at h
  · rename_i k n
    cases ha; cases h; rw [wrapV_eq]; exact ⟨.int k (k.wrap (0 - n)), by simp [Op.unary, Op.intArith], .int ..⟩
  · rename_i k n
    cases ha; cases h; rw [wrapV_eq]; exact ⟨.int k (k.wrap (BitVec.ofInt k.bits (if k.signed then -1 else k.max) ^^^ BitVec.ofInt k.bits n).toNat), by simp [Op.unary, Op.intBits], .int ..⟩
  · rename_i b
    cases ha; cases h; exact ⟨.bool (!b), by simp [Op.unary], .bool _⟩
  · cases h

/-! ### Strings -/

theorem str_of {l : List UInt8} {v : Value} (h : VR φ (.str l) v) : ∃ s, v = .string s ∧ s.data.toList = l := by
  cases h with
  | str s => exact ⟨s, rfl, rfl⟩

theorem VR.strOf {l : List UInt8} {s : ByteArray} (h : s.data.toList = l) : VR φ (.str l) (.string s) := h ▸ .str s

theorem strA_ok {op : BinOp} {t : TypeId} {l m : List UInt8} {a b : Value} {v : AV} (h : strA op l m = .ok v) (ha : VR φ (.str l) a) (hb : VR φ (.str m) b) :
    ∃ val, (binOp op t a b).run P w = .ok val w ∧ VR φ v val := by
  obtain ⟨s, rfl, rfl⟩ := str_of ha
  obtain ⟨u, rfl, rfl⟩ := str_of hb
  have e1 : (s.toList == u.toList) = bytesEq s.data.toList u.data.toList := by rw [bytesEq_eq, ByteArray.toList_eq, ByteArray.toList_eq]
  have e2 : Op.bytesLess s.toList u.toList = bytesLt s.data.toList u.data.toList := by rw [bytesLt_eq, ByteArray.toList_eq, ByteArray.toList_eq]
  cases op <;> first | (cases h; done) | skip
  case add =>
    obtain ⟨hle, h2⟩ := cond_ok h
    cases h2
    have hle := Nat.le_of_ble_eq_true hle
    have hs : s.size = s.data.toList.length := by rw [Array.length_toList]; rfl
    have hu : u.size = u.data.toList.length := by rw [Array.length_toList]; rfl
    have hn : ¬ (((s.size + u.size : Nat) : Int) > IntKind.i64.max) := by rw [hs, hu]; simp only [IntKind.max, IntKind.signed, IntKind.bits]; simp; omega
    exact ⟨.string (s ++ u), by simp only [binOp, Op.stringOp, if_neg hn]; rfl, .strOf (by simp [ByteArray.data_append])⟩
  all_goals (cases h; refine ⟨_, ?_, .bool _⟩; simp only [binOp, Op.stringOp, e1, e2]; rfl)

end Go.Ce
