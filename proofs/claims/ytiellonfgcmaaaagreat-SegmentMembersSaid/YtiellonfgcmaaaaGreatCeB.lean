/- The abstract evaluator 'Ce': how abstract values and heaps stand to the model's. -/
import Derived.Test.YtiellonfgcmaaaaGreatCeA
set_option linter.unusedVariables false
set_option linter.unusedSimpArgs false
set_option linter.unusedSectionVars false
namespace Go.Ce

/-! ### Maps -/

theorem beqF {a b : Nat} (h : a ≠ b) : Nat.beq a b = false := by
  rw [← Bool.not_eq_true]; intro e; exact h (Nat.eq_of_beq_eq_true e)
theorem beqT {a b : Nat} (h : Nat.beq a b = true) : a = b := Nat.eq_of_beq_eq_true h
theorem beqN {a b : Nat} (h : Nat.beq a b = false) : a ≠ b := fun e => by subst e; simp at h

namespace Tr
variable {α : Type}

theorem find_e (p k : Nat) : (Tr.e : Tr α).find p k = none := rfl
theorem find_l (k' : Nat) (v : α) (p k : Nat) : (Tr.l k' v).find p k = if k' = k then some v else none := by
  show (Bool.rec none (some v) (Nat.beq k' k) : Option α) = _
  by_cases h : k' = k
  · subst h; simp
  · rw [beqF h, if_neg h]
theorem find_n (a b : Tr α) (p k : Nat) : (Tr.n a b).find p k = if p % 2 = 0 then a.find (p / 2) k else b.find (p / 2) k := by
  show (Bool.rec (b.find (p / 2) k) (a.find (p / 2) k) (Nat.beq (p % 2) 0) : Option α) = _
  by_cases h : p % 2 = 0
  · rw [h]; rfl
  · rw [beqF h, if_neg h]

theorem put_zero (lf t : Tr α) (p : Nat) : put lf 0 t p = lf := rfl

theorem re_eta (f : Tr α → Tr α) (t : Tr α) : (Tr.rec (motive := fun _ => Tr α) (f .e) (fun k v => f (.l k v)) (fun x y _ _ => f (.n x y)) t : Tr α) = f t := by cases t <;> rfl

theorem put_n (lf a b : Tr α) (d p : Nat) : put lf (d + 1) (.n a b) p = if p % 2 = 0 then .n (put lf d a (p / 2)) b else .n a (put lf d b (p / 2)) := by
  show (Bool.rec (motive := fun _ => Tr α) (Tr.rec (motive := fun _ => Tr α) (.n a .e) (fun k v => .n a (.l k v)) (fun x y _ _ => .n a (.n x y)) (put lf d b (p / 2)))
        (Tr.rec (motive := fun _ => Tr α) (.n .e b) (fun k v => .n (.l k v) b) (fun x y _ _ => .n (.n x y) b) (put lf d a (p / 2))) (Nat.beq (p % 2) 0) : Tr α) = _
  rw [re_eta (fun t => .n a t), re_eta (fun t => .n t b)]
  by_cases h : p % 2 = 0
  · rw [h]; rfl
  · rw [beqF h, if_neg h]

theorem put_o (lf t : Tr α) (d p : Nat) (ht : ∀ a b, t ≠ .n a b) : put lf (d + 1) t p = if p % 2 = 0 then .n (put lf d .e (p / 2)) .e else .n .e (put lf d .e (p / 2)) := by
  have key : ∀ t : Tr α, (∀ a b, t ≠ .n a b) → put lf (d + 1) t p = (Bool.rec (.n .e (put lf d .e (p / 2))) (.n (put lf d .e (p / 2)) .e) (Nat.beq (p % 2) 0) : Tr α) := by
    intro t ht
    cases t with
    | e => rfl
    | l k v => rfl
    | n a b => exact absurd rfl (ht a b)
  rw [key t ht]
  by_cases h : p % 2 = 0
  · rw [h]; rfl
  · rw [beqF h, if_neg h]

theorem mod_split (p q d : Nat) : p % 2 ^ (d + 1) = q % 2 ^ (d + 1) ↔ p % 2 = q % 2 ∧ (p / 2) % 2 ^ d = (q / 2) % 2 ^ d := by
  rw [Nat.pow_succ, Nat.mul_comm, Nat.mod_mul, Nat.mod_mul]
  have := Nat.mod_lt p (y := 2) (by omega)
  have := Nat.mod_lt q (y := 2) (by omega)
  omega

theorem find_put (lf : Tr α) : ∀ (d : Nat) (t : Tr α) (p q k : Nat) (x : α), (put lf d t p).find q k = some x →
    (∃ q', lf.find q' k = some x ∧ p % 2 ^ d = q % 2 ^ d) ∨ (t.find q k = some x ∧ p % 2 ^ d ≠ q % 2 ^ d) := by
  intro d
  induction d with
  | zero =>
    intro t p q k x h
    rw [put_zero] at h
    exact .inl ⟨q, h, by simp [Nat.mod_one]⟩
  | succ d ih =>
    intro t p q k x h
    by_cases ht : ∃ a b, t = .n a b
    · obtain ⟨a, b, rfl⟩ := ht
      rw [put_n] at h
      by_cases hp : p % 2 = 0
      · rw [if_pos hp, find_n] at h
        by_cases hq : q % 2 = 0
        · rw [if_pos hq] at h
          rcases ih a (p / 2) (q / 2) k x h with ⟨q', h1, h2⟩ | ⟨h1, h2⟩
          · exact .inl ⟨q', h1, (mod_split p q d).2 ⟨by omega, h2⟩⟩
          · exact .inr ⟨by rw [find_n, if_pos hq]; exact h1, fun e => h2 ((mod_split p q d).1 e).2⟩
        · rw [if_neg hq] at h
          exact .inr ⟨by rw [find_n, if_neg hq]; exact h, fun e => hq (((mod_split p q d).1 e).1 ▸ hp)⟩
      · rw [if_neg hp, find_n] at h
        by_cases hq : q % 2 = 0
        · rw [if_pos hq] at h
          exact .inr ⟨by rw [find_n, if_pos hq]; exact h, fun e => hp (((mod_split p q d).1 e).1.trans hq)⟩
        · rw [if_neg hq] at h
          rcases ih b (p / 2) (q / 2) k x h with ⟨q', h1, h2⟩ | ⟨h1, h2⟩
          · exact .inl ⟨q', h1, (mod_split p q d).2 ⟨by omega, h2⟩⟩
          · exact .inr ⟨by rw [find_n, if_neg hq]; exact h1, fun e => h2 ((mod_split p q d).1 e).2⟩
    · rw [put_o lf t d p (fun a b e => ht ⟨a, b, e⟩)] at h
      by_cases hp : p % 2 = 0
      · rw [if_pos hp, find_n] at h
        by_cases hq : q % 2 = 0
        · rw [if_pos hq] at h
          rcases ih .e (p / 2) (q / 2) k x h with ⟨q', h1, h2⟩ | ⟨h1, h2⟩
          · exact .inl ⟨q', h1, (mod_split p q d).2 ⟨by omega, h2⟩⟩
          · simp [find_e] at h1
        · rw [if_neg hq, find_e] at h; cases h
      · rw [if_neg hp, find_n] at h
        by_cases hq : q % 2 = 0
        · rw [if_pos hq, find_e] at h; cases h
        · rw [if_neg hq] at h
          rcases ih .e (p / 2) (q / 2) k x h with ⟨q', h1, h2⟩ | ⟨h1, h2⟩
          · exact .inl ⟨q', h1, (mod_split p q d).2 ⟨by omega, h2⟩⟩
          · simp [find_e] at h1

theorem get_ins {d : Nat} {t : Tr α} {k j : Nat} {v x : α} (h : (t.ins d k v).get j = some x) : (j = k ∧ x = v) ∨ (j ≠ k ∧ t.get j = some x) := by
  rcases find_put (.l k v) d t k j j x h with ⟨q', h1, h2⟩ | ⟨h1, h2⟩
  · rw [find_l] at h1
    split at h1
    · rename_i e; exact .inl ⟨e.symm, by simpa using h1.symm⟩
    · cases h1
  · exact .inr ⟨fun e => h2 (by rw [e]), h1⟩

theorem get_del {d : Nat} {t : Tr α} {k j : Nat} {x : α} (h : (t.del d k).get j = some x) : j ≠ k ∧ t.get j = some x := by
  rcases find_put .e d t k j j x h with ⟨q', h1, h2⟩ | ⟨h1, h2⟩
  · simp [find_e] at h1
  · exact ⟨fun e => h2 (by rw [e]), h1⟩

theorem keys_n (a b : Tr α) (acc : List Nat) : (Tr.n a b).keys acc = a.keys (b.keys acc) := rfl

theorem mem_keys_acc (t : Tr α) : ∀ (acc : List Nat) (k : Nat), k ∈ acc → k ∈ t.keys acc := by
  induction t with
  | e => exact fun _ _ h => h
  | l k' v => exact fun _ _ h => List.mem_cons_of_mem _ h
  | n a b iha ihb => exact fun acc k h => iha _ _ (ihb _ _ h)

theorem find_keys (t : Tr α) : ∀ (p k : Nat) (x : α) (acc : List Nat), t.find p k = some x → k ∈ t.keys acc := by
  induction t with
  | e => intro p k x acc h; simp [find_e] at h
  | l k' v =>
    intro p k x acc h
    rw [find_l] at h
    split at h
    · rename_i e; subst e; exact List.mem_cons_self ..
    · cases h
  | n a b iha ihb =>
    intro p k x acc h
    rw [find_n] at h
    split at h
    · exact iha _ _ _ _ h
    · exact mem_keys_acc a _ _ (ihb _ _ _ _ h)

theorem get_keys {t : Tr α} {k : Nat} {x : α} (h : t.get k = some x) : k ∈ t.keys [] := find_keys t _ _ _ _ h

theorem force_eq {β : Type} (t : Tr α) (f : Tr α → β) : t.force f = f t := by cases t <;> rfl

end Tr

/-! ### Results -/

theorem R.bind_ok {α β : Type} {r : R α} {f : α → R β} {b : β} (h : r.bind f = .ok b) : ∃ a, r = .ok a ∧ f a = .ok b := by
  cases r with
  | ok a => exact ⟨a, rfl, h⟩
  | no c => cases h

theorem toO_ok {H H' : Hp} {x x' : Nat} {r : R AV} {v : AV} (h : toO H x r = .ok v H' x') : r = .ok v ∧ H' = H ∧ x' = x := by
  cases r with
  | ok a => cases h; exact ⟨rfl, rfl, rfl⟩
  | no c => cases h

theorem toU_ok {H' : Hp} {x x' : Nat} {r : R Hp} {v : AV} (h : toU x r = .ok v H' x') : r = .ok H' ∧ v = .junk ∧ x' = x := by
  cases r with
  | ok a => cases h; exact ⟨rfl, rfl, rfl⟩
  | no c => cases h

theorem toN_ok {H H' : Hp} {x x' : Nat} {el : TypeId} {u v : AV} {r : R (List AV)} (h : toN H x el u r = .ok v H' x') : ∃ l, r = .ok l ∧ v = u ∧ H' = newB H x (.cells el l) ∧ x' = x + 1 := by
  cases r with
  | ok a => cases h; exact ⟨a, rfl, rfl, rfl, rfl⟩
  | no c => cases h

theorem cond_ok {α : Type} {c : Bool} {a : R α} {n : Nat} {b : α} (h : (bif c then a else .no n) = .ok b) : c = true ∧ a = .ok b := by
  cases c with
  | true => exact ⟨rfl, h⟩
  | false => cases h

theorem cond_ok' {α : Type} {c : Bool} {a : R α} {n : Nat} {b : α} (h : (bif c then .no n else a) = .ok b) : c = false ∧ a = .ok b := by
  cases c with
  | false => exact ⟨rfl, h⟩
  | true => cases h

theorem condO_ok {c : Bool} {a : O3} {n : Nat} {v : AV} {H : Hp} {x : Nat} (h : (bif c then a else .no n) = .ok v H x) : c = true ∧ a = .ok v H x := by
  cases c with
  | true => exact ⟨rfl, h⟩
  | false => cases h

theorem casesO_ok {α : Type} {r : R α} {f : α → O3} {v : AV} {H : Hp} {x : Nat} (h : (R.casesOn r f O3.no : O3) = .ok v H x) : ∃ a, r = .ok a ∧ f a = .ok v H x := by
  cases r with
  | ok a => exact ⟨a, rfl, h⟩
  | no c => cases h

/-! ### Lists -/

theorem takeS_ok : ∀ (n : Nat) (l r : List AV), takeS n l = .ok r → r = l.take n ∧ r.length = n := by
  intro n
  induction n with
  | zero => intro l r h; cases h; simp
  | succ n ih =>
    intro l r h
    cases l with
    | nil => cases h
    | cons a t =>
      have h' : (R.casesOn (takeS n t) (fun r => .ok (a :: r)) .no : R (List AV)) = .ok r := h
      cases ht : takeS n t with
      | ok r' => rw [ht] at h'; cases h'; obtain ⟨h1, h2⟩ := ih t r' ht; exact ⟨by rw [h1]; rfl, by rw [List.length_cons, h2]⟩
      | no c => rw [ht] at h'; cases h'

theorem dropS_eq : ∀ (n : Nat) (l : List AV), dropS n l = l.drop n := by
  intro n
  induction n with
  | zero => intro l; rfl
  | succ n ih =>
    intro l
    cases l with
    | nil => rfl
    | cons a t => exact ih t

theorem subS_ok {o n : Nat} {l r : List AV} (h : subS o n l = .ok r) : r = (l.drop o).take n ∧ r.length = n := by
  have := takeS_ok n _ r h
  rwa [dropS_eq] at this

theorem set0_ok : ∀ (vs l r : List AV), set0 vs l = .ok r → r = vs ++ l.drop vs.length ∧ vs.length ≤ l.length := by
  intro vs
  induction vs with
  | nil => intro l r h; cases h; simp
  | cons v vs ih =>
    intro l r h
    cases l with
    | nil => cases h
    | cons a t =>
      have h' : (R.casesOn (set0 vs t) (fun r => .ok (v :: r)) .no : R (List AV)) = .ok r := h
      cases ht : set0 vs t with
      | ok r' => rw [ht] at h'; cases h'; have := ih t r' ht; simp [this.1]; omega
      | no c => rw [ht] at h'; cases h'

theorem setS_ok : ∀ (o : Nat) (vs l r : List AV), setS o vs l = .ok r → r = l.take o ++ vs ++ l.drop (o + vs.length) ∧ o + vs.length ≤ l.length := by
  intro o
  induction o with
  | zero => intro vs l r h; have := set0_ok vs l r h; simp [this.1, this.2]
  | succ o ih =>
    intro vs l r h
    cases l with
    | nil => cases h
    | cons a t =>
      have h' : (R.casesOn (setS o vs t) (fun r => .ok (a :: r)) .no : R (List AV)) = .ok r := h
      cases ht : setS o vs t with
      | ok r' =>
        rw [ht] at h'; cases h'
        have := ih vs t r' ht
        rw [show o + 1 + vs.length = (o + vs.length) + 1 from by omega]
        simp [this.1, this.2]
      | no c => rw [ht] at h'; cases h'

theorem appS_eq (l m : List AV) : appS l m = l ++ m := by
  induction l with
  | nil => rfl
  | cons a t ih => show a :: appS t m = _; rw [ih]; rfl

theorem repS_eq (z : List AV) : ∀ (n : Nat) (acc : List AV), repS n z acc = (List.replicate n z).flatten ++ acc := by
  intro n
  induction n with
  | zero => intro acc; rfl
  | succ n ih =>
    intro acc
    show repS n z (appS z acc) = _
    rw [ih, appS_eq, List.replicate_succ', List.flatten_append]
    simp

theorem lenS_eq (l : List AV) : ∀ n, lenS l n = l.length + n := by
  induction l with
  | nil => intro n; simp; rfl
  | cons a t ih => intro n; show lenS t (n + 1) = _; rw [ih, List.length_cons]; omega

theorem bytesEq_eq : ∀ (l m : List UInt8), bytesEq l m = (l == m) := by
  intro l
  induction l with
  | nil => intro m; cases m <;> rfl
  | cons a l ih =>
    intro m
    cases m with
    | nil => rfl
    | cons b m =>
      show (Bool.rec false (bytesEq l m) (Nat.beq a.toNat b.toNat) : Bool) = _
      rw [ih]
      by_cases h : a = b
      · subst h; simp
      · have : Nat.beq a.toNat b.toNat = false := by
          rw [← Bool.not_eq_true]; intro e
          exact h (UInt8.toNat_inj.1 (Nat.eq_of_beq_eq_true e))
        rw [this]; simp [h]

theorem bytesLt_eq : ∀ (l m : List UInt8), bytesLt l m = Op.bytesLess l m := by
  intro l
  induction l with
  | nil => intro m; cases m <;> rfl
  | cons a l ih =>
    intro m
    cases m with
    | nil => rfl
    | cons b m =>
      show (Bool.rec (Bool.rec false (bytesLt l m) (Nat.beq a.toNat b.toNat)) true (Nat.blt a.toNat b.toNat) : Bool) = _
      rw [ih]
      have e1 : Nat.blt a.toNat b.toNat = decide (a < b) := by
        rw [Bool.eq_iff_iff]; simp [UInt8.lt_iff_toNat_lt, Nat.blt_eq]
      have e2 : Nat.beq a.toNat b.toNat = (a == b) := by
        rw [Bool.eq_iff_iff]; simp [UInt8.toNat_inj]
      rw [e1, e2]
      simp only [Op.bytesLess]
      cases decide (a < b) <;> cases (a == b) <;> simp

theorem intsOf_eq (l : List UInt8) : intsOf l = l.map fun b => AV.int .u8 (Int.ofNat b.toNat) := by
  induction l with
  | nil => rfl
  | cons b t ih => show _ :: intsOf t = _; rw [ih]; rfl

theorem dropB_eq : ∀ (n : Nat) (l : List UInt8), dropB n l = l.drop n := by
  intro n
  induction n with
  | zero => intro l; rfl
  | succ n ih =>
    intro l
    cases l with
    | nil => rfl
    | cons a t => exact ih t

theorem takeB_eq : ∀ (n : Nat) (l : List UInt8), takeB n l = l.take n := by
  intro n
  induction n with
  | zero => intro l; rfl
  | succ n ih =>
    intro l
    cases l with
    | nil => rfl
    | cons a t => show a :: takeB n t = _; rw [ih]; rfl

theorem nthB_eq : ∀ (l : List UInt8) (n : Nat), nthB l n = l[n]? := by
  intro l
  induction l with
  | nil => intro n; rfl
  | cons b t ih =>
    intro n
    cases n with
    | zero => rfl
    | succ n => exact ih n

theorem allPlain_mem : ∀ (l : List AV), allPlain l = true → ∀ v ∈ l, v.plain = true := by
  intro l
  induction l with
  | nil => intro _ v hv; cases hv
  | cons a t ih =>
    intro h v hv
    have h' : (Bool.rec false (allPlain t) a.plain : Bool) = true := h
    cases ha : a.plain with
    | false => rw [ha] at h'; cases h'
    | true =>
      rw [ha] at h'
      cases hv with
      | head => exact ha
      | tail _ hm => exact ih h' v hm

/-! ### Values -/

/-- Where the blocks of the names lie, and how many cells they have. -/
abbrev PM := Nat → Option (Nat × Nat)

mutual
inductive VR (φ : PM) : AV → Value → Prop
  | junk (v : Value) : VR φ .junk v
  | bool (b : Bool) : VR φ (.bool b) (.bool b)
  | int (k : IntKind) (n : Int) : VR φ (.int k n) (.int k n)
  | str (s : ByteArray) : VR φ (.str s.data.toList) (.string s)
  | ptr {n o b sz : Nat} (h : φ n = some (b, sz)) : VR φ (.ptr n o) (.pointer (some ⟨b, o, none⟩))
  | nilPtr : VR φ .nilPtr (.pointer none)
  | slice {n o len lb : Nat} {ex : Bool} {es b sz cap : Nat} (h : φ n = some (b, sz)) (h1 : lb ≤ cap) (h2 : ex = true → cap = lb) (h3 : o + cap * es ≤ sz) :
      VR φ (.slice n o len lb ex es) (.slice (some ⟨b, o, none⟩) len cap)
  | nilSlice : VR φ .nilSlice (.slice none 0 0)
  | emptySlice (a : Addr) (cap : Nat) : VR φ .emptySlice (.slice (some a) 0 cap)
  | map {n b sz : Nat} (h : φ n = some (b, sz)) : VR φ (.map n) (.map (some b))
  | nilMap : VR φ .nilMap (.map none)
  | func {fn : Fn} {f c : List AV} {vf vc : List Value} (hf : VRs φ f vf) (hc : VRs φ c vc) : VR φ (.func fn f c) (.func fn vf.toArray vc.toArray)
  | yield {n b sz : Nat} (h : φ n = some (b, sz)) : VR φ (.yield n) (.func (.yield b) #[] #[])
  | nilFunc : VR φ .nilFunc .nilFunc
  | iface (t : TypeId) {a : AV} {v : Value} (h : VR φ a v) : VR φ (.iface t a) (.iface t v)
  | nilIface : VR φ .nilIface .nilIface
  | agg {l : List AV} {vs : List Value} (h : VRs φ l vs) : VR φ (.agg l) (.agg vs.toArray)
  | tup {l : List AV} {vs : List Value} (h : VRs φ l vs) : VR φ (.tup l) (.tuple vs.toArray)
inductive VRs (φ : PM) : List AV → List Value → Prop
  | nil : VRs φ [] []
  | cons {a : AV} {v : Value} {l : List AV} {vs : List Value} (h : VR φ a v) (t : VRs φ l vs) : VRs φ (a :: l) (v :: vs)
 end

/-- φ' knows all that φ knows. -/
def Ext (φ φ' : PM) : Prop := ∀ n y, φ n = some y → φ' n = some y

theorem Ext.refl (φ : PM) : Ext φ φ := fun _ _ h => h
theorem Ext.trans {a b c : PM} (h : Ext a b) (k : Ext b c) : Ext a c := fun n y e => k n y (h n y e)

mutual
theorem VR.mono {φ φ' : PM} (e : Ext φ φ') : ∀ {a : AV} {v : Value}, VR φ a v → VR φ' a v
  | _, _, .junk v => .junk v
  | _, _, .bool b => .bool b
  | _, _, .int k n => .int k n
  | _, _, .str s => .str s
  | _, _, .ptr h => .ptr (e _ _ h)
  | _, _, .nilPtr => .nilPtr
  | _, _, .slice h h1 h2 h3 => .slice (e _ _ h) h1 h2 h3
  | _, _, .nilSlice => .nilSlice
  | _, _, .emptySlice a c => .emptySlice a c
  | _, _, .map h => .map (e _ _ h)
  | _, _, .nilMap => .nilMap
  | _, _, .func hf hc => .func (VRs.mono e hf) (VRs.mono e hc)
  | _, _, .yield h => .yield (e _ _ h)
  | _, _, .nilFunc => .nilFunc
  | _, _, .iface t h => .iface t (VR.mono e h)
  | _, _, .nilIface => .nilIface
  | _, _, .agg h => .agg (VRs.mono e h)
  | _, _, .tup h => .tup (VRs.mono e h)
theorem VRs.mono {φ φ' : PM} (e : Ext φ φ') : ∀ {l : List AV} {vs : List Value}, VRs φ l vs → VRs φ' l vs
  | _, _, .nil => .nil
  | _, _, .cons h t => .cons (VR.mono e h) (VRs.mono e t)
 end

namespace VRs
variable {φ : PM}

theorem length {l : List AV} {vs : List Value} (h : VRs φ l vs) : vs.length = l.length := by
  induction l generalizing vs with
  | nil => cases h; rfl
  | cons a t ih => cases h with | cons h t => simp [ih t]

theorem append {l m : List AV} {vs ws : List Value} (h : VRs φ l vs) (k : VRs φ m ws) : VRs φ (l ++ m) (vs ++ ws) := by
  induction l generalizing vs with
  | nil => cases h; exact k
  | cons a t ih => cases h with | cons h t => exact .cons h (ih t)

theorem take {l : List AV} {vs : List Value} (h : VRs φ l vs) (n : Nat) : VRs φ (l.take n) (vs.take n) := by
  induction l generalizing vs n with
  | nil => cases h; simp; exact .nil
  | cons a t ih =>
    cases h with
    | cons h t =>
      cases n with
      | zero => exact .nil
      | succ n => exact .cons h (ih t n)

theorem drop {l : List AV} {vs : List Value} (h : VRs φ l vs) (n : Nat) : VRs φ (l.drop n) (vs.drop n) := by
  induction l generalizing vs n with
  | nil => cases h; simp; exact .nil
  | cons a t ih =>
    cases h with
    | cons h t =>
      cases n with
      | zero => exact .cons h t
      | succ n => exact ih t n

theorem get {l : List AV} {vs : List Value} (h : VRs φ l vs) {i : Nat} {a : AV} (ha : l[i]? = some a) : ∃ v, vs[i]? = some v ∧ VR φ a v := by
  induction l generalizing vs i with
  | nil => simp at ha
  | cons b t ih =>
    cases h with
    | cons h t =>
      cases i with
      | zero => simp at ha; subst ha; exact ⟨_, rfl, h⟩
      | succ i => exact ih t ha

theorem replicate {z : List AV} {vs : List Value} (h : VRs φ z vs) (n : Nat) : VRs φ (List.replicate n z).flatten (List.replicate n vs).flatten := by
  induction n with
  | zero => exact .nil
  | succ n ih => rw [List.replicate_succ, List.replicate_succ]; exact h.append ih

theorem ints (l : List UInt8) : VRs φ (l.map fun b => AV.int .u8 (Int.ofNat b.toNat)) (l.map fun b => Value.int .u8 b.toNat) := by
  induction l with
  | nil => exact .nil
  | cons b t ih => exact .cons (.int ..) ih

end VRs

theorem VR.cells {φ : PM} {a : AV} {v : Value} (h : VR φ a v) (hj : a.isJunk = false) : VRs φ a.cells v.cells.toList := by
  cases h with
  | junk v => cases hj
  | agg h => simpa [AV.cells, Value.cells] using h
  | bool b => exact .cons (.bool b) .nil
  | int k n => exact .cons (.int k n) .nil
  | str s => exact .cons (.str s) .nil
  | ptr h => exact .cons (.ptr h) .nil
  | nilPtr => exact .cons .nilPtr .nil
  | slice h h1 h2 h3 => exact .cons (.slice h h1 h2 h3) .nil
  | nilSlice => exact .cons .nilSlice .nil
  | emptySlice a c => exact .cons (.emptySlice a c) .nil
  | map h => exact .cons (.map h) .nil
  | nilMap => exact .cons .nilMap .nil
  | func hf hc => exact .cons (.func hf hc) .nil
  | yield h => exact .cons (.yield h) .nil
  | nilFunc => exact .cons .nilFunc .nil
  | iface t h => exact .cons (.iface t h) .nil
  | nilIface => exact .cons .nilIface .nil
  | tup h => exact .cons (.tup h) .nil

theorem VR.ofVal0 (φ : PM) (v : Value) : VR φ (ofVal0 v) v := by
  unfold Ce.ofVal0
  split <;> first | exact .junk _ | exact .bool _ | exact .int _ _ | exact .str _ | exact .nilPtr | exact .nilSlice | exact .nilMap | exact .nilFunc | exact .nilIface

theorem VRs.ofVal0 (φ : PM) (l : List Value) : VRs φ (l.map Ce.ofVal0) l := by
  induction l with
  | nil => exact .nil
  | cons v t ih => exact .cons (VR.ofVal0 φ v) ih

theorem VR.ofVal (φ : PM) (v : Value) : VR φ (ofVal v) v := by
  unfold Ce.ofVal
  split
  · exact .agg (VRs.ofVal0 φ _)
  · exact .tup (VRs.ofVal0 φ _)
  · exact VR.ofVal0 φ _

/-- What a plain abstract value stands for may lie in a cell. -/
theorem VR.oneCell {φ : PM} {a : AV} {v : Value} (h : VR φ a v) (hp : a.plain = true) : v.oneCell' = true := by
  cases h <;> first | rfl | cases hp

/-! ### Blocks -/

inductive ERs (φ : PM) : List (AV × AV × Nat) → List MapEntry → Prop
  | nil : ERs φ [] []
  | cons {k v : AV} {e : MapEntry} {l : List (AV × AV × Nat)} {es : List MapEntry} (hk : VR φ k e.key) (hv : VR φ v e.val) (t : ERs φ l es) : ERs φ ((k, v, e.born) :: l) (e :: es)

theorem ERs.mono {φ φ' : PM} (e : Ext φ φ') {l : List (AV × AV × Nat)} {es : List MapEntry} (h : ERs φ l es) : ERs φ' l es := by
  induction h with
  | nil => exact .nil
  | cons hk hv _ ih => exact .cons (hk.mono e) (hv.mono e) ih

/-- The temporaries. -/
def TR (φ : PM) (km : Nat) (T : Tr AV) (nt : Nat) (tmps : Array Value) : Prop := tmps.size = nt ∧ ∀ t a, T.get t = some a → kept km t = true ∧ VR φ a (tmps.getD t undef)

theorem TR.mono {φ φ' : PM} (e : Ext φ φ') {km : Nat} {T : Tr AV} {nt : Nat} {tmps : Array Value} (h : TR φ km T nt tmps) : TR φ' km T nt tmps := ⟨h.1, fun t a ha => ⟨(h.2 t a ha).1, (h.2 t a ha).2.mono e⟩⟩

inductive BR (φ : PM) (w : World) (n : Nat) : AB → Prop
  | cells {b sz : Nat} {C : Array Value} {el : TypeId} {fr : Nat × Nat} {l : List AV} {vs rest : List Value} (h : φ n = some (b, sz)) (hb : w.heap[b]? = some (.cells C el fr)) (hs : C.size = sz)
      (hC : C.toList = vs ++ rest) (hl : VRs φ l vs) (hfr : ∀ i, i < sz → (fr.1 ≤ i && i < fr.2) = false) : BR φ w n (.cells el l)
  | map {b sz : Nat} {es : List MapEntry} {l : List (AV × AV × Nat)} {clock : Nat} (h : φ n = some (b, sz)) (hb : w.heap[b]? = some (.map es.toArray clock)) (hl : ERs φ l es) : BR φ w n (.map l clock)
  | strIter {b sz : Nat} {s : ByteArray} {pos : Nat} (h : φ n = some (b, sz)) (hb : w.heap[b]? = some (.stringIter s pos)) : BR φ w n (.strIter s.data.toList pos)
  | loop {b sz : Nat} {st : LoopState} {pend : Option Code} {fn fn' : FuncId} {km : Nat} {T : Tr AV} {nt : Nat} {ps : Array Tmp} {asg body : Code} {df : Nat} {tmps : Array Value} {bd szd : Nat} (h : φ n = some (b, sz))
      (hd : φ df = some (bd, szd)) (hb : w.heap[b]? = some (.loop ⟨st, pend, fn', tmps, ps, asg, body, bd⟩)) (hT : TR φ km T nt tmps) : BR φ w n (.loop st pend fn km T nt ps asg body df)
  | defd {b sz : Nat} (h : φ n = some (b, sz)) (hb : w.heap[b]? = some (.deferred (some []))) : BR φ w n .defd
  | mapIter {b sz m bm szm since : Nat} {seen : List Nat} (h : φ n = some (b, sz)) (hm : φ m = some (bm, szm)) (hb : w.heap[b]? = some (.mapIter (some bm) since seen.reverse.toArray since)) : BR φ w n (.mapIter m since seen)
  | nilIter {b sz : Nat} (h : φ n = some (b, sz)) (hb : w.heap[b]? = some (.mapIter none 0 #[] 0)) : BR φ w n .nilIter

theorem BR.known {φ : PM} {w : World} {n : Nat} {b : AB} (h : BR φ w n b) : ∃ y o, φ n = some y ∧ w.heap[y.1]? = some o := by
  cases h with
  | cells h hb => exact ⟨_, _, h, hb⟩
  | map h hb => exact ⟨_, _, h, hb⟩
  | strIter h hb => exact ⟨_, _, h, hb⟩
  | loop h _ hb => exact ⟨_, _, h, hb⟩
  | defd h hb => exact ⟨_, _, h, hb⟩
  | mapIter h _ hb => exact ⟨_, _, h, hb⟩
  | nilIter h hb => exact ⟨_, _, h, hb⟩

theorem BR.kept {φ φ' : PM} (e : Ext φ φ') {w w' : World} {n : Nat} {b : AB} (h : BR φ w n b) (hw : ∀ y, φ n = some y → w'.heap[y.1]? = w.heap[y.1]?) : BR φ' w' n b := by
  cases h with
  | cells h hb hs hC hl hfr => exact .cells (e _ _ h) ((hw _ h).trans hb) hs hC (hl.mono e) hfr
  | map h hb hl => exact .map (e _ _ h) ((hw _ h).trans hb) (hl.mono e)
  | strIter h hb => exact .strIter (e _ _ h) ((hw _ h).trans hb)
  | loop h hd hb hT => exact .loop (e _ _ h) (e _ _ hd) ((hw _ h).trans hb) (hT.mono e)
  | defd h hb => exact .defd (e _ _ h) ((hw _ h).trans hb)
  | mapIter h hm hb => exact .mapIter (e _ _ h) (e _ _ hm) ((hw _ h).trans hb)
  | nilIter h hb => exact .nilIter (e _ _ h) ((hw _ h).trans hb)

/-! ### Heaps -/

abbrev HF := Nat → Option Blk

structure Rel (φ : PM) (h : HF) (x : Nat) (w : World) : Prop where
  blk : ∀ n b, h n = some b → BR φ w n b.b
  inj : ∀ n m y z, (h n).isSome = true → (h m).isSome = true → φ n = some y → φ m = some z → y.1 = z.1 → n = m
  bnd : ∀ n, (h n).isSome = true → n < x

/-- From (φ, h, x, w) to (φ', h', x', w'): nothing is touched that h does not name. -/
structure Step (φ : PM) (h : HF) (x : Nat) (w : World) (φ' : PM) (h' : HF) (x' : Nat) (w' : World) : Prop where
  rel : Rel φ' h' x' w'
  ext : Ext φ φ'
  dom : ∀ n, n < x ∨ x' ≤ n → φ' n = φ n
  le : x ≤ x'
  frame : ∀ b, b < w.heap.size → (∀ n y, (h n).isSome = true → φ n = some y → y.1 ≠ b) → w'.heap[b]? = w.heap[b]?
  live : ∀ n y, (h' n).isSome = true → φ' n = some y → w.heap.size ≤ y.1 ∨ ∃ m z, (h m).isSome = true ∧ φ m = some z ∧ z.1 = y.1
  size : w.heap.size ≤ w'.heap.size
  os : w'.os = w.os
  tape : w'.tape = w.tape
  output : w'.output = w.output
  old : ∀ n, n < x → (h' n).isSome = true → (h n).isSome = true
  ver : ∀ n b b', h n = some b → h' n = some b' → b.v ≤ b'.v ∧ (b.v = b'.v → b' = b)
  same : ∀ n b b' y, h n = some b → h' n = some b' → b.v = b'.v → φ n = some y → w'.heap[y.1]? = w.heap[y.1]?
  bnd : ∀ n, (h n).isSome = true → n < x

theorem Rel.lt {φ : PM} {h : HF} {x : Nat} {w : World} (r : Rel φ h x w) {n : Nat} {y : Nat × Nat} (hn : (h n).isSome = true) (hy : φ n = some y) : y.1 < w.heap.size := by
  obtain ⟨b, hb⟩ := Option.isSome_iff_exists.1 hn
  obtain ⟨z, o, hz, ho⟩ := (r.blk n b hb).known
  obtain rfl := Option.some.inj (hy.symm.trans hz)
  exact (Array.getElem?_eq_some_iff.1 ho).1

theorem Step.refl {φ : PM} {h : HF} {x : Nat} {w : World} (r : Rel φ h x w) : Step φ h x w φ h x w where
  rel := r
  ext := Ext.refl _
  dom := fun _ _ => rfl
  le := Nat.le_refl _
  frame := fun _ _ _ => rfl
  live := fun n y hn hy => .inr ⟨n, y, hn, hy, rfl⟩
  size := Nat.le_refl _
  os := rfl
  tape := rfl
  output := rfl
  old := fun _ _ h => h
  ver := fun n b b' hb hb' => by rw [hb] at hb'; cases hb'; exact ⟨Nat.le_refl _, fun _ => rfl⟩
  same := fun _ _ _ _ _ _ _ _ => rfl
  bnd := r.bnd

theorem Step.trans {φ₁ φ₂ φ₃ : PM} {h₁ h₂ h₃ : HF} {x₁ x₂ x₃ : Nat} {w₁ w₂ w₃ : World} (s : Step φ₁ h₁ x₁ w₁ φ₂ h₂ x₂ w₂) (t : Step φ₂ h₂ x₂ w₂ φ₃ h₃ x₃ w₃) :
    Step φ₁ h₁ x₁ w₁ φ₃ h₃ x₃ w₃ where
  rel := t.rel
  ext := s.ext.trans t.ext
  dom := fun n hn => (t.dom n (by have := s.le; have := t.le; omega)).trans (s.dom n (by have := s.le; have := t.le; omega))
  le := Nat.le_trans s.le t.le
  frame := fun b hb hnot => by
    rw [t.frame b (Nat.lt_of_lt_of_le hb s.size) (fun n y hn hy e => ?_), s.frame b hb hnot]
    rcases s.live n y hn hy with hl | ⟨m, z, hm, hz, e'⟩
    · omega
    · exact hnot m z hm hz (e'.trans e)
  live := fun n y hn hy => by
    rcases t.live n y hn hy with hl | ⟨m, z, hm, hz, e⟩
    · exact .inl (Nat.le_trans s.size hl)
    · rcases s.live m z hm hz with hl | ⟨k, u, hk, hu, e'⟩
      · exact .inl (e ▸ hl)
      · exact .inr ⟨k, u, hk, hu, e'.trans e⟩
  size := Nat.le_trans s.size t.size
  os := t.os.trans s.os
  tape := t.tape.trans s.tape
  output := t.output.trans s.output
  old := fun n hn h => s.old n hn (t.old n (Nat.lt_of_lt_of_le hn s.le) h)
  ver := fun n b b' hb hb' => by
    have h2 : (h₂ n).isSome = true := t.old n (Nat.lt_of_lt_of_le (s.bnd n (by rw [hb]; rfl)) s.le) (by rw [hb']; rfl)
    obtain ⟨b₂, hb₂⟩ := Option.isSome_iff_exists.1 h2
    have v1 := s.ver n b b₂ hb hb₂
    have v2 := t.ver n b₂ b' hb₂ hb'
    refine ⟨Nat.le_trans v1.1 v2.1, fun e => ?_⟩
    have e1 : b.v = b₂.v := by omega
    have e2 : b₂.v = b'.v := by omega
    rw [v2.2 e2, v1.2 e1]
  same := fun n b b' y hb hb' e hy => by
    have h2 : (h₂ n).isSome = true := t.old n (Nat.lt_of_lt_of_le (s.bnd n (by rw [hb]; rfl)) s.le) (by rw [hb']; rfl)
    obtain ⟨b₂, hb₂⟩ := Option.isSome_iff_exists.1 h2
    have v1 := s.ver n b b₂ hb hb₂
    have v2 := t.ver n b₂ b' hb₂ hb'
    rw [t.same n b₂ b' y hb₂ hb' (by omega) (s.ext _ _ hy), s.same n b b₂ y hb hb₂ (by omega) hy]
  bnd := s.bnd

end Go.Ce
