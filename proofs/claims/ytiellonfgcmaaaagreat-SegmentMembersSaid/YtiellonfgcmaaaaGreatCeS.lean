/- The abstract evaluator 'Ce': regions that draw their order: what the evaluator's own record says. -/
import Derived.Test.YtiellonfgcmaaaaGreatCeO
set_option linter.unusedVariables false
set_option linter.unusedSimpArgs false
set_option linter.unusedSectionVars false
namespace Go.Ce

/-! ### Overwriting -/

/-- What stands at n when of the first m writers those of S have written, the later over the earlier. -/
def ov {β : Type} (δ : Nat → Nat → Option β) (S : Nat → Bool) (h : Nat → β) : Nat → Nat → β
  | 0, n => h n
  | m + 1, n => match S m, δ m n with
    | true, some b => b
    | _, _ => ov δ S h m n

section
variable {β : Type} {δ : Nat → Nat → Option β} {S S' : Nat → Bool} {h : Nat → β} {n : Nat}

theorem ov_succ_false {m : Nat} (hs : S m = false ∨ δ m n = none) : ov δ S h (m + 1) n = ov δ S h m n := by
  show (match S m, δ m n with | true, some b => b | _, _ => ov δ S h m n) = _
  rcases hs with hs | hs <;> rw [hs]
  cases S m <;> rfl

theorem ov_succ_true {m : Nat} {b : β} (hs : S m = true) (hd : δ m n = some b) : ov δ S h (m + 1) n = b := by
  show (match S m, δ m n with | true, some b => b | _, _ => ov δ S h m n) = _
  rw [hs, hd]

theorem ov_agree : ∀ {m : Nat}, (∀ k, k < m → (δ k n).isSome = true → S k = S' k) → ov δ S h m n = ov δ S' h m n := by
  intro m
  induction m with
  | zero => intro _; rfl
  | succ m ih =>
    intro hk
    have ih := ih fun k hlt => hk k (by omega)
    show (match S m, δ m n with | true, some b => b | _, _ => ov δ S h m n) = (match S' m, δ m n with | true, some b => b | _, _ => ov δ S' h m n)
    cases hd : δ m n with
    | none => cases S m <;> cases S' m <;> exact ih
    | some b => rw [hk m (by omega) (by rw [hd]; rfl)]; cases S' m <;> first | exact ih | rfl

theorem ov_cut : ∀ {m i : Nat}, i ≤ m → (∀ k, i ≤ k → k < m → (δ k n).isSome = true → S k = false) → ov δ S h m n = ov δ S h i n := by
  intro m
  induction m with
  | zero => intro i hi _; rw [show i = 0 from by omega]
  | succ m ih =>
    intro i hi hk
    by_cases e : i = m + 1
    · rw [e]
    · have hm := hk m (by omega) (by omega)
      rw [← ih (i := i) (by omega) fun k h1 h2 => hk k h1 (by omega)]
      refine ov_succ_false ?_
      cases hd : δ m n with
      | none => exact .inr rfl
      | some b => exact .inl (hm (by rw [hd]; rfl))

/-- The last writer's word stands. -/
theorem ov_last {m i : Nat} (hi : i < m) {b : β} (hs : S i = true) (hd : δ i n = some b) (hk : ∀ k, i < k → k < m → (δ k n).isSome = true → S k = false) : ov δ S h m n = b := by
  rw [ov_cut (i := i + 1) (by omega) fun k h1 h2 h3 => hk k (by omega) h2 h3, ov_succ_true hs hd]

end

/-! ### Deltas -/

/-- The last entry of a name. -/
def dget : Delta → Nat → Option (Option Blk)
  | [], _ => none
  | (k, ob) :: l, n => match dget l n with
    | some r => some r
    | none => if k = n then some ob else none

theorem dget_mem {n : Nat} {ob : Option Blk} : ∀ {d : Delta}, dget d n = some ob → (n, ob) ∈ d := by
  intro d
  induction d with
  | nil => intro h; cases h
  | cons e l ih =>
    obtain ⟨k, o⟩ := e
    intro h
    unfold dget at h
    split at h
    · rename_i r hr
      cases h
      exact List.mem_cons_of_mem _ (ih hr)
    · split at h
      · rename_i e; subst e; cases h; exact List.mem_cons_self ..
      · cases h

theorem dget_none {n : Nat} : ∀ {d : Delta}, dget d n = none → ∀ ob, (n, ob) ∉ d := by
  intro d
  induction d with
  | nil => intro _ ob h; cases h
  | cons e l ih =>
    obtain ⟨k, o⟩ := e
    intro h ob hm
    unfold dget at h
    split at h
    · cases h
    · rename_i hr
      split at h
      · cases h
      · rename_i hne
        cases hm with
        | head => exact hne rfl
        | tail _ hm => exact ih hr ob hm

theorem applyD_get {n : Nat} {b : Blk} : ∀ {d : Delta} {H : Hp}, (applyD d H).get n = some b → dget d n = some (some b) ∨ (dget d n = none ∧ H.get n = some b) := by
  intro d
  induction d with
  | nil => intro H h; exact .inr ⟨rfl, h⟩
  | cons e l ih =>
    obtain ⟨k, o⟩ := e
    intro H h
    cases o with
    | none =>
      rcases ih (H := H.del dH k) h with h1 | ⟨h1, h2⟩
      · left; unfold dget; rw [h1]
      · have := Tr.get_del h2
        right
        refine ⟨?_, this.2⟩
        unfold dget; rw [h1]
        exact if_neg (fun e => this.1 e.symm)
    | some b' =>
      rcases ih (H := H.ins dH k b') h with h1 | ⟨h1, h2⟩
      · left; unfold dget; rw [h1]
      · rcases Tr.get_ins h2 with ⟨e1, e2⟩ | ⟨e1, e2⟩
        · left; unfold dget; rw [h1, if_pos e1.symm, e2]
        · right
          refine ⟨?_, e2⟩
          unfold dget; rw [h1]
          exact if_neg (fun e => e1 e.symm)

theorem deltaOld_mem {p q : Hp} {n : Nat} {ob : Option Blk} : ∀ {l : List Nat} {acc : Delta}, (n, ob) ∈ deltaOld p q l acc → (n, ob) ∈ acc ∨ (n ∈ l ∧ ob = q.get n) := by
  intro l
  induction l with
  | nil => intro acc h; exact .inl h
  | cons k l ih =>
    intro acc h
    unfold deltaOld at h
    have key : ∀ {acc' : Delta}, (n, ob) ∈ deltaOld p q l acc' → ((n, ob) ∈ acc' → (n, ob) ∈ acc ∨ (n ∈ k :: l ∧ ob = q.get n)) → (n, ob) ∈ acc ∨ (n ∈ k :: l ∧ ob = q.get n) := by
      intro acc' h1 h2
      rcases ih h1 with h3 | ⟨h3, h4⟩
      · exact h2 h3
      · exact .inr ⟨List.mem_cons_of_mem _ h3, h4⟩
    split at h
    · rename_i hq
      refine key h fun h2 => ?_
      cases h2 with
      | head => exact .inr ⟨List.mem_cons_self .., hq.symm⟩
      | tail _ h2 => exact .inl h2
    · rename_i b' hq
      split at h
      · refine key h fun h2 => ?_
        cases h2 with
        | head => exact .inr ⟨List.mem_cons_self .., hq.symm⟩
        | tail _ h2 => exact .inl h2
      · rename_i b hp
        cases hb : Nat.beq b.v b'.v with
        | true => rw [hb, cond_true] at h; exact key h .inl
        | false =>
          rw [hb, cond_false] at h
          refine key h fun h2 => ?_
          cases h2 with
          | head => exact .inr ⟨List.mem_cons_self .., hq.symm⟩
          | tail _ h2 => exact .inl h2

theorem deltaOld_acc {p q : Hp} {e : Nat × Option Blk} : ∀ {l : List Nat} {acc : Delta}, e ∈ acc → e ∈ deltaOld p q l acc := by
  intro l
  induction l with
  | nil => intro acc h; exact h
  | cons k l ih =>
    intro acc h
    unfold deltaOld
    split
    · exact ih (List.mem_cons_of_mem _ h)
    · split
      · exact ih (List.mem_cons_of_mem _ h)
      · rename_i b' _ _ b _
        cases Nat.beq b.v b'.v with
        | true => exact ih h
        | false => exact ih (List.mem_cons_of_mem _ h)

/-- What has no row has been left as it was. -/
theorem deltaOld_not {p q : Hp} {n : Nat} : ∀ {l : List Nat} {acc : Delta}, n ∈ l → (∀ ob, (n, ob) ∉ deltaOld p q l acc) → ∃ b b', p.get n = some b ∧ q.get n = some b' ∧ b.v = b'.v := by
  intro l
  induction l with
  | nil => intro acc h; cases h
  | cons k l ih =>
    intro acc hn h
    unfold deltaOld at h
    cases hn with
    | tail _ hn =>
      split at h
      · exact ih hn h
      · split at h
        · exact ih hn h
        · rename_i b' _ _ b _
          cases hb : Nat.beq b.v b'.v with
          | true => rw [hb, cond_true] at h; exact ih hn h
          | false => rw [hb, cond_false] at h; exact ih hn h
    | head =>
      split at h
      · exact absurd (deltaOld_acc (List.mem_cons_self ..)) (h _)
      · rename_i b' hq
        split at h
        · exact absurd (deltaOld_acc (List.mem_cons_self ..)) (h _)
        · rename_i b hp
          cases hb : Nat.beq b.v b'.v with
          | true => exact ⟨b, b', hp, hq, beqT hb⟩
          | false =>
            rw [hb, cond_false] at h
            exact absurd (deltaOld_acc (List.mem_cons_self ..)) (h _)

theorem deltaNew_mem {x : Nat} {q : Hp} {n : Nat} {ob : Option Blk} : ∀ {l : List Nat} {acc : Delta}, (n, ob) ∈ deltaNew x q l acc → (n, ob) ∈ acc ∨ (x ≤ n ∧ ob = q.get n ∧ (q.get n).isSome = true) := by
  intro l
  induction l with
  | nil => intro acc h; exact .inl h
  | cons k l ih =>
    intro acc h
    unfold deltaNew at h
    cases hk : Nat.ble x k with
    | false => rw [hk, cond_false] at h; exact ih h
    | true =>
      rw [hk, cond_true] at h
      split at h
      · rename_i b hq
        rcases ih h with h3 | h3
        · cases h3 with
          | head => exact .inr ⟨bleT hk, hq.symm, by rw [hq]; rfl⟩
          | tail _ h3 => exact .inl h3
        · exact .inr h3
      · exact ih h

theorem deltaNew_acc {x : Nat} {q : Hp} {e : Nat × Option Blk} : ∀ {l : List Nat} {acc : Delta}, e ∈ acc → e ∈ deltaNew x q l acc := by
  intro l
  induction l with
  | nil => intro acc h; exact h
  | cons k l ih =>
    intro acc h
    unfold deltaNew
    cases Nat.ble x k with
    | false => exact ih h
    | true =>
      rw [cond_true]
      split
      · exact ih (List.mem_cons_of_mem _ h)
      · exact ih h

theorem rcd_mem {i : Nat} {p q : Hp} {x n : Nat} {ob : Option Blk} (h : (n, ob) ∈ (rcdOf i p q x).delta) : ob = q.get n ∧ (n ∈ p.keys [] ∨ (x ≤ n ∧ (q.get n).isSome = true)) := by
  rcases deltaNew_mem h with h1 | ⟨h1, h2, h3⟩
  · rcases deltaOld_mem h1 with h2 | ⟨h2, h3⟩
    · cases h2
    · exact ⟨h3, .inl h2⟩
  · exact ⟨h2, .inr ⟨h1, h3⟩⟩

theorem rcd_not {i : Nat} {p q : Hp} {x n : Nat} (hn : n ∈ p.keys []) (h : ∀ ob, (n, ob) ∉ (rcdOf i p q x).delta) : ∃ b b', p.get n = some b ∧ q.get n = some b' ∧ b.v = b'.v :=
  deltaOld_not hn fun ob hm => h ob (deltaNew_acc hm)

/-! ### Apart -/

theorem hasName_ok {n : Nat} : ∀ {l : List Nat}, n ∈ l → hasName n l = true := by
  intro l
  induction l with
  | nil => intro h; cases h
  | cons k l ih =>
    intro h
    show (bif Nat.beq k n then true else hasName n l) = true
    cases h with
    | head => simp
    | tail _ h => rw [ih h]; cases Nat.beq k n <;> rfl

theorem meets_ok {n : Nat} {ob : Option Blk} {f : List Nat} : ∀ {d : Delta}, (n, ob) ∈ d → n ∈ f → meets d f = true := by
  intro d
  induction d with
  | nil => intro h; cases h
  | cons e l ih =>
    obtain ⟨k, o⟩ := e
    intro h hf
    show (bif hasName k f then true else meets l f) = true
    cases h with
    | head => rw [hasName_ok hf]; rfl
    | tail _ h => rw [ih h hf]; cases hasName k f <;> rfl

theorem apartR_ok {bef : Nat → Nat} {a : Rcd} : ∀ {l : List Rcd}, apartR bef a l = true → ∀ b ∈ l, (meets a.delta b.foot = true ∨ meets b.delta a.foot = true) → Nat.testBit (bef a.i) b.i = true := by
  intro l
  induction l with
  | nil => intro _ b h; cases h
  | cons c l ih =>
    intro h b hb hm
    have h : (bif (bif meets a.delta c.foot then true else meets c.delta a.foot) then (bif Nat.testBit (bef a.i) c.i then apartR bef a l else false) else apartR bef a l) = true := h
    have hl : apartR bef a l = true := by
      revert h
      cases (bif meets a.delta c.foot then true else meets c.delta a.foot) <;> cases Nat.testBit (bef a.i) c.i <;> simp
    cases hb with
    | tail _ hb => exact ih hl b hb hm
    | head =>
      have hc : (bif meets a.delta c.foot then true else meets c.delta a.foot) = true := by
        rcases hm with hm | hm <;> rw [hm]
        · rfl
        · cases meets a.delta c.foot <;> rfl
      rw [hc, cond_true] at h
      cases ht : Nat.testBit (bef a.i) c.i with
      | true => rfl
      | false => rw [ht] at h; cases h

/-- A record that has anything to tell is told, and is apart from those told ahead of it. -/
theorem addR_ok {bef : Nat → Nat} {r : Rcd} {rs rs' : List Rcd} (h : addR bef r rs = .ok rs') : (∀ b ∈ rs, b ∈ rs') ∧ ((∃ n, n ∈ r.foot) ∨ (∃ e, e ∈ r.delta) → r ∈ rs' ∧ apartR bef r rs = true) := by
  unfold addR at h
  cases hc : (isNilL r.foot && r.delta.isEmpty) with
  | true =>
    rw [hc, cond_true] at h
    cases h
    refine ⟨fun b hb => hb, fun hne => ?_⟩
    simp only [Bool.and_eq_true] at hc
    exfalso
    rcases hne with ⟨n, hn⟩ | ⟨e, he⟩
    · cases hf : r.foot with
      | nil => rw [hf] at hn; cases hn
      | cons a l => rw [hf] at hc; cases hc.1
    · cases hf : r.delta with
      | nil => rw [hf] at he; cases he
      | cons a l => rw [hf] at hc; cases hc.2
  | false =>
    rw [hc, cond_false] at h
    obtain ⟨h1, h2⟩ := cond_ok h
    cases h2
    exact ⟨fun b hb => List.mem_cons_of_mem _ hb, fun _ => ⟨List.mem_cons_self .., h1⟩⟩

end Go.Ce
