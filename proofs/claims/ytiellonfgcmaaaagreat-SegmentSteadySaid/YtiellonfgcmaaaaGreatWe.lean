/- What an election without one candidate comes to: plain facts on the first greatest key. -/
import Derived.Test.YtiellonfgcmaaaaGreatWd
namespace Go.Proofs.YtiellonfgcmaaaaGreat
open Go.RowKit Go.ChangeShapes

/-- The first greatest key among the first n. -/
def IsB (key : Nat → Int) (n z : Nat) : Prop := z < n ∧ (∀ j, j < n → key j ≤ key z) ∧ (∀ j, j < z → key j < key z)
theorem isB_bst (key : Nat → Int) : ∀ n, 0 < n → IsB key n (bst key n)
  | 0, h => absurd h (by omega)
  | 1, _ => ⟨by simp [bst], fun j hj => by have : j = 0 := by omega
                                           subst this; simp [bst], fun j hj => by simp [bst] at hj⟩
  | n + 2, _ => by
    obtain ⟨h1, h2, h3⟩ := isB_bst key (n + 1) (by omega)
    rw [bst_succ]
    by_cases hlt : key (bst key (n + 1)) < key (n + 1)
    · rw [if_pos hlt]
      refine ⟨by omega, fun j hj => ?_, fun j hj => ?_⟩
      · by_cases e : j = n + 1
        · subst e; omega
        · have := h2 j (by omega); omega
      · have := h2 j hj; omega
    · rw [if_neg hlt]
      refine ⟨by omega, fun j hj => ?_, h3⟩
      by_cases e : j = n + 1
      · subst e; omega
      · exact h2 j (by omega)
theorem isB_one {key : Nat → Int} {n a b : Nat} (ha : IsB key n a) (hb : IsB key n b) : a = b := by
  rcases Nat.lt_trichotomy a b with h | h | h
  · have := hb.2.2 a h; have := ha.2.1 b hb.1; omega
  · exact h
  · have := ha.2.2 b h; have := hb.2.1 a ha.1; omega
/-- All but t. -/
def sk (t i : Nat) : Nat := if i < t then i else i + 1
theorem sk_ne (t i : Nat) : sk t i ≠ t := by unfold sk; split <;> omega
theorem steady_key (key : Nat → Int) (n t : Nat) (hn : 2 ≤ n) (ht : t < n) : bst key n = t ∨ bst key n = sk t (bst (fun i => key (sk t i)) (n - 1)) := by
  by_cases hz : bst key n = t
  · exact .inl hz
  · refine .inr ?_
    have hB := isB_bst key n (by omega)
    have hB' := isB_bst (fun i => key (sk t i)) (n - 1) (by omega)
    generalize bst key n = z at *
    obtain ⟨h1, h2, h3⟩ := hB
    have hu : IsB (fun i => key (sk t i)) (n - 1) (if z < t then z else z - 1) := by
      have hs : sk t (if z < t then z else z - 1) = z := by unfold sk; (repeat' split) <;> omega
      refine ⟨by split <;> omega, fun j hj => ?_, fun j hj => ?_⟩
      · show key (sk t j) ≤ key (sk t (if z < t then z else z - 1))
        rw [hs]
        exact h2 _ (by unfold sk; split <;> omega)
      · show key (sk t j) < key (sk t (if z < t then z else z - 1))
        rw [hs]
        refine h3 _ ?_
        unfold sk
        split at hj <;> split <;> omega
    have he := isB_one hB' hu
    rw [he]
    unfold sk
    (repeat' split) <;> omega
theorem lb_inj {i j : Nat} (h : lb i = lb j) : i = j := by unfold lb at h; omega
theorem steady_sel (alg f : Int) (n t : Nat) (pr : Nat → Int) (hn : 2 ≤ n) (ht : t < n) (ha : alg ≠ 0) :
    lb (sk t (sel alg f (n - 1) (fun i => lb (sk t i)) (fun i => pr (sk t i)))) ≠ lb t ∧
    (lb (sel alg f n lb pr) = lb t ∨ lb (sel alg f n lb pr) = lb (sk t (sel alg f (n - 1) (fun i => lb (sk t i)) (fun i => pr (sk t i))))) := by
  refine ⟨fun h => sk_ne t _ (lb_inj h), ?_⟩
  unfold sel
  rw [if_neg ha, if_neg ha]
  by_cases h1 : alg = 1
  · rw [if_pos h1, if_pos h1]
    rcases steady_key (fun i => wt (lb i) f) n t hn ht with h | h
    · exact .inl (by rw [h])
    · exact .inr (by rw [h])
  · rw [if_neg h1, if_neg h1]
    rcases steady_key pr n t hn ht with h | h
    · exact .inl (by rw [h])
    · exact .inr (by rw [h])
theorem asc_sk (n t : Nat) : Asc (fun i => lb (sk t i)) n := fun i _ => by
  show lb (sk t i) < lb (sk t (i + 1))
  unfold lb sk
  split <;> split <;> omega
theorem flat_add (ip pr : Nat → Int) (a : Nat) : ∀ b, flat ip pr (a + b) = flat ip pr a ++ flat (fun i => ip (a + i)) (fun i => pr (a + i)) b
  | 0 => by simp [flat]
  | b + 1 => by
    rw [show a + (b + 1) = (a + b) + 1 by omega]
    simp only [flat]
    rw [flat_add ip pr a b, List.append_assoc]
theorem flat_congr {ip pr ip' pr' : Nat → Int} : ∀ n, (∀ i, i < n → ip i = ip' i ∧ pr i = pr' i) → flat ip pr n = flat ip' pr' n
  | 0, _ => rfl
  | n + 1, h => by
    simp only [flat]
    rw [flat_congr n (fun i hi => h i (by omega)), (h n (by omega)).1, (h n (by omega)).2]
theorem flat_skip (pr : Nat → Int) (n t : Nat) (ht : t < n) :
    flat lb pr t ++ flat (fun i => lb (t + 1 + i)) (fun i => pr (t + 1 + i)) (n - (t + 1)) = flat (fun i => lb (sk t i)) (fun i => pr (sk t i)) (n - 1) := by
  rw [show n - 1 = t + (n - (t + 1)) by omega, flat_add]
  congr 1
  · exact flat_congr t fun i hi => by simp [sk, hi]
  · refine flat_congr _ fun i hi => ?_
    have : sk t (t + i) = t + 1 + i := by unfold sk; rw [if_neg (by omega)]; omega
    rw [this]
    exact ⟨rfl, rfl⟩
theorem flat_inv (ip pr : Nat → Int) (k j : Nat) (u : Value) (h : (flat ip pr k)[j]? = some u) : ∃ i, i < k ∧ (j = i * 2 ∧ u = .int .u32 (ip i) ∨ j = i * 2 + 1 ∧ u = .int .i64 (pr i)) := by
  have hj : j < k * 2 := by
    rw [← flat_length ip pr k]
    exact (List.getElem?_eq_some_iff.1 h).1
  have hi : j / 2 < k := by omega
  obtain ⟨g0, g1⟩ := flat_get ip pr k (j / 2) hi
  rcases (show j = j / 2 * 2 ∨ j = j / 2 * 2 + 1 by omega) with e | e
  · rw [← e, h] at g0
    exact ⟨j / 2, hi, .inl ⟨e, by injection g0⟩⟩
  · rw [← e, h] at g1
    exact ⟨j / 2, hi, .inr ⟨e, by injection g1⟩⟩
theorem flat_one (ip pr : Nat → Int) (k : Nat) : ∀ u ∈ flat ip pr k, u.oneCell' = true := by
  intro u hu
  obtain ⟨j, hj⟩ := List.getElem?_of_mem hu
  obtain ⟨i, _, ⟨_, rfl⟩ | ⟨_, rfl⟩⟩ := flat_inv ip pr k j u hj <;> rfl
theorem addr_add (b off j : Nat) : (⟨b, off, none⟩ : Addr).add j = ⟨b, off + j, none⟩ := by
  unfold Addr.add
  split
  · next h => subst h; rfl
  · rfl

end Go.Proofs.YtiellonfgcmaaaaGreat
