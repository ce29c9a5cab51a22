/- The walks of the copy and of the comparison of lists; the reference's election at numbers that are out of range. -/
import Derived.Test.YtiellonfgcmaaaaWc
namespace Go.Proofs.Ytiellonfgcmaaaa
open Go.RowKit Go.ChangeShapes

/-- The cells of the first k candidates. -/
def flat (ip pr : Nat → Int) : Nat → List Value
  | 0 => []
  | k + 1 => flat ip pr k ++ [.int .u32 (ip k), .int .i64 (pr k)]
theorem flat_length (ip pr : Nat → Int) (k : Nat) : (flat ip pr k).length = k * 2 := by
  induction k with
  | zero => rfl
  | succ k ih => simp [flat, ih]; omega
theorem flat_get (ip pr : Nat → Int) (k i : Nat) (hi : i < k) : (flat ip pr k)[i * 2]? = some (.int .u32 (ip i)) ∧ (flat ip pr k)[i * 2 + 1]? = some (.int .i64 (pr i)) := by
  induction k with
  | zero => omega
  | succ k ih =>
    have hl := flat_length ip pr k
    by_cases h : i < k
    · have := ih h
      simp only [flat]
      rw [List.getElem?_append_left (by omega), List.getElem?_append_left (by omega)]
      exact this
    · have : i = k := by omega
      subst this
      simp only [flat]
      rw [List.getElem?_append_right (by omega), List.getElem?_append_right (by omega), hl]
      simp
theorem flat_inv (ip pr : Nat → Int) (k j : Nat) (u : Value) (h : (flat ip pr k)[j]? = some u) : ∃ i, i < k ∧ (j = i * 2 ∧ u = .int .u32 (ip i) ∨ j = i * 2 + 1 ∧ u = .int .i64 (pr i)) := by
  have hj : j < k * 2 := by
    rw [← flat_length ip pr k]
    exact (List.getElem?_eq_some_iff.1 h).1
  have hi : j / 2 < k := by omega
  obtain ⟨g0, g1⟩ := flat_get ip pr k (j / 2) hi
  rcases (show j = j / 2 * 2 ∨ j = j / 2 * 2 + 1 by omega) with e | e
  · rw [← e, h] at g0
    exact ⟨j / 2, hi, .inl ⟨e, by injection g0⟩⟩
  · rw [← e, h] at g1
    exact ⟨j / 2, hi, .inr ⟨e, by injection g1⟩⟩
theorem flat_one (ip pr : Nat → Int) (k : Nat) : ∀ u ∈ flat ip pr k, u.oneCell' = true := by
  intro u hu
  obtain ⟨j, hj⟩ := List.getElem?_of_mem hu
  obtain ⟨i, _, ⟨_, rfl⟩ | ⟨_, rfl⟩⟩ := flat_inv ip pr k j u hj <;> rfl
theorem addr_add (b off j : Nat) : (⟨b, off, none⟩ : Addr).add j = ⟨b, off + j, none⟩ := by
  unfold Addr.add
  split
  · next h => subst h; rfl
  · rfl
theorem info28 : (Try.prog.info? 28).map (fun i => (i.zero, i.size, i.bytes)) = some (some (.agg #[.int .u32 0, .int .i64 0]), 2, 16) := by kernel_rfl

set_option maxRecDepth 100000 in
set_option maxHeartbeats 4000000 in
theorem own_any (b off n c : Nat) (ip pr : Nat → Int) (w : World) (hn : n ≤ 100) (hb : b < w.heap.size)
   (hc0 : ∀ i, i < n → w.cell? ⟨b, off + i * 2, none⟩ = some (.int .u32 (ip i))) (hc1 : ∀ i, i < n → w.cell? ⟨b, off + i * 2 + 1, none⟩ = some (.int .i64 (pr i))) :
    Calls Try.prog 5 #[.slice (some ⟨b, off, none⟩) n c] w fun e w' => ∃ g cap, e = .returned (.slice (some ⟨g, 0, none⟩) n cap) ∧ n ≤ cap ∧ g < w'.heap.size ∧ Below w.heap.size w w' ∧
      (∀ i, i < n → w'.cell? ⟨g, i * 2, none⟩ = some (.int .u32 (ip i))) ∧ (∀ i, i < n → w'.cell? ⟨g, i * 2 + 1, none⟩ = some (.int .i64 (pr i))) := by
  obtain ⟨i0, hi, hz0, hz1, hz2⟩ := info_parts info28
  have K0 := Lib.hid hc0
  have K1 := Lib.hid hc1
  clear hc0 hc1
  have hw1 : (w.alloc (.cells #[] 28)).ownsRow w.heap.size 28 2 (.slice (some ⟨w.heap.size, 0, none⟩) 0 0) 0 [] := World.ownsRow_lit w #[] 0 (Nat.le_refl _) (Nat.zero_le _) rfl
  have hnews : ∀ j u, (flat ip pr n)[j]? = some u → (w.alloc (.cells #[] 28)).cell? ((⟨b, off, none⟩ : Addr).add j) = some u := by
    intro j u hj
    rw [addr_add, World.cell?_alloc_past _ _ _ hb]
    obtain ⟨i, hi, ⟨rfl, rfl⟩ | ⟨rfl, rfl⟩⟩ := flat_inv ip pr n j u hj
    · exact K0.out i hi
    · exact K1.out i hi
  have hnews' := Lib.hid hnews
  clear hnews
  have m1 : 0 + n ≤ maxLen := by unfold maxLen; omega
  have m2 : (0 + n) * 16 ≤ 140737488355328 := by omega
  have m3 : w.heap.size ≤ (w.alloc (.cells #[] 28)).heap.size := by simp
  go_enter Try.func5, Try.ntmps5
  go_wp2_with (at_builtin; refine wpList_append_own _ rfl (.tmp 3) (.tmp 4) 22 rfl w.heap.size 28 i0 _ 2 16 Try.underlying22 hi hz0 hz1 hz2 rfl (Nat.zero_lt_two) (.slice (some ⟨w.heap.size, 0, none⟩) 0 0) 0 [] rfl hw1 ⟨b, off, none⟩ n c (flat ip pr n) rfl (flat_length ip pr n) hnews'.out (flat_one ip pr n) m1 m2 m3 ?_; intro v' w1 hown hgrow hnil)
  go_ret
  have hown' : w1.ownsRow w.heap.size 28 2 v' n (flat ip pr n) := by simpa using hown
  rcases hown'.2 with ⟨rfl, hz⟩ | ⟨g, cap, cur, rfl, hg, hh, hnc, _⟩
  · exact absurd (hnil.1 rfl).1 (by simp)
  · refine ⟨g, cap, rfl, hnc, ?_, ?_, ?_, ?_⟩
    · have := (hown'.lt g rfl).2; exact this
    · exact ((Below.refl _ _).alloc (Nat.le_refl _) _).grown hgrow m3 (by simp [Value.ownBlock])
    · intro i hi; rw [hown'.cellAt (i * 2) (by omega)]; exact (flat_get ip pr n i hi).1
    · intro i hi; rw [hown'.cellAt (i * 2 + 1) (by omega)]; exact (flat_get ip pr n i hi).2

set_option maxRecDepth 100000 in
set_option maxHeartbeats 4000000 in
theorem same_any (b off c g goff c' n : Nat) (ip pr : Nat → Int) (w : World) (hn : n ≤ 100)
   (hc0 : ∀ i, i < n → w.cell? ⟨b, off + i * 2, none⟩ = some (.int .u32 (ip i))) (hc1 : ∀ i, i < n → w.cell? ⟨b, off + i * 2 + 1, none⟩ = some (.int .i64 (pr i)))
   (hd0 : ∀ i, i < n → w.cell? ⟨g, goff + i * 2, none⟩ = some (.int .u32 (ip i))) (hd1 : ∀ i, i < n → w.cell? ⟨g, goff + i * 2 + 1, none⟩ = some (.int .i64 (pr i))) :
    Calls Try.prog 10 #[.slice (some ⟨g, goff, none⟩) n c', .slice (some ⟨b, off, none⟩) n c] w fun e w' => e = .returned (.bool true) ∧ Below w.heap.size w w' := by
  go_enter Try.func10, Try.ntmps10
  go_wp2
  go_loopw [5] (fun i wr => ∃ k m : Nat, k ≤ n ∧ i = .int .i64 k ∧ wr = w.drewN m) (fun i _ => n - (intOf i).toNat)
  case atStart => exact ⟨0, 0, Nat.zero_le _, rfl, rfl⟩
  case round =>
    obtain ⟨k, m, hk, rfl, rfl⟩ := hrel
    by_cases hlt : k < n
    · have hlt' : (k : Int) < n := by omega
      have h0' : (0:Int) ≤ k := by omega
      have g0 := hc0 k hlt
      have g1 := hc1 k hlt
      have g2 := hd0 k hlt
      have g3 := hd1 k hlt
      go_wp2
      go_quiet (fail)
      go_wp2
      go_roundw
      case rel => exact ⟨k + 1, _, by omega, by go_num, rfl⟩
      case measure => simp [intOf]; omega
    · have hge : ¬ (k : Int) < n := by omega
      go_wp2
      go_ret
      exact ⟨rfl, drewN_below _ _⟩

/-- Where nothing is compared. -/
theorem same_none (a a' : Option Addr) (c c' : Nat) (w : World) : Calls Try.prog 10 #[.slice a 0 c, .slice a' 0 c'] w fun e w' => e = .returned (.bool true) ∧ w' = w := by
  go_enter Try.func10, Try.ntmps10
  go_wp2
  refine wp_loop_rounds 1 ?_
  rw [rounds_succ]
  go_wp2
  go_ret
  exact ⟨rfl, rfl⟩

theorem own_none (w : World) : Calls Try.prog 5 #[.slice none 0 0] w fun e w' => (∃ a' c', e = .returned (.slice a' 0 c')) ∧ Below w.heap.size w w' := by
  go_enter Try.func5, Try.ntmps5
  go_wp2
  go_ret
  exact ⟨⟨_, _, rfl⟩, (Below.refl _ _).alloc (Nat.le_refl _) _⟩

set_option maxRecDepth 100000 in
set_option maxHeartbeats 4000000 in
theorem relect_none (alg bd : Int) (a : Option Addr) (c : Nat) (w : World) : Calls Try.prog 7 #[.int .i64 alg, .slice a 0 c, .int .i64 bd] w fun e w' => e = .returned (.tuple #[.int .u32 0, .bool false]) ∧ w' = w := by
  go_enter Try.func7, Try.ntmps7
  go_wp2
  go_ret2
  exact ⟨rfl, rfl⟩

set_option maxRecDepth 100000 in
set_option maxHeartbeats 4000000 in
theorem elect_none (alg bd : Int) (a : Option Addr) (c : Nat) (w : World) : Calls Try.prog 6 #[.int .i64 alg, .slice a 0 c, .int .i64 bd] w fun e w' => e = .returned (.tuple #[.int .u32 0, .bool false]) ∧ w' = w := by
  go_enter Try.func6, Try.ntmps6
  go_wp2
  refine wp_loop_rounds 1 ?_
  rw [rounds_succ]
  go_wp2
  go_ret2
  exact ⟨rfl, rfl⟩

set_option maxRecDepth 100000 in
set_option maxHeartbeats 4000000 in
theorem relect_bad (alg bd : Int) (b off n c : Nat) (ip pr : Nat → Int) (w : World) (hn : n ≤ 100) (h : ¬ (0 < n ∧ 0 ≤ alg ∧ alg ≤ 2 ∧ 0 ≤ bd)) :
    Calls Try.prog 7 #[.int .i64 alg, .slice (some ⟨b, off, none⟩) n c, .int .i64 bd] w fun e w' => e = elR alg bd n ip pr ∧ w' = w := by
  have HN : Hid (¬ (Asc ip n ∧ 0 < n ∧ 0 ≤ alg ∧ alg ≤ 2 ∧ 0 ≤ bd)) := fun g => h g.2
  by_cases h0 : 0 < n
  · have hk0 : ((n : Int) == 0) = false := by simp; omega
    by_cases h1 : 0 ≤ alg
    · by_cases h2 : alg ≤ 2
      · have h3 : bd < 0 := by omega
        clear h
        go_enter Try.func7, Try.ntmps7
        go_wp2
        go_ret2
        exact ⟨elR_no HN.out, rfl⟩
      · clear h
        go_enter Try.func7, Try.ntmps7
        go_wp2
        go_ret2
        exact ⟨elR_no HN.out, rfl⟩
    · clear h
      go_enter Try.func7, Try.ntmps7
      go_wp2
      go_ret2
      exact ⟨elR_no HN.out, rfl⟩
  · have hz : n = 0 := by omega
    subst hz
    exact (relect_none alg bd _ c w).mono fun e w' ⟨he, hw⟩ => ⟨he.trans (elR_no HN.out), hw⟩
end Go.Proofs.Ytiellonfgcmaaaa
