/- Copies of lists. -/
import Derived.Test.YtiellonfgcmaaaaGreatWd
namespace Go.Proofs.YtiellonfgcmaaaaGreat
open Go.RowKit Go.ChangeShapes

/-- A slice of n elements of k cells, and what it holds. -/
def Row (w : World) (A : Option Addr) (n c k : Nat) (xs : List Value) : Prop :=
  (n = 0 ∧ xs = []) ∨ ∃ b off, A = some ⟨b, off, none⟩ ∧ b < w.heap.size ∧ n ≤ c ∧ xs.length = n * k ∧ ∀ j u, xs[j]? = some u → w.cell? ⟨b, off + j, none⟩ = some u
theorem Row.below {w w' : World} {A : Option Addr} {n c k : Nat} {xs : List Value} (h : Row w A n c k xs) (hb : Below w.heap.size w w') : Row w' A n c k xs := by
  rcases h with h | ⟨b, off, rfl, h2, h3, h4, h5⟩
  · exact .inl h
  · exact .inr ⟨b, off, rfl, Nat.lt_of_lt_of_le h2 hb.size, h3, h4, fun j u hj => by rw [hb.cell (by exact h2)]; exact h5 j u hj⟩
theorem addr_add' (b off j : Nat) : (⟨b, off, none⟩ : Addr).add j = ⟨b, off + j, none⟩ := by
  unfold Addr.add
  split
  · next h => subst h; rfl
  · rfl

theorem info155w : (Tryz.prog.info? 155).map (fun i => (i.zero, i.size, i.bytes)) = some (some (.agg #[.int .u8 0, .int .u8 0, .int .u8 0, .int .u8 0, .int .u8 0, .int .u8 0, .int .u8 0, .int .u8 0]), 8, 8) := by kernel_rfl
set_option maxRecDepth 100000 in
set_option maxHeartbeats 4000000 in
theorem own_comm_some (b off n c : Nat) (xs : List Value) (w : World) (hn : n ≤ 100) (hb : b < w.heap.size) (hl : xs.length = n * 8) (h1 : ∀ u ∈ xs, u.oneCell' = true)
   (hc : ∀ j u, xs[j]? = some u → w.cell? ⟨b, off + j, none⟩ = some u) :
    Calls Tryz.prog 108 #[.slice (some ⟨b, off, none⟩) n c] w fun e w' => ∃ A c', e = .returned (.slice A n c') ∧ Row w' A n c' 8 xs ∧ (∃ a, A = some a ∧ w.heap.size ≤ a.block) ∧ Below w.heap.size w w' := by
  obtain ⟨i0, hi, hz0, hz1, hz2⟩ := info_parts info155w
  have hw1 : (w.alloc (.cells #[] 155)).ownsRow w.heap.size 155 8 (.slice (some ⟨w.heap.size, 0, none⟩) 0 0) 0 [] := World.ownsRow_lit w #[] 0 (Nat.le_refl _) (Nat.zero_le _) rfl
  have hnews : ∀ j u, xs[j]? = some u → (w.alloc (.cells #[] 155)).cell? ((⟨b, off, none⟩ : Addr).add j) = some u := by
    intro j u hj
    rw [addr_add', World.cell?_alloc_past _ _ _ hb]
    exact hc j u hj
  have hnews' := Lib.hid hnews
  clear hnews hc
  have m1 : 0 + n ≤ maxLen := by unfold maxLen; omega
  have m2 : (0 + n) * 8 ≤ 140737488355328 := by omega
  have m3 : w.heap.size ≤ (w.alloc (.cells #[] 155)).heap.size := by simp
  go_enter Tryz.func108, Tryz.ntmps108
  go_wp2_with (at_builtin; refine wpList_append_own _ rfl (.tmp 3) (.tmp 4) 52 rfl w.heap.size 155 i0 _ 8 8 Tryz.underlying52 hi hz0 hz1 hz2 rfl (by decide) (.slice (some ⟨w.heap.size, 0, none⟩) 0 0) 0 [] rfl hw1 ⟨b, off, none⟩ n c xs rfl hl hnews'.out h1 m1 m2 m3 ?_; intro v' w1 hown hgrow hnil)
  go_ret
  have hown' : w1.ownsRow w.heap.size 155 8 v' n xs := by simpa using hown
  rcases hown'.2 with ⟨rfl, hz⟩ | ⟨g, cap, cur, rfl, hg, hh, hnc, _⟩
  · exact absurd (hnil.1 rfl).1 (by simp)
  · refine ⟨_, cap, rfl, .inr ⟨g, 0, rfl, (hown'.lt g rfl).2, hnc, hl, fun j u hj => ?_⟩, ⟨_, rfl, hg⟩, ?_⟩
    · have hj' : j < xs.length := (List.getElem?_eq_some_iff.1 hj).1
      rw [Nat.zero_add, hown'.cellAt j (by omega)]; exact hj
    · exact ((Below.refl _ _).alloc (Nat.le_refl _) _).grown hgrow m3 (by simp [Value.ownBlock])
theorem own_comm (A : Option Addr) (n c : Nat) (xs : List Value) (w : World) (hn : n ≤ 100) (h : Row w A n c 8 xs) (h1 : ∀ u ∈ xs, u.oneCell' = true) (hA : A = none → n = 0 ∧ c = 0) :
    Calls Tryz.prog 108 #[.slice A n c] w fun e w' => ∃ A' c', e = .returned (.slice A' n c') ∧ Row w' A' n c' 8 xs ∧ (∃ a, A' = some a ∧ w.heap.size ≤ a.block) ∧ Below w.heap.size w w' := by
  rcases h with ⟨rfl, rfl⟩ | ⟨b, off, rfl, h2, h3, h4, h5⟩
  · rcases A with _ | a
    · obtain ⟨_, rfl⟩ := hA rfl
      go_enter Tryz.func108, Tryz.ntmps108
      go_wp2
      go_ret
      exact ⟨_, _, rfl, .inl ⟨rfl, rfl⟩, ⟨_, rfl, Nat.le_refl _⟩, (Below.refl _ _).alloc (Nat.le_refl _) _⟩
    · go_enter Tryz.func108, Tryz.ntmps108
      go_wp2
      go_ret
      exact ⟨_, _, rfl, .inl ⟨rfl, rfl⟩, ⟨_, rfl, Nat.le_refl _⟩, (Below.refl _ _).alloc (Nat.le_refl _) _⟩
  · exact own_comm_some b off n c xs w hn h2 h4 h1 h5

theorem info32w : (Tryz.prog.info? 32).map (fun i => (i.zero, i.size, i.bytes)) = some (some (.int .u32 0), 1, 4) := by kernel_rfl
set_option maxRecDepth 100000 in
set_option maxHeartbeats 4000000 in
theorem own_u32_some (b off n c : Nat) (xs : List Value) (w : World) (hn : n ≤ 100) (hb : b < w.heap.size) (hl : xs.length = n * 1) (h1 : ∀ u ∈ xs, u.oneCell' = true)
   (hc : ∀ j u, xs[j]? = some u → w.cell? ⟨b, off + j, none⟩ = some u) :
    Calls Tryz.prog 106 #[.slice (some ⟨b, off, none⟩) n c] w fun e w' => ∃ A c', e = .returned (.slice A n c') ∧ Row w' A n c' 1 xs ∧ (∃ a, A = some a ∧ w.heap.size ≤ a.block) ∧ Below w.heap.size w w' := by
  obtain ⟨i0, hi, hz0, hz1, hz2⟩ := info_parts info32w
  have hw1 : (w.alloc (.cells #[] 32)).ownsRow w.heap.size 32 1 (.slice (some ⟨w.heap.size, 0, none⟩) 0 0) 0 [] := World.ownsRow_lit w #[] 0 (Nat.le_refl _) (Nat.zero_le _) rfl
  have hnews : ∀ j u, xs[j]? = some u → (w.alloc (.cells #[] 32)).cell? ((⟨b, off, none⟩ : Addr).add j) = some u := by
    intro j u hj
    rw [addr_add', World.cell?_alloc_past _ _ _ hb]
    exact hc j u hj
  have hnews' := Lib.hid hnews
  clear hnews hc
  have m1 : 0 + n ≤ maxLen := by unfold maxLen; omega
  have m2 : (0 + n) * 4 ≤ 140737488355328 := by omega
  have m3 : w.heap.size ≤ (w.alloc (.cells #[] 32)).heap.size := by simp
  go_enter Tryz.func106, Tryz.ntmps106
  go_wp2_with (at_builtin; refine wpList_append_own _ rfl (.tmp 3) (.tmp 4) 51 rfl w.heap.size 32 i0 _ 1 4 Tryz.underlying51 hi hz0 hz1 hz2 rfl (by decide) (.slice (some ⟨w.heap.size, 0, none⟩) 0 0) 0 [] rfl hw1 ⟨b, off, none⟩ n c xs rfl hl hnews'.out h1 m1 m2 m3 ?_; intro v' w1 hown hgrow hnil)
  go_ret
  have hown' : w1.ownsRow w.heap.size 32 1 v' n xs := by simpa using hown
  rcases hown'.2 with ⟨rfl, hz⟩ | ⟨g, cap, cur, rfl, hg, hh, hnc, _⟩
  · exact absurd (hnil.1 rfl).1 (by simp)
  · refine ⟨_, cap, rfl, .inr ⟨g, 0, rfl, (hown'.lt g rfl).2, hnc, hl, fun j u hj => ?_⟩, ⟨_, rfl, hg⟩, ?_⟩
    · have hj' : j < xs.length := (List.getElem?_eq_some_iff.1 hj).1
      rw [Nat.zero_add, hown'.cellAt j (by omega)]; exact hj
    · exact ((Below.refl _ _).alloc (Nat.le_refl _) _).grown hgrow m3 (by simp [Value.ownBlock])
theorem own_u32 (A : Option Addr) (n c : Nat) (xs : List Value) (w : World) (hn : n ≤ 100) (h : Row w A n c 1 xs) (h1 : ∀ u ∈ xs, u.oneCell' = true) (hA : A = none → n = 0 ∧ c = 0) :
    Calls Tryz.prog 106 #[.slice A n c] w fun e w' => ∃ A' c', e = .returned (.slice A' n c') ∧ Row w' A' n c' 1 xs ∧ (∃ a, A' = some a ∧ w.heap.size ≤ a.block) ∧ Below w.heap.size w w' := by
  rcases h with ⟨rfl, rfl⟩ | ⟨b, off, rfl, h2, h3, h4, h5⟩
  · rcases A with _ | a
    · obtain ⟨_, rfl⟩ := hA rfl
      go_enter Tryz.func106, Tryz.ntmps106
      go_wp2
      go_ret
      exact ⟨_, _, rfl, .inl ⟨rfl, rfl⟩, ⟨_, rfl, Nat.le_refl _⟩, (Below.refl _ _).alloc (Nat.le_refl _) _⟩
    · go_enter Tryz.func106, Tryz.ntmps106
      go_wp2
      go_ret
      exact ⟨_, _, rfl, .inl ⟨rfl, rfl⟩, ⟨_, rfl, Nat.le_refl _⟩, (Below.refl _ _).alloc (Nat.le_refl _) _⟩
  · exact own_u32_some b off n c xs w hn h2 h4 h1 h5

theorem info33w : (Tryz.prog.info? 33).map (fun i => (i.zero, i.size, i.bytes)) = some (some (.int .u32 0), 1, 4) := by kernel_rfl
set_option maxRecDepth 100000 in
set_option maxHeartbeats 4000000 in
theorem own_ip_some (b off n c : Nat) (xs : List Value) (w : World) (hn : n ≤ 100) (hb : b < w.heap.size) (hl : xs.length = n * 1) (h1 : ∀ u ∈ xs, u.oneCell' = true)
   (hc : ∀ j u, xs[j]? = some u → w.cell? ⟨b, off + j, none⟩ = some u) :
    Calls Tryz.prog 107 #[.slice (some ⟨b, off, none⟩) n c] w fun e w' => ∃ A c', e = .returned (.slice A n c') ∧ Row w' A n c' 1 xs ∧ (∃ a, A = some a ∧ w.heap.size ≤ a.block) ∧ Below w.heap.size w w' := by
  obtain ⟨i0, hi, hz0, hz1, hz2⟩ := info_parts info33w
  have hw1 : (w.alloc (.cells #[] 33)).ownsRow w.heap.size 33 1 (.slice (some ⟨w.heap.size, 0, none⟩) 0 0) 0 [] := World.ownsRow_lit w #[] 0 (Nat.le_refl _) (Nat.zero_le _) rfl
  have hnews : ∀ j u, xs[j]? = some u → (w.alloc (.cells #[] 33)).cell? ((⟨b, off, none⟩ : Addr).add j) = some u := by
    intro j u hj
    rw [addr_add', World.cell?_alloc_past _ _ _ hb]
    exact hc j u hj
  have hnews' := Lib.hid hnews
  clear hnews hc
  have m1 : 0 + n ≤ maxLen := by unfold maxLen; omega
  have m2 : (0 + n) * 4 ≤ 140737488355328 := by omega
  have m3 : w.heap.size ≤ (w.alloc (.cells #[] 33)).heap.size := by simp
  go_enter Tryz.func107, Tryz.ntmps107
  go_wp2_with (at_builtin; refine wpList_append_own _ rfl (.tmp 3) (.tmp 4) 37 rfl w.heap.size 33 i0 _ 1 4 Tryz.underlying37 hi hz0 hz1 hz2 rfl (by decide) (.slice (some ⟨w.heap.size, 0, none⟩) 0 0) 0 [] rfl hw1 ⟨b, off, none⟩ n c xs rfl hl hnews'.out h1 m1 m2 m3 ?_; intro v' w1 hown hgrow hnil)
  go_ret
  have hown' : w1.ownsRow w.heap.size 33 1 v' n xs := by simpa using hown
  rcases hown'.2 with ⟨rfl, hz⟩ | ⟨g, cap, cur, rfl, hg, hh, hnc, _⟩
  · exact absurd (hnil.1 rfl).1 (by simp)
  · refine ⟨_, cap, rfl, .inr ⟨g, 0, rfl, (hown'.lt g rfl).2, hnc, hl, fun j u hj => ?_⟩, ⟨_, rfl, hg⟩, ?_⟩
    · have hj' : j < xs.length := (List.getElem?_eq_some_iff.1 hj).1
      rw [Nat.zero_add, hown'.cellAt j (by omega)]; exact hj
    · exact ((Below.refl _ _).alloc (Nat.le_refl _) _).grown hgrow m3 (by simp [Value.ownBlock])
theorem own_ip (A : Option Addr) (n c : Nat) (xs : List Value) (w : World) (hn : n ≤ 100) (h : Row w A n c 1 xs) (h1 : ∀ u ∈ xs, u.oneCell' = true) (hA : A = none → n = 0 ∧ c = 0) :
    Calls Tryz.prog 107 #[.slice A n c] w fun e w' => ∃ A' c', e = .returned (.slice A' n c') ∧ Row w' A' n c' 1 xs ∧ (∃ a, A' = some a ∧ w.heap.size ≤ a.block) ∧ Below w.heap.size w w' := by
  rcases h with ⟨rfl, rfl⟩ | ⟨b, off, rfl, h2, h3, h4, h5⟩
  · rcases A with _ | a
    · obtain ⟨_, rfl⟩ := hA rfl
      go_enter Tryz.func107, Tryz.ntmps107
      go_wp2
      go_ret
      exact ⟨_, _, rfl, .inl ⟨rfl, rfl⟩, ⟨_, rfl, Nat.le_refl _⟩, (Below.refl _ _).alloc (Nat.le_refl _) _⟩
    · go_enter Tryz.func107, Tryz.ntmps107
      go_wp2
      go_ret
      exact ⟨_, _, rfl, .inl ⟨rfl, rfl⟩, ⟨_, rfl, Nat.le_refl _⟩, (Below.refl _ _).alloc (Nat.le_refl _) _⟩
  · exact own_ip_some b off n c xs w hn h2 h4 h1 h5
end Go.Proofs.YtiellonfgcmaaaaGreat

/- Comparisons of lists. -/
namespace Go.Proofs.YtiellonfgcmaaaaGreat
open Go.RowKit Go.ChangeShapes

/-- '==' of an array with its like: each element with itself. -/
theorem equal_array {P : Program} (d : Nat) (t elem : TypeId) (len n : Nat) (xs : Array Value) (v : Nat → Value) (ht : P.underlying t = some (.array len elem))
    (hs : ∀ w, (Go.sizeOf elem).run P w = .ok n w) (hp : ∀ i, i < len → ∀ w, (part elem xs (i * n)).run P w = .ok (v i) w) (he : ∀ i, i < len → ∀ w, (Op.equalIn d elem (v i) (v i)).run P w = .ok true w) (w : World) :
    (Op.equalIn (d + 1) t (.agg xs) (.agg xs)).run P w = .ok true w := by
  simp only [Op.equalIn, Sem.run_bind, run_underlying ht, Result.andThen_ok, hs]
  rw [Std.Legacy.Range.forIn_eq_forIn_range']
  simp only [Std.Legacy.Range.size, Nat.sub_zero, Nat.add_sub_cancel, Nat.div_one]
  have key : ∀ (l : List Nat), (∀ i ∈ l, i < len) → ∀ w, (forIn l (none, ()) (fun i (r : Option Bool × Unit) => (do
      if !(← Op.equalIn d elem (← part elem xs (i * n)) (← part elem xs (i * n))) then return ForInStep.done (some false, ()) else return ForInStep.yield (none, ()) : Sem (ForInStep (Option Bool × Unit))))).run P w = .ok (none, ()) w := by
    intro l
    induction l with
    | nil => intro _ w; simp
    | cons i l ih =>
      intro h w
      have hi := h i (by simp)
      simp only [List.forIn_cons, Sem.run_bind, hp i hi, he i hi, Result.andThen_ok, Bool.not_true, Bool.false_eq_true, if_false, Sem.run_pure]
      exact ih (fun j hj => h j (by simp [hj])) w
  rw [key (List.range' 0 len) (fun i hi => by have := List.mem_range'_1.1 hi; omega) w]
  rfl

set_option maxRecDepth 100000 in
/-- '==' of two equal communities. -/
theorem eq_comm8 (f : Nat → Int) (w : World) : (Op.equalIn 10000 155 (.agg #[.int .u8 (f 0), .int .u8 (f 1), .int .u8 (f 2), .int .u8 (f 3), .int .u8 (f 4), .int .u8 (f 5), .int .u8 (f 6), .int .u8 (f 7)]) (.agg #[.int .u8 (f 0), .int .u8 (f 1), .int .u8 (f 2), .int .u8 (f 3), .int .u8 (f 4), .int .u8 (f 5), .int .u8 (f 6), .int .u8 (f 7)])).run Tryz.prog w = .ok true w := by
  refine equal_array (P := Tryz.prog) 9999 155 5 8 1 _ (fun i => .int .u8 (f i)) Tryz.underlying155 (fun w => Tryz.sizeOf5 w) ?_ ?_ w
  · intro i hi w
    match i, hi with
    | 0, _ => rfl
    | 1, _ => rfl
    | 2, _ => rfl
    | 3, _ => rfl
    | 4, _ => rfl
    | 5, _ => rfl
    | 6, _ => rfl
    | 7, _ => rfl
  · intro i hi w
    rw [run_equalIn_int _ _ _ _ _ _ _ Tryz.underlying5]
    simp

set_option maxRecDepth 100000 in
set_option maxHeartbeats 4000000 in
theorem same_u32 (A A' : Option Addr) (n c c' : Nat) (xs : List Value) (f : Nat → Int) (ht : ∀ i, i < n → xs[i]? = some (.int .u32 (f i))) (w : World) (hn : n ≤ 100) (h : Row w A n c 1 xs) (h' : Row w A' n c' 1 xs) :
    Calls Tryz.prog 134 #[.slice A n c, .slice A' n c'] w fun e w' => e = .returned (.bool true) ∧ Below w.heap.size w w' := by
  rcases h with ⟨rfl, rfl⟩ | ⟨b, off, rfl, h2, h3, h4, h5⟩
  · go_enter Tryz.func134, Tryz.ntmps134
    go_wp2
    refine wp_loop_rounds 1 ?_
    rw [rounds_succ]
    go_wp2
    go_ret
    exact ⟨rfl, Below.refl _ _⟩
  · rcases h' with ⟨rfl, rfl⟩ | ⟨b2, off2, rfl, k2, k3, k4, k5⟩
    · go_enter Tryz.func134, Tryz.ntmps134
      go_wp2
      refine wp_loop_rounds 1 ?_
      rw [rounds_succ]
      go_wp2
      go_ret
      exact ⟨rfl, Below.refl _ _⟩
    · go_enter Tryz.func134, Tryz.ntmps134
      go_wp2
      go_loopw [5] (fun i wr => ∃ k m : Nat, k ≤ n ∧ i = .int .i64 k ∧ wr = w.drewN m) (fun i _ => n - (intOf i).toNat)
      case atStart => exact ⟨0, 0, Nat.zero_le _, rfl, rfl⟩
      case round =>
        obtain ⟨k, m, hk, rfl, rfl⟩ := hrel
        by_cases hlt : k < n
        · have g0 : w.cell? ⟨b, off + k, none⟩ = some (.int .u32 (f k)) := h5 k _ (ht k hlt)
          have g1 : w.cell? ⟨b2, off2 + k, none⟩ = some (.int .u32 (f k)) := k5 k _ (ht k hlt)
          skip
          clear h5 k5 ht h4 k4
          go_wp2
          go_quiet (fail)
          go_wp2
          go_roundw
          case rel => exact ⟨k + 1, _, by omega, by go_num, rfl⟩
          case measure => simp [intOf]; omega
        · go_wp2
          go_ret
          exact ⟨rfl, drewN_below _ _⟩

set_option maxRecDepth 100000 in
set_option maxHeartbeats 4000000 in
theorem same_ip (A A' : Option Addr) (n c c' : Nat) (xs : List Value) (f : Nat → Int) (ht : ∀ i, i < n → xs[i]? = some (.int .u32 (f i))) (w : World) (hn : n ≤ 100) (h : Row w A n c 1 xs) (h' : Row w A' n c' 1 xs) :
    Calls Tryz.prog 15 #[.slice A n c, .slice A' n c'] w fun e w' => e = .returned (.bool true) ∧ Below w.heap.size w w' := by
  rcases h with ⟨rfl, rfl⟩ | ⟨b, off, rfl, h2, h3, h4, h5⟩
  · go_enter Tryz.func15, Tryz.ntmps15
    go_wp2
    refine wp_loop_rounds 1 ?_
    rw [rounds_succ]
    go_wp2
    go_ret
    exact ⟨rfl, Below.refl _ _⟩
  · rcases h' with ⟨rfl, rfl⟩ | ⟨b2, off2, rfl, k2, k3, k4, k5⟩
    · go_enter Tryz.func15, Tryz.ntmps15
      go_wp2
      refine wp_loop_rounds 1 ?_
      rw [rounds_succ]
      go_wp2
      go_ret
      exact ⟨rfl, Below.refl _ _⟩
    · go_enter Tryz.func15, Tryz.ntmps15
      go_wp2
      go_loopw [5] (fun i wr => ∃ k m : Nat, k ≤ n ∧ i = .int .i64 k ∧ wr = w.drewN m) (fun i _ => n - (intOf i).toNat)
      case atStart => exact ⟨0, 0, Nat.zero_le _, rfl, rfl⟩
      case round =>
        obtain ⟨k, m, hk, rfl, rfl⟩ := hrel
        by_cases hlt : k < n
        · have g0 : w.cell? ⟨b, off + k, none⟩ = some (.int .u32 (f k)) := h5 k _ (ht k hlt)
          have g1 : w.cell? ⟨b2, off2 + k, none⟩ = some (.int .u32 (f k)) := k5 k _ (ht k hlt)
          skip
          clear h5 k5 ht h4 k4
          go_wp2
          go_quiet (fail)
          go_wp2
          go_roundw
          case rel => exact ⟨k + 1, _, by omega, by go_num, rfl⟩
          case measure => simp [intOf]; omega
        · go_wp2
          go_ret
          exact ⟨rfl, drewN_below _ _⟩

set_option maxRecDepth 100000 in
set_option maxHeartbeats 4000000 in
theorem same_comm (A A' : Option Addr) (n c c' : Nat) (xs : List Value) (f : Nat → Nat → Int) (ht : ∀ i, i < n → ∀ j, j < 8 → xs[i * 8 + j]? = some (.int .u8 (f i j))) (w : World) (hn : n ≤ 100) (h : Row w A n c 8 xs) (h' : Row w A' n c' 8 xs) :
    Calls Tryz.prog 135 #[.slice A n c, .slice A' n c'] w fun e w' => e = .returned (.bool true) ∧ Below w.heap.size w w' := by
  rcases h with ⟨rfl, rfl⟩ | ⟨b, off, rfl, h2, h3, h4, h5⟩
  · go_enter Tryz.func135, Tryz.ntmps135
    go_wp2
    refine wp_loop_rounds 1 ?_
    rw [rounds_succ]
    go_wp2
    go_ret
    exact ⟨rfl, Below.refl _ _⟩
  · rcases h' with ⟨rfl, rfl⟩ | ⟨b2, off2, rfl, k2, k3, k4, k5⟩
    · go_enter Tryz.func135, Tryz.ntmps135
      go_wp2
      refine wp_loop_rounds 1 ?_
      rw [rounds_succ]
      go_wp2
      go_ret
      exact ⟨rfl, Below.refl _ _⟩
    · go_enter Tryz.func135, Tryz.ntmps135
      go_wp2
      go_loopw [5] (fun i wr => ∃ k m : Nat, k ≤ n ∧ i = .int .i64 k ∧ wr = w.drewN m) (fun i _ => n - (intOf i).toNat)
      case atStart => exact ⟨0, 0, Nat.zero_le _, rfl, rfl⟩
      case round =>
        obtain ⟨k, m, hk, rfl, rfl⟩ := hrel
        by_cases hlt : k < n
        · have g0 : w.cell? ⟨b, off + k * 8, none⟩ = some (.int .u8 (f k 0)) := h5 (k * 8 + 0) _ (ht k hlt 0 (by decide))
          have e0 : w.cell? ⟨b2, off2 + k * 8, none⟩ = some (.int .u8 (f k 0)) := k5 (k * 8 + 0) _ (ht k hlt 0 (by decide))
          have g1 : w.cell? ⟨b, off + k * 8 + 1, none⟩ = some (.int .u8 (f k 1)) := h5 (k * 8 + 1) _ (ht k hlt 1 (by decide))
          have e1 : w.cell? ⟨b2, off2 + k * 8 + 1, none⟩ = some (.int .u8 (f k 1)) := k5 (k * 8 + 1) _ (ht k hlt 1 (by decide))
          have g2 : w.cell? ⟨b, off + k * 8 + 2, none⟩ = some (.int .u8 (f k 2)) := h5 (k * 8 + 2) _ (ht k hlt 2 (by decide))
          have e2 : w.cell? ⟨b2, off2 + k * 8 + 2, none⟩ = some (.int .u8 (f k 2)) := k5 (k * 8 + 2) _ (ht k hlt 2 (by decide))
          have g3 : w.cell? ⟨b, off + k * 8 + 3, none⟩ = some (.int .u8 (f k 3)) := h5 (k * 8 + 3) _ (ht k hlt 3 (by decide))
          have e3 : w.cell? ⟨b2, off2 + k * 8 + 3, none⟩ = some (.int .u8 (f k 3)) := k5 (k * 8 + 3) _ (ht k hlt 3 (by decide))
          have g4 : w.cell? ⟨b, off + k * 8 + 4, none⟩ = some (.int .u8 (f k 4)) := h5 (k * 8 + 4) _ (ht k hlt 4 (by decide))
          have e4 : w.cell? ⟨b2, off2 + k * 8 + 4, none⟩ = some (.int .u8 (f k 4)) := k5 (k * 8 + 4) _ (ht k hlt 4 (by decide))
          have g5 : w.cell? ⟨b, off + k * 8 + 5, none⟩ = some (.int .u8 (f k 5)) := h5 (k * 8 + 5) _ (ht k hlt 5 (by decide))
          have e5 : w.cell? ⟨b2, off2 + k * 8 + 5, none⟩ = some (.int .u8 (f k 5)) := k5 (k * 8 + 5) _ (ht k hlt 5 (by decide))
          have g6 : w.cell? ⟨b, off + k * 8 + 6, none⟩ = some (.int .u8 (f k 6)) := h5 (k * 8 + 6) _ (ht k hlt 6 (by decide))
          have e6 : w.cell? ⟨b2, off2 + k * 8 + 6, none⟩ = some (.int .u8 (f k 6)) := k5 (k * 8 + 6) _ (ht k hlt 6 (by decide))
          have g7 : w.cell? ⟨b, off + k * 8 + 7, none⟩ = some (.int .u8 (f k 7)) := h5 (k * 8 + 7) _ (ht k hlt 7 (by decide))
          have e7 : w.cell? ⟨b2, off2 + k * 8 + 7, none⟩ = some (.int .u8 (f k 7)) := k5 (k * 8 + 7) _ (ht k hlt 7 (by decide))
          have EQ := eq_comm8 (f k)
          clear h5 k5 ht h4 k4
          go_wp2
          go_quiet (fail)
          go_wp2
          go_roundw
          case rel => exact ⟨k + 1, _, by omega, by go_num, rfl⟩
          case measure => simp [intOf]; omega
        · go_wp2
          go_ret
          exact ⟨rfl, drewN_below _ _⟩
end Go.Proofs.YtiellonfgcmaaaaGreat

/- Too many routes. -/
namespace Go.Proofs.YtiellonfgcmaaaaGreat
open Go.RowKit Go.ChangeShapes

def manyB (n : Nat) (pl cl ml : Nat → Nat) : Bool := decide (60 < n) || (List.range n).any fun i => decide (20 < pl i) || decide (20 < cl i) || decide (20 < ml i)
theorem manyB_yes {n k : Nat} {pl cl ml : Nat → Nat} (hk : k < n) (h : 20 < pl k ∨ 20 < cl k ∨ 20 < ml k) : manyB n pl cl ml = true := by
  unfold manyB
  rw [Bool.or_eq_true]
  refine .inr (List.any_eq_true.2 ⟨k, by simpa using hk, ?_⟩)
  rcases h with h | h | h <;> simp [h]
theorem manyB_no {n : Nat} {pl cl ml : Nat → Nat} (hn : n ≤ 60) (h : ∀ i, i < n → pl i ≤ 20 ∧ cl i ≤ 20 ∧ ml i ≤ 20) : manyB n pl cl ml = false := by
  unfold manyB
  rw [Bool.or_eq_false_iff]
  refine ⟨by simp; omega, List.any_eq_false.2 fun i hi => ?_⟩
  have := h i (by simpa using hi)
  simp; omega
theorem manyB_long {n : Nat} {pl cl ml : Nat → Nat} (hn : 60 < n) : manyB n pl cl ml = true := by
  unfold manyB; simp [hn]
theorem manyB_of {n : Nat} {pl cl ml : Nat → Nat} (h : manyB n pl cl ml = false) : n ≤ 60 ∧ ∀ i, i < n → pl i ≤ 20 ∧ cl i ≤ 20 ∧ ml i ≤ 20 := by
  constructor
  · rcases Nat.lt_or_ge 60 n with h' | h'
    · rw [manyB_long h'] at h; cases h
    · exact h'
  · intro i hi
    refine ⟨?_, ?_, ?_⟩
    · rcases Nat.lt_or_ge 20 (pl i) with h' | h'
      · rw [manyB_yes hi (.inl h')] at h; cases h
      · exact h'
    · rcases Nat.lt_or_ge 20 (cl i) with h' | h'
      · rw [manyB_yes hi (.inr (.inl h'))] at h; cases h
      · exact h'
    · rcases Nat.lt_or_ge 20 (ml i) with h' | h'
      · rw [manyB_yes hi (.inr (.inr h'))] at h; cases h
      · exact h'

theorem many_long (A : Option Addr) (n c : Nat) (pl cl ml : Nat → Nat) (hn : 60 < n) (w : World) : Calls Tryz.prog 9 #[.slice A n c] w fun e w' => e = .returned (.bool (manyB n pl cl ml)) ∧ w' = w := by
  rw [manyB_long hn]
  go_enter Tryz.func9, Tryz.ntmps9
  go_wp2
  go_ret
  exact ⟨rfl, rfl⟩
theorem many_none (A : Option Addr) (c : Nat) (pl cl ml : Nat → Nat) (w : World) : Calls Tryz.prog 9 #[.slice A 0 c] w fun e w' => e = .returned (.bool (manyB 0 pl cl ml)) ∧ w' = w := by
  rw [manyB_no (by omega) (fun i hi => by omega)]
  go_enter Tryz.func9, Tryz.ntmps9
  go_wp2
  refine wp_loop_rounds 1 ?_
  rw [rounds_succ]
  go_wp2
  go_ret
  exact ⟨rfl, rfl⟩
set_option maxRecDepth 100000 in
set_option maxHeartbeats 4000000 in
theorem many_some (b off n c : Nat) (pa ca ma : Nat → Option Addr) (pl cl ml pc cc mc : Nat → Nat) (hn : n ≤ 60) (w : World)
    (hP : ∀ i, i < n → w.cell? ⟨b, off + i * 38 + 22, none⟩ = some (.slice (pa i) (pl i) (pc i))) (hC : ∀ i, i < n → w.cell? ⟨b, off + i * 38 + 30, none⟩ = some (.slice (ca i) (cl i) (cc i)))
    (hM : ∀ i, i < n → w.cell? ⟨b, off + i * 38 + 31, none⟩ = some (.slice (ma i) (ml i) (mc i))) :
    Calls Tryz.prog 9 #[.slice (some ⟨b, off, none⟩) n c] w fun e w' => e = .returned (.bool (manyB n pl cl ml)) ∧ w' = w := by
  have KP := Lib.hid hP
  have KC := Lib.hid hC
  have KM := Lib.hid hM
  clear hP hC hM
  go_enter Tryz.func9, Tryz.ntmps9
  go_wp2
  go_loopw [3] (fun i wr => ∃ k : Nat, k ≤ n ∧ i = .int .i64 k ∧ wr = w ∧ Hid (∀ i, i < k → pl i ≤ 20 ∧ cl i ≤ 20 ∧ ml i ≤ 20)) (fun i _ => n - (intOf i).toNat)
  case atStart => exact ⟨0, Nat.zero_le _, rfl, rfl, fun i hi => by omega⟩
  case round =>
    obtain ⟨k, hk, rfl, rfl, hall⟩ := hrel
    by_cases hlt : k < n
    · have c1 := KP.out k hlt
      have c2 := KC.out k hlt
      have c3 := KM.out k hlt
      obtain ⟨x, hx⟩ : ∃ x, pl k = x := ⟨_, rfl⟩
      obtain ⟨y, hy⟩ : ∃ y, cl k = y := ⟨_, rfl⟩
      obtain ⟨z, hz⟩ : ∃ z, ml k = z := ⟨_, rfl⟩
      rw [hx] at c1; rw [hy] at c2; rw [hz] at c3
      have X : Hid (pl k = x) := hx
      have Y : Hid (cl k = y) := hy
      have Z : Hid (ml k = z) := hz
      clear hx hy hz
      by_cases a1 : 20 < x
      · go_wp2
        go_ret
        exact ⟨by rw [manyB_yes hlt (.inl (by rw [X.out]; exact a1))]; rfl, rfl⟩
      · by_cases a2 : 20 < y
        · go_wp2
          go_ret
          exact ⟨by rw [manyB_yes hlt (.inr (.inl (by rw [Y.out]; exact a2)))]; rfl, rfl⟩
        · by_cases a3 : 20 < z
          · go_wp2
            go_ret
            exact ⟨by rw [manyB_yes hlt (.inr (.inr (by rw [Z.out]; exact a3)))]; rfl, rfl⟩
          · go_wp2
            go_roundw
            case rel =>
              refine ⟨k + 1, by omega, by go_num, by first | rfl | trivial, fun i hi => ?_⟩
              rcases Nat.lt_or_ge i k with h | h
              · exact hall.out i h
              · obtain rfl : i = k := by omega
                rw [X.out, Y.out, Z.out]; omega
            case measure => simp [intOf]; omega
    · go_wp2
      go_ret
      obtain rfl : k = n := by omega
      exact ⟨by rw [manyB_no hn hall.out]; rfl, rfl⟩
end Go.Proofs.YtiellonfgcmaaaaGreat

/- The communities: the reference's number. -/
namespace Go.Proofs.YtiellonfgcmaaaaGreat
open Go.RowKit Go.ChangeShapes

/-- A community's eight cells. -/
def commV (f : Nat → Int) : Value := .agg #[.int .u8 (f 0), .int .u8 (f 1), .int .u8 (f 2), .int .u8 (f 3), .int .u8 (f 4), .int .u8 (f 5), .int .u8 (f 6), .int .u8 (f 7)]
/-- The number in its last six bytes. -/
def num6 (f : Nat → Int) : Int := ((((f 2 * 256 + f 3) * 256 + f 4) * 256 + f 5) * 256 + f 6) * 256 + f 7
set_option maxRecDepth 100000 in
set_option maxHeartbeats 4000000 in
theorem number_any (f : Nat → Int) (hf : ∀ j, 0 ≤ f j ∧ f j ≤ 255) (w : World) : Calls Tryz.prog 124 #[commV f] w fun e w' => e = .returned (.int .u64 (num6 f)) ∧ Below w.heap.size w w' := by
  have h2 := hf 2; have h3 := hf 3; have h4 := hf 4; have h5 := hf 5; have h6 := hf 6; have h7 := hf 7
  obtain ⟨x2, e2⟩ : ∃ x, f 2 = x := ⟨_, rfl⟩
  obtain ⟨x3, e3⟩ : ∃ x, f 3 = x := ⟨_, rfl⟩
  obtain ⟨x4, e4⟩ : ∃ x, f 4 = x := ⟨_, rfl⟩
  obtain ⟨x5, e5⟩ : ∃ x, f 5 = x := ⟨_, rfl⟩
  obtain ⟨x6, e6⟩ : ∃ x, f 6 = x := ⟨_, rfl⟩
  obtain ⟨x7, e7⟩ : ∃ x, f 7 = x := ⟨_, rfl⟩
  unfold commV num6
  rw [e2] at h2; rw [e3] at h3; rw [e4] at h4; rw [e5] at h5; rw [e6] at h6; rw [e7] at h7
  rw [e2, e3, e4, e5, e6, e7]
  clear e2 e3 e4 e5 e6 e7 hf
  obtain ⟨h2a, h2b⟩ := h2; obtain ⟨h3a, h3b⟩ := h3; obtain ⟨h4a, h4b⟩ := h4; obtain ⟨h5a, h5b⟩ := h5; obtain ⟨h6a, h6b⟩ := h6; obtain ⟨h7a, h7b⟩ := h7
  go_enter Tryz.func124, Tryz.ntmps124
  go_wp2
  refine wp_loop_rounds 7 ?_
  rw [rounds_succ]
  go_wp2
  rw [rounds_succ]
  go_wp2
  rw [rounds_succ]
  go_wp2
  rw [rounds_succ]
  go_wp2
  rw [rounds_succ]
  go_wp2
  rw [rounds_succ]
  go_wp2
  rw [rounds_succ]
  go_wp2
  go_ret
  refine ⟨?_, (Below.refl _ _).alloc (Nat.le_refl _) _⟩
  show Ending.returned (.int .u64 _) = _
  congr 2
end Go.Proofs.YtiellonfgcmaaaaGreat

/- The communities: the reference's kind. -/
namespace Go.Proofs.YtiellonfgcmaaaaGreat
open Go.RowKit Go.ChangeShapes

def ka : Nat → Int | 0 => 0 | 1 => 3 | _ => 6
def kb : Nat → Int | 0 => 2 | 1 => 12 | 2 => 0 | 3 => 1 | 4 => 2 | 5 => 3 | _ => 6
theorem k66 (k : Nat) (hk : k < 7) : (ka k = 6 ∧ kb k = 6) ↔ k = 6 := by
  rcases (show k = 0 ∨ k = 1 ∨ k = 2 ∨ k = 3 ∨ k = 4 ∨ k = 5 ∨ k = 6 by omega) with rfl | rfl | rfl | rfl | rfl | rfl | rfl <;> decide
set_option maxRecDepth 100000 in
set_option maxHeartbeats 8000000 in
theorem rkind_any (f : Nat → Int) (w : World) : Calls Tryz.prog 123 #[commV f] w fun e w' => (∃ r : Int, e = .returned (.int .i64 r) ∧ (r = 7 ↔ f 0 = 6 ∧ f 1 = 6)) ∧ Below w.heap.size w w' := by
  obtain ⟨x, ex⟩ : ∃ x, f 0 = x := ⟨_, rfl⟩
  obtain ⟨y, ey⟩ : ∃ y, f 1 = y := ⟨_, rfl⟩
  unfold commV
  rw [ex, ey]
  clear ex ey
  obtain ⟨W, hW⟩ : ∃ W, W = (w.alloc (.cells #[.int .u8 x, .int .u8 y, .int .u8 (f 2), .int .u8 (f 3), .int .u8 (f 4), .int .u8 (f 5), .int .u8 (f 6), .int .u8 (f 7)] 155)).alloc (.cells #[.int .u8 0, .int .u8 2, .int .u8 3, .int .u8 12, .int .u8 6, .int .u8 0, .int .u8 6, .int .u8 1, .int .u8 6, .int .u8 2, .int .u8 6, .int .u8 3, .int .u8 6, .int .u8 6] 223) := ⟨_, rfl⟩
  have c0 : W.cell? ⟨w.heap.size, 0, none⟩ = some (.int .u8 x) := by rw [hW]; simp
  have c1 : W.cell? ⟨w.heap.size, 1, none⟩ = some (.int .u8 y) := by rw [hW]; simp
  have ct : ∀ k, k < 7 → W.cell? ⟨w.heap.size + 1, k * 2, none⟩ = some (.int .u8 (ka k)) := fun k hk => by
    rw [hW]
    rcases (show k = 0 ∨ k = 1 ∨ k = 2 ∨ k = 3 ∨ k = 4 ∨ k = 5 ∨ k = 6 by omega) with rfl | rfl | rfl | rfl | rfl | rfl | rfl <;> simp [ka]
  have cu : ∀ k, k < 7 → W.cell? ⟨w.heap.size + 1, k * 2 + 1, none⟩ = some (.int .u8 (kb k)) := fun k hk => by
    rw [hW]
    rcases (show k = 0 ∨ k = 1 ∨ k = 2 ∨ k = 3 ∨ k = 4 ∨ k = 5 ∨ k = 6 by omega) with rfl | rfl | rfl | rfl | rfl | rfl | rfl <;> simp [kb]
  have hB : Below w.heap.size w W := by rw [hW]; exact ((Below.refl _ _).alloc (Nat.le_refl _) _).alloc (by simp) _
  have CT := Lib.hid ct
  have CU := Lib.hid cu
  have HB := Lib.hid hB
  have HW := Lib.hid hW
  clear ct cu hB hW
  go_enter Tryz.func123, Tryz.ntmps123
  go_wp2
  rw [← HW.out]
  go_loopw [4] (fun i wr => ∃ k m : Nat, k ≤ 7 ∧ i = .int .i64 k ∧ wr = W.drewN m ∧ Hid (∀ j, j < k → ¬ (x = ka j ∧ y = kb j))) (fun i _ => 7 - (intOf i).toNat)
  case atStart => exact ⟨0, 0, by omega, rfl, rfl, fun j hj => by omega⟩
  case round =>
    obtain ⟨k, m, hk, rfl, rfl, hno⟩ := hrel
    by_cases hlt : k < 7
    · have d0 := CT.out k hlt
      have d1 := CU.out k hlt
      obtain ⟨p, hp⟩ : ∃ p, ka k = p := ⟨_, rfl⟩
      obtain ⟨q, hq⟩ : ∃ q, kb k = q := ⟨_, rfl⟩
      rw [hp] at d0; rw [hq] at d1
      have P := Lib.hid hp
      have Q := Lib.hid hq
      clear hp hq
      have fin : ∀ m', ¬ (x = p ∧ y = q) → ∃ k' m'' : Nat, k' ≤ 7 ∧ Value.int .i64 ((k : Int) + 1) = .int .i64 k' ∧ W.drewN m' = W.drewN m'' ∧ Hid (∀ j, j < k' → ¬ (x = ka j ∧ y = kb j)) := fun m' hn =>
        ⟨k + 1, m', by omega, by go_num, rfl, fun j hj => by
          rcases Nat.lt_or_ge j k with h | h
          · exact hno.out j h
          · obtain rfl : j = k := by omega
            rw [P.out, Q.out]; exact hn⟩
      have FIN := Lib.hid fin
      clear fin
      by_cases a1 : x = p
      · have b1 : (x == p) = true := by simp [a1]
        by_cases a2 : y = q
        · have b2 : (y == q) = true := by simp [a2]
          have R : Hid ((x = 6 ∧ y = 6) ↔ k = 6) := by
            show _ ↔ _
            rw [a1, a2, ← P.out, ← Q.out]; exact k66 k hlt
          clear a1 a2
          go_wp2_with fail
          go_quiet (fail)
          go_wp2
          go_ret
          exact ⟨⟨_, rfl, by rw [R.out]; omega⟩, HB.out.trans ((drewN_below _ _).mono HB.out.size)⟩
        · have b2 : (y == q) = false := by simp [a2]
          have A2 := Lib.hid a2
          clear a1 a2
          go_wp2_with fail
          go_quiet (fail)
          go_wp2
          go_roundw
          case rel => simpa only [World.drewN_drewN] using FIN.out _ (fun h => A2.out h.2)
          case measure => simp [intOf]; omega
      · have b1 : (x == p) = false := by simp [a1]
        have A1 := Lib.hid a1
        clear a1
        go_wp2_with fail
        go_quiet (fail)
        go_wp2
        go_roundw
        case rel => simpa only [World.drewN_drewN] using FIN.out _ (fun h => A1.out h.1)
        case measure => simp [intOf]; omega
    · obtain rfl : k = 7 := by omega
      go_wp2
      go_ret
      exact ⟨⟨0, rfl, ⟨fun h => by omega, fun h => absurd h (hno.out 6 (by omega))⟩⟩, HB.out.trans ((drewN_below _ _).mono HB.out.size)⟩
end Go.Proofs.YtiellonfgcmaaaaGreat

/- The communities: the reference's first. -/
namespace Go.Proofs.YtiellonfgcmaaaaGreat
open Go.RowKit Go.ChangeShapes

/-- What 'first' finds: the place of the first election community among n. -/
def firstE (n : Nat) (f : Nat → Nat → Int) : Option Nat := (List.range n).find? fun i => decide (f i 0 = 6 ∧ f i 1 = 6)
def firstV (n : Nat) (f : Nat → Nat → Int) : Int := match firstE n f with | some i => num6 (f i) | none => 0
theorem firstE_some {n k : Nat} {f : Nat → Nat → Int} (hk : k < n) (h : f k 0 = 6 ∧ f k 1 = 6) (hno : ∀ j, j < k → ¬ (f j 0 = 6 ∧ f j 1 = 6)) : firstE n f = some k := by
  unfold firstE
  rw [List.find?_eq_some_iff_append]
  refine ⟨by simpa using h, List.range k, (List.range' (k + 1) (n - k - 1)), ?_, fun a ha => by have := hno a (by simpa using ha); simp only [this, decide_false, Bool.not_false]⟩
  rw [List.range_eq_range', List.range_eq_range', show n = k + ((n - k - 1) + 1) by omega, ← List.range'_append_1, List.range'_succ]
  simp
theorem firstE_none {n : Nat} {f : Nat → Nat → Int} (hno : ∀ j, j < n → ¬ (f j 0 = 6 ∧ f j 1 = 6)) : firstE n f = none := by
  unfold firstE
  rw [List.find?_eq_none]
  intro i hi
  simpa using hno i (by simpa using hi)
set_option maxRecDepth 100000 in
set_option maxHeartbeats 8000000 in
theorem rfirst_some (b off n c : Nat) (f : Nat → Nat → Int) (w : World) (hn : n ≤ 100) (hb : b < w.heap.size) (hf : ∀ i j, 0 ≤ f i j ∧ f i j ≤ 255)
    (hc : ∀ i, i < n → ∀ j, j < 8 → w.cell? ⟨b, off + i * 8 + j, none⟩ = some (.int .u8 (f i j))) :
    Calls Tryz.prog 80 #[.slice (some ⟨b, off, none⟩) n c, .int .i64 7] w fun e w' => e = .returned (.tuple #[.int .u64 (firstV n f), .bool (firstE n f).isSome]) ∧ Below w.heap.size w w' := by
  have KC := Lib.hid hc
  have KF := Lib.hid hf
  clear hc hf
  go_enter Tryz.func80, Tryz.ntmps80
  go_wp2
  go_loopw [6] (fun i wr => ∃ k : Nat, k ≤ n ∧ i = .int .i64 k ∧ Below w.heap.size w wr ∧ Hid (∀ j, j < k → ¬ (f j 0 = 6 ∧ f j 1 = 6))) (fun i _ => n - (intOf i).toNat)
  case atStart => exact ⟨0, Nat.zero_le _, rfl, Below.refl _ _, fun j hj => by omega⟩
  case round =>
    obtain ⟨k, hk, rfl, hbl, hno⟩ := hrel
    by_cases hlt : k < n
    · have KIND := fun W => rkind_any (f k) W
      have NUM := fun W => number_any (f k) (KF.out k) W
      unfold commV at KIND NUM
      have a0 : wr.cell? ⟨b, off + k * 8, none⟩ = some (.int .u8 (f k 0)) := (hbl.cell (by exact hb)).trans (KC.out k hlt 0 (by decide))
      have a1 : wr.cell? ⟨b, off + k * 8 + 1, none⟩ = some (.int .u8 (f k 1)) := (hbl.cell (by exact hb)).trans (KC.out k hlt 1 (by decide))
      have a2 : wr.cell? ⟨b, off + k * 8 + 2, none⟩ = some (.int .u8 (f k 2)) := (hbl.cell (by exact hb)).trans (KC.out k hlt 2 (by decide))
      have a3 : wr.cell? ⟨b, off + k * 8 + 3, none⟩ = some (.int .u8 (f k 3)) := (hbl.cell (by exact hb)).trans (KC.out k hlt 3 (by decide))
      have a4 : wr.cell? ⟨b, off + k * 8 + 4, none⟩ = some (.int .u8 (f k 4)) := (hbl.cell (by exact hb)).trans (KC.out k hlt 4 (by decide))
      have a5 : wr.cell? ⟨b, off + k * 8 + 5, none⟩ = some (.int .u8 (f k 5)) := (hbl.cell (by exact hb)).trans (KC.out k hlt 5 (by decide))
      have a6 : wr.cell? ⟨b, off + k * 8 + 6, none⟩ = some (.int .u8 (f k 6)) := (hbl.cell (by exact hb)).trans (KC.out k hlt 6 (by decide))
      have a7 : wr.cell? ⟨b, off + k * 8 + 7, none⟩ = some (.int .u8 (f k 7)) := (hbl.cell (by exact hb)).trans (KC.out k hlt 7 (by decide))
      go_wp2_with
        (go_at_call 123
         refine (KIND _).mono ?_
         rintro e w1 ⟨⟨r, rfl, hr⟩, hb1⟩
         have hbb : Below w.heap.size w w1 := hbl.trans (hb1.mono hbl.size)
         have c0 : w1.cell? ⟨b, off + k * 8, none⟩ = some (.int .u8 (f k 0)) := (hbb.cell (by exact hb)).trans (KC.out k hlt 0 (by decide))
         have c1 : w1.cell? ⟨b, off + k * 8 + 1, none⟩ = some (.int .u8 (f k 1)) := (hbb.cell (by exact hb)).trans (KC.out k hlt 1 (by decide))
         have c2 : w1.cell? ⟨b, off + k * 8 + 2, none⟩ = some (.int .u8 (f k 2)) := (hbb.cell (by exact hb)).trans (KC.out k hlt 2 (by decide))
         have c3 : w1.cell? ⟨b, off + k * 8 + 3, none⟩ = some (.int .u8 (f k 3)) := (hbb.cell (by exact hb)).trans (KC.out k hlt 3 (by decide))
         have c4 : w1.cell? ⟨b, off + k * 8 + 4, none⟩ = some (.int .u8 (f k 4)) := (hbb.cell (by exact hb)).trans (KC.out k hlt 4 (by decide))
         have c5 : w1.cell? ⟨b, off + k * 8 + 5, none⟩ = some (.int .u8 (f k 5)) := (hbb.cell (by exact hb)).trans (KC.out k hlt 5 (by decide))
         have c6 : w1.cell? ⟨b, off + k * 8 + 6, none⟩ = some (.int .u8 (f k 6)) := (hbb.cell (by exact hb)).trans (KC.out k hlt 6 (by decide))
         have c7 : w1.cell? ⟨b, off + k * 8 + 7, none⟩ = some (.int .u8 (f k 7)) := (hbb.cell (by exact hb)).trans (KC.out k hlt 7 (by decide)))
      · have h7 : r = 7 := by simpa using (show (r == 7) = true by assumption)
        have h66 := Lib.hid (hr.1 h7)
        clear hr h7
        go_wp2_with (go_at_call 124; refine (NUM _).mono ?_; rintro e w2 ⟨rfl, hb2⟩)
        go_ret2
        have e1 := firstE_some hlt h66.out hno.out
        refine ⟨?_, hbb.trans (hb2.mono hbb.size)⟩
        unfold firstV
        rw [e1]; rfl
      · have h7 : ¬ r = 7 := by simpa using (show (r == 7) = false by assumption)
        have h66 := Lib.hid (fun h => h7 (hr.2 h))
        go_roundw
        case rel =>
          refine ⟨k + 1, by omega, by go_num, hbl.trans (hb1.mono hbl.size), fun j hj => ?_⟩
          rcases Nat.lt_or_ge j k with h | h
          · exact hno.out j h
          · obtain rfl : j = k := by omega
            exact h66.out
        case measure => simp [intOf]; omega
    · obtain rfl : k = n := by omega
      have e1 := Lib.hid (firstE_none hno.out)
      go_wp2
      go_ret2
      refine ⟨?_, hbl⟩
      unfold firstV
      rw [e1.out]; rfl
end Go.Proofs.YtiellonfgcmaaaaGreat

/- The communities: the reference's election. -/
namespace Go.Proofs.YtiellonfgcmaaaaGreat
open Go.RowKit Go.ChangeShapes
/-- The algorithm and the preference that a number holds. -/
def algV (v : Int) : Int := wrap64 (bits .and .u64 (v / 1099511627776) 31)
def prefV (v : Int) : Int := wrap64 (bits .and .u64 v 65535)
set_option maxHeartbeats 4000000 in
theorem relection_some (b off n c : Nat) (f : Nat → Nat → Int) (w : World) (hn : n ≤ 100) (hb : b < w.heap.size) (hf : ∀ i j, 0 ≤ f i j ∧ f i j ≤ 255)
    (hc : ∀ i, i < n → ∀ j, j < 8 → w.cell? ⟨b, off + i * 8 + j, none⟩ = some (.int .u8 (f i j))) :
    Calls Tryz.prog 48 #[.slice (some ⟨b, off, none⟩) n c] w fun e w' => e = .returned (.tuple #[.int .i64 (algV (firstV n f)), .int .i64 (prefV (firstV n f)), .bool (firstE n f).isSome]) ∧ Below w.heap.size w w' := by
  have F := rfirst_some b off n c f w hn hb hf hc
  obtain ⟨v, hv⟩ : ∃ v, firstV n f = v := ⟨_, rfl⟩
  obtain ⟨s, hs⟩ : ∃ s, (firstE n f).isSome = s := ⟨_, rfl⟩
  have hv0 : 0 ≤ v ∧ v ≤ 281474976710655 := by
    rw [← hv]; unfold firstV; split
    · rename_i i _; unfold num6
      have h2 := hf i 2; have h3 := hf i 3; have h4 := hf i 4; have h5 := hf i 5; have h6 := hf i 6; have h7 := hf i 7
      omega
    · omega
  rw [hv, hs] at F
  rw [hs, hv]
  obtain ⟨hva, hvb⟩ := hv0
  clear hc hv hs
  go_enter Tryz.func48, Tryz.ntmps48
  go_wp2_with (go_at_call 80; refine F.mono ?_; rintro e w1 ⟨rfl, hb1⟩)
  exact bodyPost_ret (v := .tuple #[.int .i64 (algV v), .int .i64 (prefV v), .bool s]) (by simp [results, Tryz.results48, go_sem, algV, prefV]) rfl ⟨rfl, hb1⟩

theorem rfirst_none (A : Option Addr) (c : Nat) (w : World) : Calls Tryz.prog 80 #[.slice A 0 c, .int .i64 7] w fun e w' => e = .returned (.tuple #[.int .u64 0, .bool false]) ∧ w' = w := by
  go_enter Tryz.func80, Tryz.ntmps80
  go_wp2
  refine wp_loop_rounds 1 ?_
  rw [rounds_succ]
  go_wp2
  go_ret2
  exact ⟨rfl, rfl⟩
theorem relection_none (A : Option Addr) (c : Nat) (f : Nat → Nat → Int) (w : World) :
    Calls Tryz.prog 48 #[.slice A 0 c] w fun e w' => e = .returned (.tuple #[.int .i64 (algV (firstV 0 f)), .int .i64 (prefV (firstV 0 f)), .bool (firstE 0 f).isSome]) ∧ w' = w := by
  have e1 : firstE 0 f = none := firstE_none fun j hj => by omega
  have e2 : firstV 0 f = 0 := by unfold firstV; rw [e1]
  rw [e1, e2]
  generalize hz : (0 : Int) = z
  have F := rfirst_none A c w
  rw [hz] at F
  have hz0 : 0 ≤ z := by omega
  have hz1 : z ≤ 0 := by omega
  clear hz
  go_enter Tryz.func48, Tryz.ntmps48
  go_wp2_with (go_at_call 80; refine F.mono ?_; rintro e w1 ⟨rfl, rfl⟩)
  exact bodyPost_ret (v := .tuple #[.int .i64 (algV z), .int .i64 (prefV z), .bool false]) (by simp [results, Tryz.results48, go_sem, algV, prefV]) rfl ⟨rfl, rfl⟩
end Go.Proofs.YtiellonfgcmaaaaGreat
