/- The walks of 'Pick', of the candidates that numbers give, of 'Has'. -/
import Derived.Test.YtiellonfgcmaaaaGreatWb
import Derived.Deep.AppendLies
namespace Go.Proofs.YtiellonfgcmaaaaGreat
open Go.RowKit Go.ChangeShapes

/-- The loopback address of a node. -/
def lb (i : Nat) : Int := 184483840 + i + 1
set_option maxHeartbeats 4000000 in
theorem loopback_any (k : Nat) (hk : k < 20) (w : World) : Calls Tryz.prog 66 #[.int .i64 k] w fun e w' => e = .returned (.tuple #[.int .u32 (lb k), .int .i64 0]) ∧ w' = w := by
  go_enter Tryz.func66, Tryz.ntmps66
  go_wp2
  go_ret2
  exact ⟨rfl, rfl⟩
set_option maxHeartbeats 4000000 in
theorem loop_any (k : Nat) (hk : k < 20) (w : World) : Calls Tryz.prog 29 #[.int .i64 k] w fun e w' => e = .returned (.int .u32 (lb k)) ∧ w' = w := by
  obtain ⟨x, hx⟩ : ∃ x, x = lb k := ⟨_, rfl⟩
  have H : Hid (∀ w, Calls Tryz.prog 66 #[.int .i64 k] w fun e w' => e = .returned (.tuple #[.int .u32 x, .int .i64 0]) ∧ w' = w) := fun w => hx ▸ loopback_any k hk w
  rw [← hx]
  clear hx
  go_enter Tryz.func29, Tryz.ntmps29
  go_wp2_with (go_at_call 66; refine (H.out _).mono ?_; rintro e w' ⟨rfl, rfl⟩)
  go_ret
  exact ⟨rfl, rfl⟩

theorem tmod_emod (x n : Int) (hn : 0 < n) : (if x.tmod n < 0 then x.tmod n + n else x.tmod n) = x % n := by
  have h1 := Int.emod_nonneg x (by omega : n ≠ 0)
  have h2 := Int.emod_lt_of_pos x hn
  rw [Int.tmod_eq_emod]
  split <;> split <;> omega
theorem tmod_bd (x n : Int) (hn : 0 < n) : -n < x.tmod n ∧ x.tmod n < n := by
  have h1 := Int.emod_nonneg x (by omega : n ≠ 0)
  have h2 := Int.emod_lt_of_pos x hn
  rw [Int.tmod_eq_emod]
  split <;> omega
set_option maxHeartbeats 4000000 in
theorem pick_any (x n : Int) (hn : 0 < n) (hn2 : n ≤ 1048576) (w : World) : Calls Tryz.prog 21 #[.int .i64 x, .int .i64 n] w fun e w' => e = .returned (.int .i64 (x % n)) ∧ w' = w := by
  have he := tmod_emod x n hn
  have hb := tmod_bd x n hn
  have hz : (n == 0) = false := by simp; omega
  by_cases hneg : x.tmod n < 0
  · rw [if_pos hneg] at he
    have HE := Lib.hid he
    obtain ⟨b1, b2⟩ := hb
    clear he
    go_enter Tryz.func21, Tryz.ntmps21
    go_wp2
    go_ret
    exact ⟨ret_int HE.out, rfl⟩
  · rw [if_neg hneg] at he
    have HE := Lib.hid he
    obtain ⟨b1, b2⟩ := hb
    clear he
    go_enter Tryz.func21, Tryz.ntmps21
    go_wp2
    go_ret
    exact ⟨ret_int HE.out, rfl⟩

/-- The cells of the first k candidates. -/
def flat (ip pr : Nat → Int) : Nat → List Value
  | 0 => []
  | k + 1 => flat ip pr k ++ [.int .u32 (ip k), .int .i64 (pr k)]
theorem flat_length (ip pr : Nat → Int) (k : Nat) : (flat ip pr k).length = k * 2 := by
  induction k with
  | zero => rfl
  | succ k ih => simp [flat, ih]; omega
theorem flat_get (ip pr : Nat → Int) (k i : Nat) (hi : i < k) : (flat ip pr k)[i * 2]? = some (.int .u32 (ip i)) ∧ (flat ip pr k)[i * 2 + 1]? = some (.int .i64 (pr i)) := by
  induction k with
  | zero => omega
  | succ k ih =>
    have hl := flat_length ip pr k
    by_cases h : i < k
    · have := ih h
      simp only [flat]
      rw [List.getElem?_append_left (by omega), List.getElem?_append_left (by omega)]
      exact this
    · have : i = k := by omega
      subst this
      simp only [flat]
      rw [List.getElem?_append_right (by omega), List.getElem?_append_right (by omega), hl]
      simp
theorem info35 : (Tryz.prog.info? 35).map (fun i => (i.zero, i.size, i.bytes)) = some (some (.agg #[.int .u32 0, .int .i64 0]), 2, 16) := by kernel_rfl

def prf (p : Nat → Int) (i : Nat) : Int := p i % 65536
def CandPost (w : World) (p : Nat → Int) (m : Nat) (e : Ending) (w' : World) : Prop := ∃ v, e = .returned v ∧ w'.ownsRow w.heap.size 35 2 v m (flat lb (prf p) m) ∧ Below w.heap.size w w'

set_option maxRecDepth 100000 in
set_option maxHeartbeats 8000000 in
theorem candidates_any (b off n c : Nat) (p : Nat → Int) (w : World) (hb : b < w.heap.size) (hn : n ≤ 9223372036854775807) (hc : ∀ i, i < n → w.cell? ⟨b, off + i, none⟩ = some (.int .i64 (p i))) :
    Calls Tryz.prog 30 #[.slice (some ⟨b, off, none⟩) n c] w (CandPost w p (min n 20)) := by
  obtain ⟨i0, hi, hz0, hz1, hz2⟩ := info_parts info35
  have HC := Lib.hid hc
  clear hc
  go_enter Tryz.func30, Tryz.ntmps30
  go_wp2
  go_loopw [3, 4] (fun v i wr => ∃ k : Nat, k ≤ min n 20 ∧ i = .int .i64 k ∧ wr.ownsRow w.heap.size 35 2 v k (flat lb (prf p) k) ∧ Below w.heap.size w wr) (fun _ i _ => n - (intOf i).toNat)
  case atStart => exact ⟨0, Nat.zero_le _, rfl, World.ownsRow_nil _ _ _ _, Below.refl _ _⟩
  case round =>
    obtain ⟨k, hk, rfl, hown, hbl⟩ := hrel
    by_cases hlt : k < min n 20
    · have q1 : k < n := by omega
      have q2 : k < 20 := by omega
      have hlt' : (k : Int) < n := by omega
      have h0' : (0 : Int) ≤ k := by omega
      have h20 : (k : Int) < 20 := by omega
      have hcell := (hbl.cell (p := ⟨b, off + k, none⟩) hb).trans (HC.out k q1)
      have HL := Lib.hid (loop_any k q2)
      have HP : Hid (∀ w, Calls Tryz.prog 21 #[.int .i64 (p k), .int .i64 65536] w fun e w' => e = .returned (.int .i64 (prf p k)) ∧ w' = w) := fun w => pick_any (p k) 65536 (by omega) (by omega) w
      have hown2 : ∀ W, W = (wr.drew.alloc (.cells #[.int .u32 (lb k), .int .i64 (prf p k)] 35)) → W.ownsRow w.heap.size 35 2 u3 k (flat lb (prf p) k) := fun W hW => hW ▸ (World.ownsRow.drew hown).alloc _
      have m1 : k + 1 ≤ maxLen := by unfold maxLen; omega
      have m2 : (k + 1) * 16 ≤ 140737488355328 := by omega
      have m3 := hbl.size
      have m4 : w.heap.size ≤ (wr.drew.alloc (.cells #[.int .u32 (lb k), .int .i64 (prf p k)] 35)).heap.size := by simp; omega


      go_wp2
      refine wp_region_held_drew (S := fun W => W.cell? ⟨b, off + k, none⟩ = some (.int .i64 (p k))) (by kernel_rfl) hcell (fun hS => ?_)
      refine wpAnyH_take (i := 0) (oi := { dst := some 15, op := Op.move (Operand.tmp 3), type := 28, pos := "outright.go:171", after := #[], guard := none }) (v := ?_) rfl (by kernel_rfl) (by kernel_rfl) (by kernel_rfl) (fun _ _ _ h => h) (Or.inl ⟨by rfl, ?_⟩) hS ?_
      rotate_left
      · intro W hSw; (try dsimp only at hSw); go_split_ands; go_simp; (try with_reducible rfl)
      (try simp only [Act.put, List.setIfInBounds_toArray, List.set_cons_zero, List.set_cons_succ])
      refine wpAnyH_take (i := 1) (oi := { dst := some 16, op := Op.move (Operand.tmp 4), type := 3, pos := "outright.go:171", after := #[], guard := none }) (v := ?_) rfl (by kernel_rfl) (by kernel_rfl) (by kernel_rfl) (fun _ _ _ h => h) (Or.inl ⟨by rfl, ?_⟩) hS ?_
      rotate_left
      · intro W hSw; (try dsimp only at hSw); go_split_ands; go_simp; (try with_reducible rfl)
      (try simp only [Act.put, List.setIfInBounds_toArray, List.set_cons_zero, List.set_cons_succ])
      refine wpAnyH_take (i := 3) (oi := { dst := some 18, op := Op.move (Operand.tmp 0), type := 41, pos := "outright.go:171", after := #[], guard := none }) (v := ?_) rfl (by kernel_rfl) (by kernel_rfl) (by kernel_rfl) (fun _ _ _ h => h) (Or.inl ⟨by rfl, ?_⟩) hS ?_
      rotate_left
      · intro W hSw; (try dsimp only at hSw); go_split_ands; go_simp; (try with_reducible rfl)
      (try simp only [Act.put, List.setIfInBounds_toArray, List.set_cons_zero, List.set_cons_succ])
      refine wpAnyH_take (i := 4) (oi := { dst := some 19, op := Op.move (Operand.tmp 4), type := 3, pos := "outright.go:171", after := #[], guard := none }) (v := ?_) rfl (by kernel_rfl) (by kernel_rfl) (by kernel_rfl) (fun _ _ _ h => h) (Or.inl ⟨by rfl, ?_⟩) hS ?_
      rotate_left
      · intro W hSw; (try dsimp only at hSw); go_split_ands; go_simp; (try with_reducible rfl)
      (try simp only [Act.put, List.setIfInBounds_toArray, List.set_cons_zero, List.set_cons_succ])
      refine wpAnyH_take (i := 5) (oi := { dst := some 20, op := Op.indexAddr 41 (Operand.tmp 18) (Operand.tmp 19), type := 0, pos := "outright.go:171", after := #[{ on := 3, ground := Ground.data }, { on := 4, ground := Ground.data }], guard := none }) (v := ?_) rfl (by kernel_rfl) (by kernel_rfl) (by kernel_rfl) (fun _ _ _ h => h) (Or.inl ⟨by rfl, ?_⟩) hS ?_
      rotate_left
      · intro W hSw; (try dsimp only at hSw); go_split_ands; go_simp; (try with_reducible rfl)
      (try simp only [Act.put, List.setIfInBounds_toArray, List.set_cons_zero, List.set_cons_succ])
      refine wpAnyH_take (i := 6) (oi := { dst := some 21, op := Op.load 3 (Operand.tmp 20), type := 3, pos := "outright.go:171", after := #[{ on := 5, ground := Ground.data }], guard := none }) (v := ?_) rfl (by kernel_rfl) (by kernel_rfl) (by kernel_rfl) (fun _ _ _ h => h) (Or.inl ⟨by rfl, ?_⟩) hS ?_
      rotate_left
      · intro W hSw; (try dsimp only at hSw); go_split_ands; go_simp; (try with_reducible rfl)
      (try simp only [Act.put, List.setIfInBounds_toArray, List.set_cons_zero, List.set_cons_succ])
      refine wpAnyH_ready (rs := [2]) (by kernel_rfl) (by simp) (AllReadyH.cons (o := { dst := some 17, op := Op.call { callee := Callee.value (Operand.func 29), args := #[Operand.tmp 16], argTypes := #[3] }, type := 33, pos := "outright.go:171", after := #[{ on := 1, ground := Ground.data }], guard := none }) rfl (fun K hK => ?_) AllReadyH.nil)
      go_simp
      refine (HL.out _).mono ?_
      rintro e w' ⟨rfl, rfl⟩
      refine hK.out _ _ hS (fun _ => ?_)
      clear hK K
      (try simp only [Act.put, List.setIfInBounds_toArray, List.set_cons_zero, List.set_cons_succ])
      refine wpAnyH_ready (rs := [7]) (by kernel_rfl) (by simp) (AllReadyH.cons (o := { dst := some 22, op := Op.call { callee := Callee.value (Operand.func 21), args := #[Operand.tmp 21, Operand.const (Value.int IntKind.i64 65536)], argTypes := #[3, 3] }, type := 3, pos := "outright.go:171", after := #[{ on := 6, ground := Ground.data }, { on := 2, ground := Ground.chain }], guard := none }) rfl (fun K hK => ?_) AllReadyH.nil)
      go_simp
      refine (HP.out _).mono ?_
      rintro e w' ⟨rfl, rfl⟩
      refine hK.out _ _ hS (fun _ => ?_)
      clear hK K
      (try simp only [Act.put, List.setIfInBounds_toArray, List.set_cons_zero, List.set_cons_succ])
      refine wpAnyH_take (i := 8) (oi := { dst := some 23, op := Op.build 35 #[(0, Operand.tmp 17), (1, Operand.tmp 22)], type := 35, pos := "outright.go:171", after := #[{ on := 2, ground := Ground.data }, { on := 7, ground := Ground.data }], guard := none }) (v := ?_) rfl (by kernel_rfl) (by kernel_rfl) (by kernel_rfl) (fun _ _ _ h => h) (Or.inl ⟨by rfl, ?_⟩) hS ?_
      rotate_left
      · intro W hSw; (try dsimp only at hSw); go_split_ands; go_simp; (try with_reducible rfl)
      (try simp only [Act.put, List.setIfInBounds_toArray, List.set_cons_zero, List.set_cons_succ])
      refine wpAnyH_ready (rs := [9]) (by kernel_rfl) (by simp) (AllReadyH.cons (o := { dst := some 24, op := Op.buildSlice 28 1 #[(0, Operand.tmp 23)], type := 28, pos := "outright.go:171", after := #[{ on := 8, ground := Ground.data }], guard := none }) rfl (fun K hK => ?_) AllReadyH.nil)
      go_simp
      replace hS : (wr.drew.alloc (.cells #[.int .u32 (lb k), .int .i64 (prf p k)] 35)).cell? ⟨b, off + k, none⟩ = some (.int .i64 (p k)) := by rw [World.cell?_alloc_past _ _ _ (by show b < wr.heap.size; omega)]; exact hcell
      refine hK.out _ _ hS (fun _ => ?_)
      clear hK K
      (try simp only [Act.put, List.setIfInBounds_toArray, List.set_cons_zero, List.set_cons_succ])
      refine wpAnyH_ready (rs := [10]) (by kernel_rfl) (by simp) (AllReadyH.cons (o := { dst := some 25, op := Op.call { callee := Callee.builtin Builtin.append, args := #[Operand.tmp 15, Operand.tmp 24], argTypes := #[28, 28] }, type := 28, pos := "outright.go:171", after := #[{ on := 0, ground := Ground.data }, { on := 9, ground := Ground.data }, { on := 7, ground := Ground.chain }], guard := none }) rfl (fun K hK => ?_) AllReadyH.nil)
      refine step_append_lies _ (by rfl) (.tmp 15) (.tmp 24) 28 (by rfl) w.heap.size 35 i0 _ 2 16 Tryz.underlying28 hi hz0 hz1 hz2 rfl Nat.zero_lt_two u3 k (flat lb (prf p) k) (by rfl) (hown2 _ rfl) ⟨wr.heap.size, 0, none⟩ 1 1 [.int .u32 (lb k), .int .i64 (prf p k)] (by rfl) (by rfl) (World.news_of_block (cs := #[.int .u32 (lb k), .int .i64 (prf p k)]) (t := 35) (fr := (0, 0)) (heap_alloc_new _ _)) (by simp [Value.oneCell']) Nat.zero_lt_one m1 m2 m4 _ rfl ?_
      intro g cap w1 hown1 hgrow hat hlt1
      have hbw : Below w.heap.size w w1 := ((hbl.drew).alloc (by show w.heap.size ≤ wr.heap.size; omega) _).grown hgrow m4 (fun q hq => (hown.lt q hq).1)
      replace hS := (hbw.cell (p := ⟨b, off + k, none⟩) hb).trans (HC.out k q1)
      refine hK.out _ _ hS (fun _ => ?_)
      clear hK K
      (try simp only [Act.put, List.setIfInBounds_toArray, List.set_cons_zero, List.set_cons_succ])
      refine wpAnyH_take (i := 11) (oi := { dst := some 3, op := Op.assign (Operand.tmp 25), type := 28, pos := "outright.go:171", after := #[{ on := 10, ground := Ground.data }, { on := 10, ground := Ground.chain }, { on := 0, ground := Ground.phase }, { on := 1, ground := Ground.phase }, { on := 2, ground := Ground.phase }, { on := 3, ground := Ground.phase }, { on := 4, ground := Ground.phase }, { on := 5, ground := Ground.phase }, { on := 6, ground := Ground.phase }, { on := 7, ground := Ground.phase }, { on := 8, ground := Ground.phase }, { on := 9, ground := Ground.phase }, { on := 10, ground := Ground.phase }], guard := none }) (v := ?_) rfl (by kernel_rfl) (by kernel_rfl) (by kernel_rfl) (fun _ _ _ h => h) (Or.inl ⟨by rfl, ?_⟩) hS ?_
      rotate_left
      · intro W hSw; (try dsimp only at hSw); go_split_ands; go_simp; (try with_reducible rfl)
      (try simp only [Act.put, List.setIfInBounds_toArray, List.set_cons_zero, List.set_cons_succ])
      refine wpAnyH_done (by kernel_rfl) ?_ _
      clear hS
      go_wp2
      go_roundw
      case rel => exact ⟨k + 1, by omega, by go_num, hown1, hbw⟩
      case measure => simp [intOf]; omega
    · have HK : Hid (k = min n 20) := (show k = min n 20 by omega)
      by_cases hlt' : (k : Int) < n
      · have h20 : ¬ (k : Int) < 20 := by omega
        go_wp2
        go_ret
        exact ⟨_, rfl, HK.out ▸ hown, hbl⟩
      · go_wp2
        go_ret
        exact ⟨_, rfl, HK.out ▸ hown, hbl⟩

set_option maxHeartbeats 4000000 in
theorem candidates_none (A : Option Addr) (c : Nat) (w : World) : Calls Tryz.prog 30 #[.slice A 0 c] w fun e w' => e = .returned (.slice none 0 0) ∧ w' = w := by
  go_enter Tryz.func30, Tryz.ntmps30
  go_wp2
  refine wp_loop_rounds 1 ?_
  rw [rounds_succ]
  go_wp2
  go_ret
  exact ⟨rfl, rfl⟩

def hasB (s : Nat → Int) (x : Int) : Nat → Bool
  | 0 => false
  | k + 1 => hasB s x k || s k == x
theorem hasB_true {s : Nat → Int} {x : Int} {k : Nat} (j : Nat) (hj : j < k) (h : s j = x) : hasB s x k = true := by
  induction k with
  | zero => omega
  | succ k ih =>
    by_cases e : j = k
    · subst e; simp [hasB, h]
    · simp [hasB, ih (by omega)]
theorem hasB_false {s : Nat → Int} {x : Int} {k : Nat} (h : ∀ j, j < k → s j ≠ x) : hasB s x k = false := by
  induction k with
  | zero => rfl
  | succ k ih => simp [hasB, ih (fun j hj => h j (by omega)), h k (by omega)]
set_option maxHeartbeats 4000000 in
theorem has_any (g m c : Nat) (s : Nat → Int) (x : Int) (w : World) (hm : m ≤ 100) (hc : ∀ i, i < m → w.cell? ⟨g, i, none⟩ = some (.int .u32 (s i))) :
    Calls Tryz.prog 28 #[.slice (some ⟨g, 0, none⟩) m c, .int .u32 x] w fun e w' => e = .returned (.bool (hasB s x m)) ∧ w' = w := by
  go_enter Tryz.func28, Tryz.ntmps28
  go_wp2
  go_loop [5] (fun i => ∃ k : Nat, k ≤ m ∧ i = .int .i64 k ∧ Hid (hasB s x k = false)) (fun i => m - (intOf i).toNat)
  case atStart => exact ⟨0, Nat.zero_le _, rfl, rfl⟩
  case round =>
    obtain ⟨k, hk, rfl, hf⟩ := hrel
    by_cases hlt : k < m
    · have hlt' : (k : Int) < m := by omega
      have h0' : (0 : Int) ≤ k := by omega
      have g0 := hc k hlt
      by_cases he : (s k == x) = true
      · have HT := Lib.hid (hasB_true (k := m) k hlt (by simpa using he))
        go_wp2
        go_ret
        exact ⟨by rw [HT.out]; rfl, rfl⟩
      · have he' : (s k == x) = false := by simpa using he
        have HF : Hid (hasB s x (k + 1) = false) := by show (hasB s x k || s k == x) = false; rw [hf.out, he']; rfl
        clear he
        go_wp2
        go_round
        case rel => exact ⟨k + 1, by omega, by go_num, HF⟩
        case measure => simp [intOf]; omega
    · have HK : Hid (k = m) := (show k = m by omega)
      have hge : ¬ (k : Int) < m := by omega
      go_wp2
      go_ret
      exact ⟨by rw [← HK.out, hf.out]; rfl, rfl⟩
theorem has_none (A : Option Addr) (c : Nat) (x : Value) (w : World) : Calls Tryz.prog 28 #[.slice A 0 c, x] w fun e w' => e = .returned (.bool false) ∧ w' = w := by
  go_enter Tryz.func28, Tryz.ntmps28
  go_wp2
  refine wp_loop_rounds 1 ?_
  rw [rounds_succ]
  go_wp2
  go_ret
  exact ⟨rfl, rfl⟩

end Go.Proofs.YtiellonfgcmaaaaGreat
