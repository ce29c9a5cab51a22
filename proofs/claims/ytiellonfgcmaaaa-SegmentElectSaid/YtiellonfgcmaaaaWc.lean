/- The walks of the reference's election: it returns what 'elR' says, as the program's. -/
import Derived.Test.YtiellonfgcmaaaaWb
namespace Go.Proofs.Ytiellonfgcmaaaa
open Go.RowKit Go.ChangeShapes

set_option maxRecDepth 100000 in
set_option maxHeartbeats 8000000 in
theorem relect0 (bd : Int) (b off n c : Nat) (ip pr : Nat → Int) (w : World) (hn : n ≤ 100) (hn0 : 0 < n) (hnc : n ≤ c) (hb : b < w.heap.size) (hbd : 0 ≤ bd) (hbd' : bd ≤ 9223372036854775807)
   (hip : ∀ i, i < n → 0 ≤ ip i ∧ ip i ≤ 4294967295)
   (hc0 : ∀ i, i < n → w.cell? ⟨b, off + i * 2, none⟩ = some (.int .u32 (ip i))) (hc1 : ∀ i, i < n → w.cell? ⟨b, off + i * 2 + 1, none⟩ = some (.int .i64 (pr i))) :
    Calls Try.prog 7 #[.int .i64 0, .slice (some ⟨b, off, none⟩) n c, .int .i64 bd] w fun e w' => e = elR 0 bd n ip pr ∧ Below w.heap.size w w' := by
  have hk0 : ((n : Int) == 0) = false := by simp; omega
  have hp := Lib.hid hip
  have K0 := Lib.hid hc0
  have K1 := Lib.hid hc1
  clear hip hc0 hc1
  go_enter Try.func7, Try.ntmps7
  go_wp2
  go_loopw [8, 9] (fun t i wr => ∃ k : Nat, 1 ≤ k ∧ k ≤ n ∧ i = .int .i64 k ∧ t = .int .i64 (0 : Nat) ∧ Below w.heap.size w wr ∧ Hid (Asc ip k)) (fun _ i _ => n - (intOf i).toNat)
  case atStart => exact ⟨1, by omega, by omega, rfl, by rfl, Below.refl _ _, asc_one _⟩
  case round =>
    obtain ⟨k, hk1, hk, rfl, rfl, hbl, ha⟩ := hrel
    by_cases hlt : k < n
    · have hlt' : (k : Int) < n := by omega
      have h0' : (1 : Int) ≤ k := by omega
      have g0 := (hbl.cell (p := ⟨b, off + k * 2, none⟩) hb).trans (K0.out k hlt)
      have g1 := (hbl.cell (p := ⟨b, off + (k - 1) * 2, none⟩) hb).trans (K0.out (k - 1) (by omega))
      by_cases hle : ip k ≤ ip (k - 1)
      · have HN := Lib.hid (not_asc (p := 0 < n ∧ (0 : Int) ≤ 0 ∧ (0 : Int) ≤ 2 ∧ 0 ≤ bd) (show (k - 1) + 1 < n by omega) (show ip (k - 1 + 1) ≤ ip (k - 1) by rw [show k - 1 + 1 = k by omega]; exact hle))
        go_wp2
        go_quiet (fail)
        go_wp2
        go_ret2
        exact ⟨elR_no HN.out, hbl.trans ((drewN_below _ _).mono hbl.size)⟩
      · have HA := Lib.hid (asc_more ha.out (by omega) (by omega))
        clear ha
        go_wp2
        go_quiet (fail)
        go_wp2
        go_quiet (fail)
        go_wp2
        go_roundw
        case rel => exact ⟨k + 1, by omega, by omega, by go_num, rfl, hbl.trans ((drewN_below _ _).mono hbl.size), HA.out⟩
        case measure => simp [intOf]; omega
    · have hkn : k = n := by omega
      have HK := Lib.hid hkn
      have hOk : Hid (Asc ip n ∧ 0 < n ∧ (0 : Int) ≤ 0 ∧ (0 : Int) ≤ 2 ∧ 0 ≤ bd) := ⟨hkn ▸ ha.out, hn0, by omega, by omega, hbd⟩
      have hge : ¬ (k : Int) < n := by omega
      clear ha hkn
      have q1 : (0 : Int) < n := by omega
      have q2 : 0 ≤ bd % n := Int.emod_nonneg _ (by omega)
      have q3 : bd % n < n := Int.emod_lt_of_pos _ q1
      have g := (hbl.cell (p := ⟨b, off + (bd % n).toNat * 2, none⟩) hb).trans (K0.out (bd % n).toNat (by omega))
      go_wp2
      go_ret2
      exact ⟨elR_yes hOk.out (by simp [sel]), hbl⟩

set_option maxRecDepth 100000 in
set_option maxHeartbeats 8000000 in
theorem relect2 (bd : Int) (b off n c : Nat) (ip pr : Nat → Int) (w : World) (hn : n ≤ 100) (hn0 : 0 < n) (hnc : n ≤ c) (hb : b < w.heap.size) (hbd : 0 ≤ bd) (hbd' : bd ≤ 9223372036854775807)
   (hip : ∀ i, i < n → 0 ≤ ip i ∧ ip i ≤ 4294967295)
   (hc0 : ∀ i, i < n → w.cell? ⟨b, off + i * 2, none⟩ = some (.int .u32 (ip i))) (hc1 : ∀ i, i < n → w.cell? ⟨b, off + i * 2 + 1, none⟩ = some (.int .i64 (pr i))) :
    Calls Try.prog 7 #[.int .i64 2, .slice (some ⟨b, off, none⟩) n c, .int .i64 bd] w fun e w' => e = elR 2 bd n ip pr ∧ Below w.heap.size w w' := by
  have hk0 : ((n : Int) == 0) = false := by simp; omega
  have hp := Lib.hid hip
  have K0 := Lib.hid hc0
  have K1 := Lib.hid hc1
  clear hip hc0 hc1
  go_enter Try.func7, Try.ntmps7
  go_wp2
  go_loopw [8, 9] (fun t i wr => ∃ k : Nat, 1 ≤ k ∧ k ≤ n ∧ i = .int .i64 k ∧ t = .int .i64 (bst pr k : Nat) ∧ Below w.heap.size w wr ∧ Hid (Asc ip k)) (fun _ i _ => n - (intOf i).toNat)
  case atStart => exact ⟨1, by omega, by omega, rfl, by rw [bst_one]; rfl, Below.refl _ _, asc_one _⟩
  case round =>
    obtain ⟨k, hk1, hk, rfl, rfl, hbl, ha⟩ := hrel
    by_cases hlt : k < n
    · have hlt' : (k : Int) < n := by omega
      have h0' : (1 : Int) ≤ k := by omega
      have g0 := (hbl.cell (p := ⟨b, off + k * 2, none⟩) hb).trans (K0.out k hlt)
      have g1 := (hbl.cell (p := ⟨b, off + (k - 1) * 2, none⟩) hb).trans (K0.out (k - 1) (by omega))
      by_cases hle : ip k ≤ ip (k - 1)
      · have HN := Lib.hid (not_asc (p := 0 < n ∧ (0 : Int) ≤ 2 ∧ (2 : Int) ≤ 2 ∧ 0 ≤ bd) (show (k - 1) + 1 < n by omega) (show ip (k - 1 + 1) ≤ ip (k - 1) by rw [show k - 1 + 1 = k by omega]; exact hle))
        go_wp2
        go_quiet (fail)
        go_wp2
        go_ret2
        exact ⟨elR_no HN.out, hbl.trans ((drewN_below _ _).mono hbl.size)⟩
      · have HA := Lib.hid (asc_more ha.out (by omega) (by omega))
        clear ha
        go_wp2
        go_quiet (fail)
        go_wp2
        have hzz := bst_succ pr k
        have hzl := bst_lt pr k (by omega)
        generalize bst pr k = z at hzz hzl ⊢
        have HZ := Lib.hid hzz
        clear hzz
        have g2 := (hbl.cell (p := ⟨b, off + k * 2 + 1, none⟩) hb).trans (K1.out k hlt)
        have g3 := (hbl.cell (p := ⟨b, off + z * 2 + 1, none⟩) hb).trans (K1.out z (by omega))
        have z1 : (0 : Int) ≤ z := by omega
        have z2 : (z : Int) < n := by omega
        by_cases hcmp : pr z < pr k
        · go_quiet (fail)
          go_wp2
          go_roundw
          case rel => exact ⟨k + 1, by omega, by omega, by go_num, by rw [HZ.out, if_pos hcmp], hbl.trans ((drewN_below _ _).mono hbl.size), HA.out⟩
          case measure => simp [intOf]; omega
        · go_quiet (fail)
          go_wp2
          go_roundw
          case rel => exact ⟨k + 1, by omega, by omega, by go_num, by rw [HZ.out, if_neg hcmp], hbl.trans ((drewN_below _ _).mono hbl.size), HA.out⟩
          case measure => simp [intOf]; omega
    · have hkn : k = n := by omega
      have HK := Lib.hid hkn
      have hOk : Hid (Asc ip n ∧ 0 < n ∧ (0 : Int) ≤ 2 ∧ (2 : Int) ≤ 2 ∧ 0 ≤ bd) := ⟨hkn ▸ ha.out, hn0, by omega, by omega, hbd⟩
      have hge : ¬ (k : Int) < n := by omega
      clear ha hkn
      have hzl := bst_lt pr k (by omega)
      obtain ⟨z, hz⟩ : ∃ z, z = bst pr k := ⟨_, rfl⟩
      rw [← hz] at hzl ⊢
      have HE := Lib.hid hz
      clear hz
      have z1 : (0 : Int) ≤ z := by omega
      have z2 : (z : Int) < n := by omega
      have g := (hbl.cell (p := ⟨b, off + z * 2, none⟩) hb).trans (K0.out z (by omega))
      go_wp2
      go_ret2
      exact ⟨elR_yes hOk.out (by simp [sel]; rw [HE.out, HK.out]), hbl⟩

set_option maxRecDepth 100000 in
set_option maxHeartbeats 8000000 in
theorem relect1 (bd : Int) (b off n c : Nat) (ip pr : Nat → Int) (w : World) (hn : n ≤ 100) (hn0 : 0 < n) (hnc : n ≤ c) (hb : b < w.heap.size) (hbd : 0 ≤ bd) (hbd' : bd ≤ 9223372036854775807)
   (hip : ∀ i, i < n → 0 ≤ ip i ∧ ip i ≤ 4294967295)
   (hc0 : ∀ i, i < n → w.cell? ⟨b, off + i * 2, none⟩ = some (.int .u32 (ip i))) (hc1 : ∀ i, i < n → w.cell? ⟨b, off + i * 2 + 1, none⟩ = some (.int .i64 (pr i))) :
    Calls Try.prog 7 #[.int .i64 1, .slice (some ⟨b, off, none⟩) n c, .int .i64 bd] w fun e w' => e = elR 1 bd n ip pr ∧ Below w.heap.size w w' := by
  obtain ⟨W2, hW⟩ : ∃ f : Int → Int → Int, f = wt := ⟨_, rfl⟩
  have hwt : ∀ (x : Int) (w : World), 0 ≤ x → x ≤ 4294967295 → Calls Try.prog 9 #[.int .u32 x, .int .i64 bd] w fun e w' => e = .returned (.int .u64 (W2 x bd)) ∧ Below w.heap.size w w' := by
    intro x w h1 h2
    rw [hW]
    exact rweight_any x bd w h1 h2
  have HW := Lib.hid hwt
  have HR := Lib.hid hW
  clear hwt hW
  have hk0 : ((n : Int) == 0) = false := by simp; omega
  have hp := Lib.hid hip
  have K0 := Lib.hid hc0
  have K1 := Lib.hid hc1
  clear hip hc0 hc1
  go_enter Try.func7, Try.ntmps7
  go_wp2
  go_loopw [8, 9] (fun t i wr => ∃ k : Nat, 1 ≤ k ∧ k ≤ n ∧ i = .int .i64 k ∧ t = .int .i64 (bst (fun i => W2 (ip i) bd) k : Nat) ∧ Below w.heap.size w wr ∧ Hid (Asc ip k)) (fun _ i _ => n - (intOf i).toNat)
  case atStart => exact ⟨1, by omega, by omega, rfl, by rw [bst_one]; rfl, Below.refl _ _, asc_one _⟩
  case round =>
    obtain ⟨k, hk1, hk, rfl, rfl, hbl, ha⟩ := hrel
    by_cases hlt : k < n
    · have hlt' : (k : Int) < n := by omega
      have h0' : (1 : Int) ≤ k := by omega
      have g0 := (hbl.cell (p := ⟨b, off + k * 2, none⟩) hb).trans (K0.out k hlt)
      have g1 := (hbl.cell (p := ⟨b, off + (k - 1) * 2, none⟩) hb).trans (K0.out (k - 1) (by omega))
      by_cases hle : ip k ≤ ip (k - 1)
      · have HN := Lib.hid (not_asc (p := 0 < n ∧ (0 : Int) ≤ 1 ∧ (1 : Int) ≤ 2 ∧ 0 ≤ bd) (show (k - 1) + 1 < n by omega) (show ip (k - 1 + 1) ≤ ip (k - 1) by rw [show k - 1 + 1 = k by omega]; exact hle))
        go_wp2
        go_quiet (fail)
        go_wp2
        go_ret2
        exact ⟨elR_no HN.out, hbl.trans ((drewN_below _ _).mono hbl.size)⟩
      · have HA := Lib.hid (asc_more ha.out (by omega) (by omega))
        clear ha
        go_wp2
        go_quiet (fail)
        go_wp2
        have hzz := bst_succ (fun i => W2 (ip i) bd) k
        have hzl := bst_lt (fun i => W2 (ip i) bd) k (by omega)
        generalize bst (fun i => W2 (ip i) bd) k = z at hzz hzl ⊢
        have HZ := Lib.hid hzz
        clear hzz
        have g2 := (hbl.cell (p := ⟨b, off + z * 2, none⟩) hb).trans (K0.out z (by omega))
        have z1 : (0 : Int) ≤ z := by omega
        have z2 : (z : Int) < n := by omega
        have pk := hp.out k hlt
        have pz := hp.out z (by omega)
        have sz := hbl.size
        by_cases hcmp : W2 (ip z) bd < W2 (ip k) bd
        · have hd : decide (W2 (ip z) bd < W2 (ip k) bd) = true := decide_eq_true hcmp
          refine wp_region_held_drew (S := fun W => W.cell? ⟨b, off + k * 2, none⟩ = some (.int .u32 (ip k)) ∧ W.cell? ⟨b, off + z * 2, none⟩ = some (.int .u32 (ip z)) ∧ b < W.heap.size ∧ Below wr.heap.size wr W) (by kernel_rfl) ⟨g0, g2, Nat.lt_of_lt_of_le hb sz, (drewN_below wr _).drew⟩ (fun hS => ?_)
          refine wpAnyH_take (i := 0) (oi := { dst := some 43, op := Op.move (Operand.tmp 0), type := 3, pos := "ref.go:77", after := #[], guard := none }) (v := ?_) rfl (by kernel_rfl) (by kernel_rfl) (by kernel_rfl) (fun _ _ _ h => h) (Or.inl ⟨by rfl, ?_⟩) hS ?_
          rotate_left
          · intro w hSw; (try dsimp only at hSw); obtain ⟨hs1, hs2, hs3, hs4⟩ := hSw; go_simp; (try with_reducible rfl)
          (try simp only [Act.put, List.setIfInBounds_toArray, List.set_cons_zero, List.set_cons_succ])
          refine wpAnyH_take (i := 1) (oi := { dst := some 44, op := Op.binOp BinOp.eql 3 (Operand.tmp 43) (Operand.const (Value.int IntKind.i64 1)) 3, type := 4, pos := "ref.go:77", after := #[{ on := 0, ground := Ground.data }], guard := none }) (v := ?_) rfl (by kernel_rfl) (by kernel_rfl) (by kernel_rfl) (fun _ _ _ h => h) (Or.inl ⟨by rfl, ?_⟩) hS ?_
          rotate_left
          · intro w hSw; (try dsimp only at hSw); obtain ⟨hs1, hs2, hs3, hs4⟩ := hSw; go_simp; (try with_reducible rfl)
          (try simp only [Act.put, List.setIfInBounds_toArray, List.set_cons_zero, List.set_cons_succ])
          refine wpAnyH_take (i := 2) (oi := { dst := some 45, op := Op.move (Operand.tmp 44), type := 4, pos := "ref.go:77", after := #[{ on := 1, ground := Ground.data }], guard := none }) (v := ?_) rfl (by kernel_rfl) (by kernel_rfl) (by kernel_rfl) (fun _ _ _ h => h) (Or.inl ⟨by rfl, ?_⟩) hS ?_
          rotate_left
          · intro w hSw; (try dsimp only at hSw); obtain ⟨hs1, hs2, hs3, hs4⟩ := hSw; go_simp; (try with_reducible rfl)
          (try simp only [Act.put, List.setIfInBounds_toArray, List.set_cons_zero, List.set_cons_succ])
          refine wpAnyH_take (i := 3) (oi := { dst := some 46, op := Op.move (Operand.tmp 1), type := 22, pos := "ref.go:77", after := #[{ on := 2, ground := Ground.guard }], guard := some (2, true) }) (v := ?_) rfl (by kernel_rfl) (by kernel_rfl) (by kernel_rfl) (fun _ _ _ h => h) (Or.inl ⟨by rfl, ?_⟩) hS ?_
          rotate_left
          · intro w hSw; (try dsimp only at hSw); obtain ⟨hs1, hs2, hs3, hs4⟩ := hSw; go_simp; (try with_reducible rfl)
          (try simp only [Act.put, List.setIfInBounds_toArray, List.set_cons_zero, List.set_cons_succ])
          refine wpAnyH_take (i := 4) (oi := { dst := some 47, op := Op.move (Operand.tmp 9), type := 3, pos := "ref.go:77", after := #[{ on := 2, ground := Ground.guard }], guard := some (2, true) }) (v := ?_) rfl (by kernel_rfl) (by kernel_rfl) (by kernel_rfl) (fun _ _ _ h => h) (Or.inl ⟨by rfl, ?_⟩) hS ?_
          rotate_left
          · intro w hSw; (try dsimp only at hSw); obtain ⟨hs1, hs2, hs3, hs4⟩ := hSw; go_simp; (try with_reducible rfl)
          (try simp only [Act.put, List.setIfInBounds_toArray, List.set_cons_zero, List.set_cons_succ])
          refine wpAnyH_take (i := 5) (oi := { dst := some 48, op := Op.indexAddr 22 (Operand.tmp 46) (Operand.tmp 47), type := 0, pos := "ref.go:77", after := #[{ on := 3, ground := Ground.data }, { on := 4, ground := Ground.data }, { on := 2, ground := Ground.guard }], guard := some (2, true) }) (v := ?_) rfl (by kernel_rfl) (by kernel_rfl) (by kernel_rfl) (fun _ _ _ h => h) (Or.inl ⟨by rfl, ?_⟩) hS ?_
          rotate_left
          · intro w hSw; (try dsimp only at hSw); obtain ⟨hs1, hs2, hs3, hs4⟩ := hSw; go_simp; (try with_reducible rfl)
          (try simp only [Act.put, List.setIfInBounds_toArray, List.set_cons_zero, List.set_cons_succ])
          refine wpAnyH_take (i := 6) (oi := { dst := some 49, op := Op.fieldAddr 28 (Operand.tmp 48) 0, type := 0, pos := "ref.go:77", after := #[{ on := 5, ground := Ground.data }, { on := 2, ground := Ground.guard }], guard := some (2, true) }) (v := ?_) rfl (by kernel_rfl) (by kernel_rfl) (by kernel_rfl) (fun _ _ _ h => h) (Or.inl ⟨by rfl, ?_⟩) hS ?_
          rotate_left
          · intro w hSw; (try dsimp only at hSw); obtain ⟨hs1, hs2, hs3, hs4⟩ := hSw; go_simp; (try with_reducible rfl)
          (try simp only [Act.put, List.setIfInBounds_toArray, List.set_cons_zero, List.set_cons_succ])
          refine wpAnyH_take (i := 7) (oi := { dst := some 50, op := Op.load 24 (Operand.tmp 49), type := 24, pos := "ref.go:77", after := #[{ on := 6, ground := Ground.data }, { on := 2, ground := Ground.guard }], guard := some (2, true) }) (v := ?_) rfl (by kernel_rfl) (by kernel_rfl) (by kernel_rfl) (fun _ _ _ h => h) (Or.inl ⟨by rfl, ?_⟩) hS ?_
          rotate_left
          · intro w hSw; (try dsimp only at hSw); obtain ⟨hs1, hs2, hs3, hs4⟩ := hSw; go_simp; (try with_reducible rfl)
          (try simp only [Act.put, List.setIfInBounds_toArray, List.set_cons_zero, List.set_cons_succ])
          refine wpAnyH_take (i := 8) (oi := { dst := some 51, op := Op.move (Operand.tmp 2), type := 3, pos := "ref.go:77", after := #[{ on := 2, ground := Ground.guard }], guard := some (2, true) }) (v := ?_) rfl (by kernel_rfl) (by kernel_rfl) (by kernel_rfl) (fun _ _ _ h => h) (Or.inl ⟨by rfl, ?_⟩) hS ?_
          rotate_left
          · intro w hSw; (try dsimp only at hSw); obtain ⟨hs1, hs2, hs3, hs4⟩ := hSw; go_simp; (try with_reducible rfl)
          (try simp only [Act.put, List.setIfInBounds_toArray, List.set_cons_zero, List.set_cons_succ])
          refine wpAnyH_take (i := 10) (oi := { dst := some 53, op := Op.move (Operand.tmp 1), type := 22, pos := "ref.go:77", after := #[{ on := 2, ground := Ground.guard }], guard := some (2, true) }) (v := ?_) rfl (by kernel_rfl) (by kernel_rfl) (by kernel_rfl) (fun _ _ _ h => h) (Or.inl ⟨by rfl, ?_⟩) hS ?_
          rotate_left
          · intro w hSw; (try dsimp only at hSw); obtain ⟨hs1, hs2, hs3, hs4⟩ := hSw; go_simp; (try with_reducible rfl)
          (try simp only [Act.put, List.setIfInBounds_toArray, List.set_cons_zero, List.set_cons_succ])
          refine wpAnyH_take (i := 11) (oi := { dst := some 54, op := Op.move (Operand.tmp 8), type := 3, pos := "ref.go:77", after := #[{ on := 2, ground := Ground.guard }], guard := some (2, true) }) (v := ?_) rfl (by kernel_rfl) (by kernel_rfl) (by kernel_rfl) (fun _ _ _ h => h) (Or.inl ⟨by rfl, ?_⟩) hS ?_
          rotate_left
          · intro w hSw; (try dsimp only at hSw); obtain ⟨hs1, hs2, hs3, hs4⟩ := hSw; go_simp; (try with_reducible rfl)
          (try simp only [Act.put, List.setIfInBounds_toArray, List.set_cons_zero, List.set_cons_succ])
          refine wpAnyH_take (i := 12) (oi := { dst := some 55, op := Op.indexAddr 22 (Operand.tmp 53) (Operand.tmp 54), type := 0, pos := "ref.go:77", after := #[{ on := 10, ground := Ground.data }, { on := 11, ground := Ground.data }, { on := 2, ground := Ground.guard }], guard := some (2, true) }) (v := ?_) rfl (by kernel_rfl) (by kernel_rfl) (by kernel_rfl) (fun _ _ _ h => h) (Or.inl ⟨by rfl, ?_⟩) hS ?_
          rotate_left
          · intro w hSw; (try dsimp only at hSw); obtain ⟨hs1, hs2, hs3, hs4⟩ := hSw; go_simp; (try with_reducible rfl)
          (try simp only [Act.put, List.setIfInBounds_toArray, List.set_cons_zero, List.set_cons_succ])
          refine wpAnyH_take (i := 13) (oi := { dst := some 56, op := Op.fieldAddr 28 (Operand.tmp 55) 0, type := 0, pos := "ref.go:77", after := #[{ on := 12, ground := Ground.data }, { on := 2, ground := Ground.guard }], guard := some (2, true) }) (v := ?_) rfl (by kernel_rfl) (by kernel_rfl) (by kernel_rfl) (fun _ _ _ h => h) (Or.inl ⟨by rfl, ?_⟩) hS ?_
          rotate_left
          · intro w hSw; (try dsimp only at hSw); obtain ⟨hs1, hs2, hs3, hs4⟩ := hSw; go_simp; (try with_reducible rfl)
          (try simp only [Act.put, List.setIfInBounds_toArray, List.set_cons_zero, List.set_cons_succ])
          refine wpAnyH_take (i := 14) (oi := { dst := some 57, op := Op.load 24 (Operand.tmp 56), type := 24, pos := "ref.go:77", after := #[{ on := 13, ground := Ground.data }, { on := 2, ground := Ground.guard }], guard := some (2, true) }) (v := ?_) rfl (by kernel_rfl) (by kernel_rfl) (by kernel_rfl) (fun _ _ _ h => h) (Or.inl ⟨by rfl, ?_⟩) hS ?_
          rotate_left
          · intro w hSw; (try dsimp only at hSw); obtain ⟨hs1, hs2, hs3, hs4⟩ := hSw; go_simp; (try with_reducible rfl)
          (try simp only [Act.put, List.setIfInBounds_toArray, List.set_cons_zero, List.set_cons_succ])
          refine wpAnyH_take (i := 15) (oi := { dst := some 58, op := Op.move (Operand.tmp 2), type := 3, pos := "ref.go:77", after := #[{ on := 2, ground := Ground.guard }], guard := some (2, true) }) (v := ?_) rfl (by kernel_rfl) (by kernel_rfl) (by kernel_rfl) (fun _ _ _ h => h) (Or.inl ⟨by rfl, ?_⟩) hS ?_
          rotate_left
          · intro w hSw; (try dsimp only at hSw); obtain ⟨hs1, hs2, hs3, hs4⟩ := hSw; go_simp; (try with_reducible rfl)
          (try simp only [Act.put, List.setIfInBounds_toArray, List.set_cons_zero, List.set_cons_succ])
          refine wpAnyH_ready (rs := [9]) (by kernel_rfl) (by simp) (AllReadyH.cons (o := { dst := some 52, op := Op.call { callee := Callee.value (Operand.func 9), args := #[Operand.tmp 50, Operand.tmp 51], argTypes := #[24, 3] }, type := 31, pos := "ref.go:77", after := #[{ on := 7, ground := Ground.data }, { on := 8, ground := Ground.data }, { on := 2, ground := Ground.chain }, { on := 2, ground := Ground.guard }], guard := some (2, true) }) rfl (fun K hK => ?_) AllReadyH.nil)
          go_simp
          go_at_call 9
          refine (HW.out _ _ (by omega) (by omega)).mono ?_
          rintro e w1 ⟨rfl, hb1⟩
          replace hS := And.intro ((hb1.cell (p := ⟨b, off + k * 2, none⟩) hS.2.2.1).trans hS.1) (And.intro ((hb1.cell (p := ⟨b, off + z * 2, none⟩) hS.2.2.1).trans hS.2.1) (And.intro (Nat.lt_of_lt_of_le hS.2.2.1 hb1.size) (hS.2.2.2.trans (hb1.mono hS.2.2.2.size))))
          refine hK.out _ _ hS (fun _ => ?_)
          clear hK K
          (try simp only [Act.put, List.setIfInBounds_toArray, List.set_cons_zero, List.set_cons_succ])
          refine wpAnyH_ready (rs := [16]) (by kernel_rfl) (by simp) (AllReadyH.cons (o := { dst := some 59, op := Op.call { callee := Callee.value (Operand.func 9), args := #[Operand.tmp 57, Operand.tmp 58], argTypes := #[24, 3] }, type := 31, pos := "ref.go:77", after := #[{ on := 14, ground := Ground.data }, { on := 15, ground := Ground.data }, { on := 9, ground := Ground.chain }, { on := 2, ground := Ground.guard }], guard := some (2, true) }) rfl (fun K hK => ?_) AllReadyH.nil)
          go_simp
          go_at_call 9
          refine (HW.out _ _ (by omega) (by omega)).mono ?_
          rintro e w2 ⟨rfl, hb2⟩
          replace hS := And.intro ((hb2.cell (p := ⟨b, off + k * 2, none⟩) hS.2.2.1).trans hS.1) (And.intro ((hb2.cell (p := ⟨b, off + z * 2, none⟩) hS.2.2.1).trans hS.2.1) (And.intro (Nat.lt_of_lt_of_le hS.2.2.1 hb2.size) (hS.2.2.2.trans (hb2.mono hS.2.2.2.size))))
          refine hK.out _ _ hS (fun _ => ?_)
          clear hK K
          (try simp only [Act.put, List.setIfInBounds_toArray, List.set_cons_zero, List.set_cons_succ])
          refine wpAnyH_take (i := 17) (oi := { dst := some 60, op := Op.binOp BinOp.gtr 31 (Operand.tmp 52) (Operand.tmp 59) 31, type := 4, pos := "ref.go:77", after := #[{ on := 9, ground := Ground.data }, { on := 16, ground := Ground.data }, { on := 2, ground := Ground.guard }], guard := some (2, true) }) (v := ?_) rfl (by kernel_rfl) (by kernel_rfl) (by kernel_rfl) (fun _ _ _ h => h) (Or.inl ⟨by rfl, ?_⟩) hS ?_
          rotate_left
          · intro w hSw; (try dsimp only at hSw); obtain ⟨hs1, hs2, hs3, hs4⟩ := hSw; go_simp; (try with_reducible rfl)
          (try simp only [Act.put, List.setIfInBounds_toArray, List.set_cons_zero, List.set_cons_succ])
          refine wpAnyH_take (i := 18) (oi := { dst := some 61, op := Op.pick (Operand.tmp 45) (Operand.tmp 60) (Operand.const (Value.bool false)), type := 4, pos := "ref.go:77", after := #[{ on := 2, ground := Ground.data }, { on := 17, ground := Ground.data }], guard := none }) (v := ?_) rfl (by kernel_rfl) (by kernel_rfl) (by kernel_rfl) (fun _ _ _ h => h) (Or.inl ⟨by rfl, ?_⟩) hS ?_
          rotate_left
          · intro w hSw; (try dsimp only at hSw); obtain ⟨hs1, hs2, hs3, hs4⟩ := hSw; go_simp; (try with_reducible rfl)
          (try simp only [Act.put, List.setIfInBounds_toArray, List.set_cons_zero, List.set_cons_succ])
          refine wpAnyH_take (i := 19) (oi := { dst := some 62, op := Op.move (Operand.tmp 61), type := 4, pos := "ref.go:77", after := #[{ on := 18, ground := Ground.data }, { on := 16, ground := Ground.chain }], guard := none }) (v := ?_) rfl (by kernel_rfl) (by kernel_rfl) (by kernel_rfl) (fun _ _ _ h => h) (Or.inl ⟨by rfl, ?_⟩) hS ?_
          rotate_left
          · intro w hSw; (try dsimp only at hSw); obtain ⟨hs1, hs2, hs3, hs4⟩ := hSw; go_simp; (try with_reducible rfl)
          (try simp only [Act.put, List.setIfInBounds_toArray, List.set_cons_zero, List.set_cons_succ])
          refine wpAnyH_take (i := 20) (oi := { dst := some 63, op := Op.move (Operand.tmp 0), type := 3, pos := "ref.go:77", after := #[{ on := 19, ground := Ground.guard }], guard := some (19, false) }) (v := undef) rfl (by kernel_rfl) (by kernel_rfl) (by kernel_rfl) (fun _ _ _ h => h) (Or.inr ⟨by rfl, rfl⟩) hS ?_
          (try simp only [Act.put, List.setIfInBounds_toArray, List.set_cons_zero, List.set_cons_succ])
          refine wpAnyH_take (i := 21) (oi := { dst := some 64, op := Op.binOp BinOp.eql 3 (Operand.tmp 63) (Operand.const (Value.int IntKind.i64 2)) 3, type := 4, pos := "ref.go:77", after := #[{ on := 20, ground := Ground.data }, { on := 19, ground := Ground.guard }], guard := some (19, false) }) (v := undef) rfl (by kernel_rfl) (by kernel_rfl) (by kernel_rfl) (fun _ _ _ h => h) (Or.inr ⟨by rfl, rfl⟩) hS ?_
          (try simp only [Act.put, List.setIfInBounds_toArray, List.set_cons_zero, List.set_cons_succ])
          refine wpAnyH_take (i := 22) (oi := { dst := some 65, op := Op.move (Operand.tmp 64), type := 4, pos := "ref.go:77", after := #[{ on := 21, ground := Ground.data }, { on := 19, ground := Ground.chain }, { on := 19, ground := Ground.guard }], guard := some (19, false) }) (v := undef) rfl (by kernel_rfl) (by kernel_rfl) (by kernel_rfl) (fun _ _ _ h => h) (Or.inr ⟨by rfl, rfl⟩) hS ?_
          (try simp only [Act.put, List.setIfInBounds_toArray, List.set_cons_zero, List.set_cons_succ])
          refine wpAnyH_take (i := 23) (oi := { dst := some 66, op := Op.move (Operand.tmp 1), type := 22, pos := "ref.go:77", after := #[{ on := 22, ground := Ground.guard }], guard := some (22, true) }) (v := undef) rfl (by kernel_rfl) (by kernel_rfl) (by kernel_rfl) (fun _ _ _ h => h) (Or.inr ⟨by rfl, rfl⟩) hS ?_
          (try simp only [Act.put, List.setIfInBounds_toArray, List.set_cons_zero, List.set_cons_succ])
          refine wpAnyH_take (i := 24) (oi := { dst := some 67, op := Op.move (Operand.tmp 9), type := 3, pos := "ref.go:77", after := #[{ on := 22, ground := Ground.guard }], guard := some (22, true) }) (v := undef) rfl (by kernel_rfl) (by kernel_rfl) (by kernel_rfl) (fun _ _ _ h => h) (Or.inr ⟨by rfl, rfl⟩) hS ?_
          (try simp only [Act.put, List.setIfInBounds_toArray, List.set_cons_zero, List.set_cons_succ])
          refine wpAnyH_take (i := 25) (oi := { dst := some 68, op := Op.indexAddr 22 (Operand.tmp 66) (Operand.tmp 67), type := 0, pos := "ref.go:77", after := #[{ on := 23, ground := Ground.data }, { on := 24, ground := Ground.data }, { on := 22, ground := Ground.guard }], guard := some (22, true) }) (v := undef) rfl (by kernel_rfl) (by kernel_rfl) (by kernel_rfl) (fun _ _ _ h => h) (Or.inr ⟨by rfl, rfl⟩) hS ?_
          (try simp only [Act.put, List.setIfInBounds_toArray, List.set_cons_zero, List.set_cons_succ])
          refine wpAnyH_take (i := 26) (oi := { dst := some 69, op := Op.fieldAddr 28 (Operand.tmp 68) 1, type := 0, pos := "ref.go:77", after := #[{ on := 25, ground := Ground.data }, { on := 22, ground := Ground.guard }], guard := some (22, true) }) (v := undef) rfl (by kernel_rfl) (by kernel_rfl) (by kernel_rfl) (fun _ _ _ h => h) (Or.inr ⟨by rfl, rfl⟩) hS ?_
          (try simp only [Act.put, List.setIfInBounds_toArray, List.set_cons_zero, List.set_cons_succ])
          refine wpAnyH_take (i := 27) (oi := { dst := some 70, op := Op.load 3 (Operand.tmp 69), type := 3, pos := "ref.go:77", after := #[{ on := 26, ground := Ground.data }, { on := 22, ground := Ground.guard }], guard := some (22, true) }) (v := undef) rfl (by kernel_rfl) (by kernel_rfl) (by kernel_rfl) (fun _ _ _ h => h) (Or.inr ⟨by rfl, rfl⟩) hS ?_
          (try simp only [Act.put, List.setIfInBounds_toArray, List.set_cons_zero, List.set_cons_succ])
          refine wpAnyH_take (i := 28) (oi := { dst := some 71, op := Op.move (Operand.tmp 1), type := 22, pos := "ref.go:77", after := #[{ on := 22, ground := Ground.guard }], guard := some (22, true) }) (v := undef) rfl (by kernel_rfl) (by kernel_rfl) (by kernel_rfl) (fun _ _ _ h => h) (Or.inr ⟨by rfl, rfl⟩) hS ?_
          (try simp only [Act.put, List.setIfInBounds_toArray, List.set_cons_zero, List.set_cons_succ])
          refine wpAnyH_take (i := 29) (oi := { dst := some 72, op := Op.move (Operand.tmp 8), type := 3, pos := "ref.go:77", after := #[{ on := 22, ground := Ground.guard }], guard := some (22, true) }) (v := undef) rfl (by kernel_rfl) (by kernel_rfl) (by kernel_rfl) (fun _ _ _ h => h) (Or.inr ⟨by rfl, rfl⟩) hS ?_
          (try simp only [Act.put, List.setIfInBounds_toArray, List.set_cons_zero, List.set_cons_succ])
          refine wpAnyH_take (i := 30) (oi := { dst := some 73, op := Op.indexAddr 22 (Operand.tmp 71) (Operand.tmp 72), type := 0, pos := "ref.go:77", after := #[{ on := 28, ground := Ground.data }, { on := 29, ground := Ground.data }, { on := 22, ground := Ground.guard }], guard := some (22, true) }) (v := undef) rfl (by kernel_rfl) (by kernel_rfl) (by kernel_rfl) (fun _ _ _ h => h) (Or.inr ⟨by rfl, rfl⟩) hS ?_
          (try simp only [Act.put, List.setIfInBounds_toArray, List.set_cons_zero, List.set_cons_succ])
          refine wpAnyH_take (i := 31) (oi := { dst := some 74, op := Op.fieldAddr 28 (Operand.tmp 73) 1, type := 0, pos := "ref.go:77", after := #[{ on := 30, ground := Ground.data }, { on := 22, ground := Ground.guard }], guard := some (22, true) }) (v := undef) rfl (by kernel_rfl) (by kernel_rfl) (by kernel_rfl) (fun _ _ _ h => h) (Or.inr ⟨by rfl, rfl⟩) hS ?_
          (try simp only [Act.put, List.setIfInBounds_toArray, List.set_cons_zero, List.set_cons_succ])
          refine wpAnyH_take (i := 32) (oi := { dst := some 75, op := Op.load 3 (Operand.tmp 74), type := 3, pos := "ref.go:77", after := #[{ on := 31, ground := Ground.data }, { on := 22, ground := Ground.guard }], guard := some (22, true) }) (v := undef) rfl (by kernel_rfl) (by kernel_rfl) (by kernel_rfl) (fun _ _ _ h => h) (Or.inr ⟨by rfl, rfl⟩) hS ?_
          (try simp only [Act.put, List.setIfInBounds_toArray, List.set_cons_zero, List.set_cons_succ])
          refine wpAnyH_take (i := 33) (oi := { dst := some 76, op := Op.binOp BinOp.gtr 3 (Operand.tmp 70) (Operand.tmp 75) 3, type := 4, pos := "ref.go:77", after := #[{ on := 27, ground := Ground.data }, { on := 32, ground := Ground.data }, { on := 22, ground := Ground.guard }], guard := some (22, true) }) (v := undef) rfl (by kernel_rfl) (by kernel_rfl) (by kernel_rfl) (fun _ _ _ h => h) (Or.inr ⟨by rfl, rfl⟩) hS ?_
          (try simp only [Act.put, List.setIfInBounds_toArray, List.set_cons_zero, List.set_cons_succ])
          refine wpAnyH_take (i := 34) (oi := { dst := some 77, op := Op.pick (Operand.tmp 65) (Operand.tmp 76) (Operand.const (Value.bool false)), type := 4, pos := "ref.go:77", after := #[{ on := 22, ground := Ground.data }, { on := 33, ground := Ground.data }, { on := 19, ground := Ground.guard }], guard := some (19, false) }) (v := undef) rfl (by kernel_rfl) (by kernel_rfl) (by kernel_rfl) (fun _ _ _ h => h) (Or.inr ⟨by rfl, rfl⟩) hS ?_
          (try simp only [Act.put, List.setIfInBounds_toArray, List.set_cons_zero, List.set_cons_succ])
          refine wpAnyH_take (i := 35) (oi := { dst := some 78, op := Op.pick (Operand.tmp 62) (Operand.const (Value.bool true)) (Operand.tmp 77), type := 4, pos := "ref.go:77", after := #[{ on := 19, ground := Ground.data }, { on := 34, ground := Ground.data }], guard := none }) (v := ?_) rfl (by kernel_rfl) (by kernel_rfl) (by kernel_rfl) (fun _ _ _ h => h) (Or.inl ⟨by rfl, ?_⟩) hS ?_
          rotate_left
          · intro w hSw; (try dsimp only at hSw); obtain ⟨hs1, hs2, hs3, hs4⟩ := hSw; go_simp; (try with_reducible rfl)
          (try simp only [Act.put, List.setIfInBounds_toArray, List.set_cons_zero, List.set_cons_succ])
          refine wpAnyH_done (by kernel_rfl) ?_ _
          obtain ⟨s1, s2, s3, s4⟩ := hS
          go_wp2
          go_roundw
          case rel => exact ⟨k + 1, by omega, by omega, by go_num, by rw [HZ.out, if_pos hcmp], hbl.trans (s4.mono hbl.size), HA.out⟩
          case measure => simp [intOf]; omega
        · have hd : decide (W2 (ip z) bd < W2 (ip k) bd) = false := decide_eq_false hcmp
          refine wp_region_held_drew (S := fun W => W.cell? ⟨b, off + k * 2, none⟩ = some (.int .u32 (ip k)) ∧ W.cell? ⟨b, off + z * 2, none⟩ = some (.int .u32 (ip z)) ∧ b < W.heap.size ∧ Below wr.heap.size wr W) (by kernel_rfl) ⟨g0, g2, Nat.lt_of_lt_of_le hb sz, (drewN_below wr _).drew⟩ (fun hS => ?_)
          refine wpAnyH_take (i := 0) (oi := { dst := some 43, op := Op.move (Operand.tmp 0), type := 3, pos := "ref.go:77", after := #[], guard := none }) (v := ?_) rfl (by kernel_rfl) (by kernel_rfl) (by kernel_rfl) (fun _ _ _ h => h) (Or.inl ⟨by rfl, ?_⟩) hS ?_
          rotate_left
          · intro w hSw; (try dsimp only at hSw); obtain ⟨hs1, hs2, hs3, hs4⟩ := hSw; go_simp; (try with_reducible rfl)
          (try simp only [Act.put, List.setIfInBounds_toArray, List.set_cons_zero, List.set_cons_succ])
          refine wpAnyH_take (i := 1) (oi := { dst := some 44, op := Op.binOp BinOp.eql 3 (Operand.tmp 43) (Operand.const (Value.int IntKind.i64 1)) 3, type := 4, pos := "ref.go:77", after := #[{ on := 0, ground := Ground.data }], guard := none }) (v := ?_) rfl (by kernel_rfl) (by kernel_rfl) (by kernel_rfl) (fun _ _ _ h => h) (Or.inl ⟨by rfl, ?_⟩) hS ?_
          rotate_left
          · intro w hSw; (try dsimp only at hSw); obtain ⟨hs1, hs2, hs3, hs4⟩ := hSw; go_simp; (try with_reducible rfl)
          (try simp only [Act.put, List.setIfInBounds_toArray, List.set_cons_zero, List.set_cons_succ])
          refine wpAnyH_take (i := 2) (oi := { dst := some 45, op := Op.move (Operand.tmp 44), type := 4, pos := "ref.go:77", after := #[{ on := 1, ground := Ground.data }], guard := none }) (v := ?_) rfl (by kernel_rfl) (by kernel_rfl) (by kernel_rfl) (fun _ _ _ h => h) (Or.inl ⟨by rfl, ?_⟩) hS ?_
          rotate_left
          · intro w hSw; (try dsimp only at hSw); obtain ⟨hs1, hs2, hs3, hs4⟩ := hSw; go_simp; (try with_reducible rfl)
          (try simp only [Act.put, List.setIfInBounds_toArray, List.set_cons_zero, List.set_cons_succ])
          refine wpAnyH_take (i := 3) (oi := { dst := some 46, op := Op.move (Operand.tmp 1), type := 22, pos := "ref.go:77", after := #[{ on := 2, ground := Ground.guard }], guard := some (2, true) }) (v := ?_) rfl (by kernel_rfl) (by kernel_rfl) (by kernel_rfl) (fun _ _ _ h => h) (Or.inl ⟨by rfl, ?_⟩) hS ?_
          rotate_left
          · intro w hSw; (try dsimp only at hSw); obtain ⟨hs1, hs2, hs3, hs4⟩ := hSw; go_simp; (try with_reducible rfl)
          (try simp only [Act.put, List.setIfInBounds_toArray, List.set_cons_zero, List.set_cons_succ])
          refine wpAnyH_take (i := 4) (oi := { dst := some 47, op := Op.move (Operand.tmp 9), type := 3, pos := "ref.go:77", after := #[{ on := 2, ground := Ground.guard }], guard := some (2, true) }) (v := ?_) rfl (by kernel_rfl) (by kernel_rfl) (by kernel_rfl) (fun _ _ _ h => h) (Or.inl ⟨by rfl, ?_⟩) hS ?_
          rotate_left
          · intro w hSw; (try dsimp only at hSw); obtain ⟨hs1, hs2, hs3, hs4⟩ := hSw; go_simp; (try with_reducible rfl)
          (try simp only [Act.put, List.setIfInBounds_toArray, List.set_cons_zero, List.set_cons_succ])
          refine wpAnyH_take (i := 5) (oi := { dst := some 48, op := Op.indexAddr 22 (Operand.tmp 46) (Operand.tmp 47), type := 0, pos := "ref.go:77", after := #[{ on := 3, ground := Ground.data }, { on := 4, ground := Ground.data }, { on := 2, ground := Ground.guard }], guard := some (2, true) }) (v := ?_) rfl (by kernel_rfl) (by kernel_rfl) (by kernel_rfl) (fun _ _ _ h => h) (Or.inl ⟨by rfl, ?_⟩) hS ?_
          rotate_left
          · intro w hSw; (try dsimp only at hSw); obtain ⟨hs1, hs2, hs3, hs4⟩ := hSw; go_simp; (try with_reducible rfl)
          (try simp only [Act.put, List.setIfInBounds_toArray, List.set_cons_zero, List.set_cons_succ])
          refine wpAnyH_take (i := 6) (oi := { dst := some 49, op := Op.fieldAddr 28 (Operand.tmp 48) 0, type := 0, pos := "ref.go:77", after := #[{ on := 5, ground := Ground.data }, { on := 2, ground := Ground.guard }], guard := some (2, true) }) (v := ?_) rfl (by kernel_rfl) (by kernel_rfl) (by kernel_rfl) (fun _ _ _ h => h) (Or.inl ⟨by rfl, ?_⟩) hS ?_
          rotate_left
          · intro w hSw; (try dsimp only at hSw); obtain ⟨hs1, hs2, hs3, hs4⟩ := hSw; go_simp; (try with_reducible rfl)
          (try simp only [Act.put, List.setIfInBounds_toArray, List.set_cons_zero, List.set_cons_succ])
          refine wpAnyH_take (i := 7) (oi := { dst := some 50, op := Op.load 24 (Operand.tmp 49), type := 24, pos := "ref.go:77", after := #[{ on := 6, ground := Ground.data }, { on := 2, ground := Ground.guard }], guard := some (2, true) }) (v := ?_) rfl (by kernel_rfl) (by kernel_rfl) (by kernel_rfl) (fun _ _ _ h => h) (Or.inl ⟨by rfl, ?_⟩) hS ?_
          rotate_left
          · intro w hSw; (try dsimp only at hSw); obtain ⟨hs1, hs2, hs3, hs4⟩ := hSw; go_simp; (try with_reducible rfl)
          (try simp only [Act.put, List.setIfInBounds_toArray, List.set_cons_zero, List.set_cons_succ])
          refine wpAnyH_take (i := 8) (oi := { dst := some 51, op := Op.move (Operand.tmp 2), type := 3, pos := "ref.go:77", after := #[{ on := 2, ground := Ground.guard }], guard := some (2, true) }) (v := ?_) rfl (by kernel_rfl) (by kernel_rfl) (by kernel_rfl) (fun _ _ _ h => h) (Or.inl ⟨by rfl, ?_⟩) hS ?_
          rotate_left
          · intro w hSw; (try dsimp only at hSw); obtain ⟨hs1, hs2, hs3, hs4⟩ := hSw; go_simp; (try with_reducible rfl)
          (try simp only [Act.put, List.setIfInBounds_toArray, List.set_cons_zero, List.set_cons_succ])
          refine wpAnyH_take (i := 10) (oi := { dst := some 53, op := Op.move (Operand.tmp 1), type := 22, pos := "ref.go:77", after := #[{ on := 2, ground := Ground.guard }], guard := some (2, true) }) (v := ?_) rfl (by kernel_rfl) (by kernel_rfl) (by kernel_rfl) (fun _ _ _ h => h) (Or.inl ⟨by rfl, ?_⟩) hS ?_
          rotate_left
          · intro w hSw; (try dsimp only at hSw); obtain ⟨hs1, hs2, hs3, hs4⟩ := hSw; go_simp; (try with_reducible rfl)
          (try simp only [Act.put, List.setIfInBounds_toArray, List.set_cons_zero, List.set_cons_succ])
          refine wpAnyH_take (i := 11) (oi := { dst := some 54, op := Op.move (Operand.tmp 8), type := 3, pos := "ref.go:77", after := #[{ on := 2, ground := Ground.guard }], guard := some (2, true) }) (v := ?_) rfl (by kernel_rfl) (by kernel_rfl) (by kernel_rfl) (fun _ _ _ h => h) (Or.inl ⟨by rfl, ?_⟩) hS ?_
          rotate_left
          · intro w hSw; (try dsimp only at hSw); obtain ⟨hs1, hs2, hs3, hs4⟩ := hSw; go_simp; (try with_reducible rfl)
          (try simp only [Act.put, List.setIfInBounds_toArray, List.set_cons_zero, List.set_cons_succ])
          refine wpAnyH_take (i := 12) (oi := { dst := some 55, op := Op.indexAddr 22 (Operand.tmp 53) (Operand.tmp 54), type := 0, pos := "ref.go:77", after := #[{ on := 10, ground := Ground.data }, { on := 11, ground := Ground.data }, { on := 2, ground := Ground.guard }], guard := some (2, true) }) (v := ?_) rfl (by kernel_rfl) (by kernel_rfl) (by kernel_rfl) (fun _ _ _ h => h) (Or.inl ⟨by rfl, ?_⟩) hS ?_
          rotate_left
          · intro w hSw; (try dsimp only at hSw); obtain ⟨hs1, hs2, hs3, hs4⟩ := hSw; go_simp; (try with_reducible rfl)
          (try simp only [Act.put, List.setIfInBounds_toArray, List.set_cons_zero, List.set_cons_succ])
          refine wpAnyH_take (i := 13) (oi := { dst := some 56, op := Op.fieldAddr 28 (Operand.tmp 55) 0, type := 0, pos := "ref.go:77", after := #[{ on := 12, ground := Ground.data }, { on := 2, ground := Ground.guard }], guard := some (2, true) }) (v := ?_) rfl (by kernel_rfl) (by kernel_rfl) (by kernel_rfl) (fun _ _ _ h => h) (Or.inl ⟨by rfl, ?_⟩) hS ?_
          rotate_left
          · intro w hSw; (try dsimp only at hSw); obtain ⟨hs1, hs2, hs3, hs4⟩ := hSw; go_simp; (try with_reducible rfl)
          (try simp only [Act.put, List.setIfInBounds_toArray, List.set_cons_zero, List.set_cons_succ])
          refine wpAnyH_take (i := 14) (oi := { dst := some 57, op := Op.load 24 (Operand.tmp 56), type := 24, pos := "ref.go:77", after := #[{ on := 13, ground := Ground.data }, { on := 2, ground := Ground.guard }], guard := some (2, true) }) (v := ?_) rfl (by kernel_rfl) (by kernel_rfl) (by kernel_rfl) (fun _ _ _ h => h) (Or.inl ⟨by rfl, ?_⟩) hS ?_
          rotate_left
          · intro w hSw; (try dsimp only at hSw); obtain ⟨hs1, hs2, hs3, hs4⟩ := hSw; go_simp; (try with_reducible rfl)
          (try simp only [Act.put, List.setIfInBounds_toArray, List.set_cons_zero, List.set_cons_succ])
          refine wpAnyH_take (i := 15) (oi := { dst := some 58, op := Op.move (Operand.tmp 2), type := 3, pos := "ref.go:77", after := #[{ on := 2, ground := Ground.guard }], guard := some (2, true) }) (v := ?_) rfl (by kernel_rfl) (by kernel_rfl) (by kernel_rfl) (fun _ _ _ h => h) (Or.inl ⟨by rfl, ?_⟩) hS ?_
          rotate_left
          · intro w hSw; (try dsimp only at hSw); obtain ⟨hs1, hs2, hs3, hs4⟩ := hSw; go_simp; (try with_reducible rfl)
          (try simp only [Act.put, List.setIfInBounds_toArray, List.set_cons_zero, List.set_cons_succ])
          refine wpAnyH_ready (rs := [9]) (by kernel_rfl) (by simp) (AllReadyH.cons (o := { dst := some 52, op := Op.call { callee := Callee.value (Operand.func 9), args := #[Operand.tmp 50, Operand.tmp 51], argTypes := #[24, 3] }, type := 31, pos := "ref.go:77", after := #[{ on := 7, ground := Ground.data }, { on := 8, ground := Ground.data }, { on := 2, ground := Ground.chain }, { on := 2, ground := Ground.guard }], guard := some (2, true) }) rfl (fun K hK => ?_) AllReadyH.nil)
          go_simp
          go_at_call 9
          refine (HW.out _ _ (by omega) (by omega)).mono ?_
          rintro e w1 ⟨rfl, hb1⟩
          replace hS := And.intro ((hb1.cell (p := ⟨b, off + k * 2, none⟩) hS.2.2.1).trans hS.1) (And.intro ((hb1.cell (p := ⟨b, off + z * 2, none⟩) hS.2.2.1).trans hS.2.1) (And.intro (Nat.lt_of_lt_of_le hS.2.2.1 hb1.size) (hS.2.2.2.trans (hb1.mono hS.2.2.2.size))))
          refine hK.out _ _ hS (fun _ => ?_)
          clear hK K
          (try simp only [Act.put, List.setIfInBounds_toArray, List.set_cons_zero, List.set_cons_succ])
          refine wpAnyH_ready (rs := [16]) (by kernel_rfl) (by simp) (AllReadyH.cons (o := { dst := some 59, op := Op.call { callee := Callee.value (Operand.func 9), args := #[Operand.tmp 57, Operand.tmp 58], argTypes := #[24, 3] }, type := 31, pos := "ref.go:77", after := #[{ on := 14, ground := Ground.data }, { on := 15, ground := Ground.data }, { on := 9, ground := Ground.chain }, { on := 2, ground := Ground.guard }], guard := some (2, true) }) rfl (fun K hK => ?_) AllReadyH.nil)
          go_simp
          go_at_call 9
          refine (HW.out _ _ (by omega) (by omega)).mono ?_
          rintro e w2 ⟨rfl, hb2⟩
          replace hS := And.intro ((hb2.cell (p := ⟨b, off + k * 2, none⟩) hS.2.2.1).trans hS.1) (And.intro ((hb2.cell (p := ⟨b, off + z * 2, none⟩) hS.2.2.1).trans hS.2.1) (And.intro (Nat.lt_of_lt_of_le hS.2.2.1 hb2.size) (hS.2.2.2.trans (hb2.mono hS.2.2.2.size))))
          refine hK.out _ _ hS (fun _ => ?_)
          clear hK K
          (try simp only [Act.put, List.setIfInBounds_toArray, List.set_cons_zero, List.set_cons_succ])
          refine wpAnyH_take (i := 17) (oi := { dst := some 60, op := Op.binOp BinOp.gtr 31 (Operand.tmp 52) (Operand.tmp 59) 31, type := 4, pos := "ref.go:77", after := #[{ on := 9, ground := Ground.data }, { on := 16, ground := Ground.data }, { on := 2, ground := Ground.guard }], guard := some (2, true) }) (v := ?_) rfl (by kernel_rfl) (by kernel_rfl) (by kernel_rfl) (fun _ _ _ h => h) (Or.inl ⟨by rfl, ?_⟩) hS ?_
          rotate_left
          · intro w hSw; (try dsimp only at hSw); obtain ⟨hs1, hs2, hs3, hs4⟩ := hSw; go_simp; (try with_reducible rfl)
          (try simp only [Act.put, List.setIfInBounds_toArray, List.set_cons_zero, List.set_cons_succ])
          refine wpAnyH_take (i := 18) (oi := { dst := some 61, op := Op.pick (Operand.tmp 45) (Operand.tmp 60) (Operand.const (Value.bool false)), type := 4, pos := "ref.go:77", after := #[{ on := 2, ground := Ground.data }, { on := 17, ground := Ground.data }], guard := none }) (v := ?_) rfl (by kernel_rfl) (by kernel_rfl) (by kernel_rfl) (fun _ _ _ h => h) (Or.inl ⟨by rfl, ?_⟩) hS ?_
          rotate_left
          · intro w hSw; (try dsimp only at hSw); obtain ⟨hs1, hs2, hs3, hs4⟩ := hSw; go_simp; (try with_reducible rfl)
          (try simp only [Act.put, List.setIfInBounds_toArray, List.set_cons_zero, List.set_cons_succ])
          refine wpAnyH_take (i := 19) (oi := { dst := some 62, op := Op.move (Operand.tmp 61), type := 4, pos := "ref.go:77", after := #[{ on := 18, ground := Ground.data }, { on := 16, ground := Ground.chain }], guard := none }) (v := ?_) rfl (by kernel_rfl) (by kernel_rfl) (by kernel_rfl) (fun _ _ _ h => h) (Or.inl ⟨by rfl, ?_⟩) hS ?_
          rotate_left
          · intro w hSw; (try dsimp only at hSw); obtain ⟨hs1, hs2, hs3, hs4⟩ := hSw; go_simp; (try with_reducible rfl)
          (try simp only [Act.put, List.setIfInBounds_toArray, List.set_cons_zero, List.set_cons_succ])
          refine wpAnyH_take (i := 20) (oi := { dst := some 63, op := Op.move (Operand.tmp 0), type := 3, pos := "ref.go:77", after := #[{ on := 19, ground := Ground.guard }], guard := some (19, false) }) (v := ?_) rfl (by kernel_rfl) (by kernel_rfl) (by kernel_rfl) (fun _ _ _ h => h) (Or.inl ⟨by rfl, ?_⟩) hS ?_
          rotate_left
          · intro w hSw; (try dsimp only at hSw); obtain ⟨hs1, hs2, hs3, hs4⟩ := hSw; go_simp; (try with_reducible rfl)
          (try simp only [Act.put, List.setIfInBounds_toArray, List.set_cons_zero, List.set_cons_succ])
          refine wpAnyH_take (i := 21) (oi := { dst := some 64, op := Op.binOp BinOp.eql 3 (Operand.tmp 63) (Operand.const (Value.int IntKind.i64 2)) 3, type := 4, pos := "ref.go:77", after := #[{ on := 20, ground := Ground.data }, { on := 19, ground := Ground.guard }], guard := some (19, false) }) (v := ?_) rfl (by kernel_rfl) (by kernel_rfl) (by kernel_rfl) (fun _ _ _ h => h) (Or.inl ⟨by rfl, ?_⟩) hS ?_
          rotate_left
          · intro w hSw; (try dsimp only at hSw); obtain ⟨hs1, hs2, hs3, hs4⟩ := hSw; go_simp; (try with_reducible rfl)
          (try simp only [Act.put, List.setIfInBounds_toArray, List.set_cons_zero, List.set_cons_succ])
          refine wpAnyH_take (i := 22) (oi := { dst := some 65, op := Op.move (Operand.tmp 64), type := 4, pos := "ref.go:77", after := #[{ on := 21, ground := Ground.data }, { on := 19, ground := Ground.chain }, { on := 19, ground := Ground.guard }], guard := some (19, false) }) (v := ?_) rfl (by kernel_rfl) (by kernel_rfl) (by kernel_rfl) (fun _ _ _ h => h) (Or.inl ⟨by rfl, ?_⟩) hS ?_
          rotate_left
          · intro w hSw; (try dsimp only at hSw); obtain ⟨hs1, hs2, hs3, hs4⟩ := hSw; go_simp; (try with_reducible rfl)
          (try simp only [Act.put, List.setIfInBounds_toArray, List.set_cons_zero, List.set_cons_succ])
          refine wpAnyH_take (i := 23) (oi := { dst := some 66, op := Op.move (Operand.tmp 1), type := 22, pos := "ref.go:77", after := #[{ on := 22, ground := Ground.guard }], guard := some (22, true) }) (v := undef) rfl (by kernel_rfl) (by kernel_rfl) (by kernel_rfl) (fun _ _ _ h => h) (Or.inr ⟨by rfl, rfl⟩) hS ?_
          (try simp only [Act.put, List.setIfInBounds_toArray, List.set_cons_zero, List.set_cons_succ])
          refine wpAnyH_take (i := 24) (oi := { dst := some 67, op := Op.move (Operand.tmp 9), type := 3, pos := "ref.go:77", after := #[{ on := 22, ground := Ground.guard }], guard := some (22, true) }) (v := undef) rfl (by kernel_rfl) (by kernel_rfl) (by kernel_rfl) (fun _ _ _ h => h) (Or.inr ⟨by rfl, rfl⟩) hS ?_
          (try simp only [Act.put, List.setIfInBounds_toArray, List.set_cons_zero, List.set_cons_succ])
          refine wpAnyH_take (i := 25) (oi := { dst := some 68, op := Op.indexAddr 22 (Operand.tmp 66) (Operand.tmp 67), type := 0, pos := "ref.go:77", after := #[{ on := 23, ground := Ground.data }, { on := 24, ground := Ground.data }, { on := 22, ground := Ground.guard }], guard := some (22, true) }) (v := undef) rfl (by kernel_rfl) (by kernel_rfl) (by kernel_rfl) (fun _ _ _ h => h) (Or.inr ⟨by rfl, rfl⟩) hS ?_
          (try simp only [Act.put, List.setIfInBounds_toArray, List.set_cons_zero, List.set_cons_succ])
          refine wpAnyH_take (i := 26) (oi := { dst := some 69, op := Op.fieldAddr 28 (Operand.tmp 68) 1, type := 0, pos := "ref.go:77", after := #[{ on := 25, ground := Ground.data }, { on := 22, ground := Ground.guard }], guard := some (22, true) }) (v := undef) rfl (by kernel_rfl) (by kernel_rfl) (by kernel_rfl) (fun _ _ _ h => h) (Or.inr ⟨by rfl, rfl⟩) hS ?_
          (try simp only [Act.put, List.setIfInBounds_toArray, List.set_cons_zero, List.set_cons_succ])
          refine wpAnyH_take (i := 27) (oi := { dst := some 70, op := Op.load 3 (Operand.tmp 69), type := 3, pos := "ref.go:77", after := #[{ on := 26, ground := Ground.data }, { on := 22, ground := Ground.guard }], guard := some (22, true) }) (v := undef) rfl (by kernel_rfl) (by kernel_rfl) (by kernel_rfl) (fun _ _ _ h => h) (Or.inr ⟨by rfl, rfl⟩) hS ?_
          (try simp only [Act.put, List.setIfInBounds_toArray, List.set_cons_zero, List.set_cons_succ])
          refine wpAnyH_take (i := 28) (oi := { dst := some 71, op := Op.move (Operand.tmp 1), type := 22, pos := "ref.go:77", after := #[{ on := 22, ground := Ground.guard }], guard := some (22, true) }) (v := undef) rfl (by kernel_rfl) (by kernel_rfl) (by kernel_rfl) (fun _ _ _ h => h) (Or.inr ⟨by rfl, rfl⟩) hS ?_
          (try simp only [Act.put, List.setIfInBounds_toArray, List.set_cons_zero, List.set_cons_succ])
          refine wpAnyH_take (i := 29) (oi := { dst := some 72, op := Op.move (Operand.tmp 8), type := 3, pos := "ref.go:77", after := #[{ on := 22, ground := Ground.guard }], guard := some (22, true) }) (v := undef) rfl (by kernel_rfl) (by kernel_rfl) (by kernel_rfl) (fun _ _ _ h => h) (Or.inr ⟨by rfl, rfl⟩) hS ?_
          (try simp only [Act.put, List.setIfInBounds_toArray, List.set_cons_zero, List.set_cons_succ])
          refine wpAnyH_take (i := 30) (oi := { dst := some 73, op := Op.indexAddr 22 (Operand.tmp 71) (Operand.tmp 72), type := 0, pos := "ref.go:77", after := #[{ on := 28, ground := Ground.data }, { on := 29, ground := Ground.data }, { on := 22, ground := Ground.guard }], guard := some (22, true) }) (v := undef) rfl (by kernel_rfl) (by kernel_rfl) (by kernel_rfl) (fun _ _ _ h => h) (Or.inr ⟨by rfl, rfl⟩) hS ?_
          (try simp only [Act.put, List.setIfInBounds_toArray, List.set_cons_zero, List.set_cons_succ])
          refine wpAnyH_take (i := 31) (oi := { dst := some 74, op := Op.fieldAddr 28 (Operand.tmp 73) 1, type := 0, pos := "ref.go:77", after := #[{ on := 30, ground := Ground.data }, { on := 22, ground := Ground.guard }], guard := some (22, true) }) (v := undef) rfl (by kernel_rfl) (by kernel_rfl) (by kernel_rfl) (fun _ _ _ h => h) (Or.inr ⟨by rfl, rfl⟩) hS ?_
          (try simp only [Act.put, List.setIfInBounds_toArray, List.set_cons_zero, List.set_cons_succ])
          refine wpAnyH_take (i := 32) (oi := { dst := some 75, op := Op.load 3 (Operand.tmp 74), type := 3, pos := "ref.go:77", after := #[{ on := 31, ground := Ground.data }, { on := 22, ground := Ground.guard }], guard := some (22, true) }) (v := undef) rfl (by kernel_rfl) (by kernel_rfl) (by kernel_rfl) (fun _ _ _ h => h) (Or.inr ⟨by rfl, rfl⟩) hS ?_
          (try simp only [Act.put, List.setIfInBounds_toArray, List.set_cons_zero, List.set_cons_succ])
          refine wpAnyH_take (i := 33) (oi := { dst := some 76, op := Op.binOp BinOp.gtr 3 (Operand.tmp 70) (Operand.tmp 75) 3, type := 4, pos := "ref.go:77", after := #[{ on := 27, ground := Ground.data }, { on := 32, ground := Ground.data }, { on := 22, ground := Ground.guard }], guard := some (22, true) }) (v := undef) rfl (by kernel_rfl) (by kernel_rfl) (by kernel_rfl) (fun _ _ _ h => h) (Or.inr ⟨by rfl, rfl⟩) hS ?_
          (try simp only [Act.put, List.setIfInBounds_toArray, List.set_cons_zero, List.set_cons_succ])
          refine wpAnyH_take (i := 34) (oi := { dst := some 77, op := Op.pick (Operand.tmp 65) (Operand.tmp 76) (Operand.const (Value.bool false)), type := 4, pos := "ref.go:77", after := #[{ on := 22, ground := Ground.data }, { on := 33, ground := Ground.data }, { on := 19, ground := Ground.guard }], guard := some (19, false) }) (v := ?_) rfl (by kernel_rfl) (by kernel_rfl) (by kernel_rfl) (fun _ _ _ h => h) (Or.inl ⟨by rfl, ?_⟩) hS ?_
          rotate_left
          · intro w hSw; (try dsimp only at hSw); obtain ⟨hs1, hs2, hs3, hs4⟩ := hSw; go_simp; (try with_reducible rfl)
          (try simp only [Act.put, List.setIfInBounds_toArray, List.set_cons_zero, List.set_cons_succ])
          refine wpAnyH_take (i := 35) (oi := { dst := some 78, op := Op.pick (Operand.tmp 62) (Operand.const (Value.bool true)) (Operand.tmp 77), type := 4, pos := "ref.go:77", after := #[{ on := 19, ground := Ground.data }, { on := 34, ground := Ground.data }], guard := none }) (v := ?_) rfl (by kernel_rfl) (by kernel_rfl) (by kernel_rfl) (fun _ _ _ h => h) (Or.inl ⟨by rfl, ?_⟩) hS ?_
          rotate_left
          · intro w hSw; (try dsimp only at hSw); obtain ⟨hs1, hs2, hs3, hs4⟩ := hSw; go_simp; (try with_reducible rfl)
          (try simp only [Act.put, List.setIfInBounds_toArray, List.set_cons_zero, List.set_cons_succ])
          refine wpAnyH_done (by kernel_rfl) ?_ _
          obtain ⟨s1, s2, s3, s4⟩ := hS
          go_wp2
          go_roundw
          case rel => exact ⟨k + 1, by omega, by omega, by go_num, by rw [HZ.out, if_neg hcmp], hbl.trans (s4.mono hbl.size), HA.out⟩
          case measure => simp [intOf]; omega
    · have hkn : k = n := by omega
      have HK := Lib.hid hkn
      have hOk : Hid (Asc ip n ∧ 0 < n ∧ (0 : Int) ≤ 1 ∧ (1 : Int) ≤ 2 ∧ 0 ≤ bd) := ⟨hkn ▸ ha.out, hn0, by omega, by omega, hbd⟩
      have hge : ¬ (k : Int) < n := by omega
      clear ha hkn
      have hzl := bst_lt (fun i => W2 (ip i) bd) k (by omega)
      obtain ⟨z, hz⟩ : ∃ z, z = bst (fun i => W2 (ip i) bd) k := ⟨_, rfl⟩
      rw [← hz] at hzl ⊢
      have HE := Lib.hid hz
      clear hz
      have z1 : (0 : Int) ≤ z := by omega
      have z2 : (z : Int) < n := by omega
      have g := (hbl.cell (p := ⟨b, off + z * 2, none⟩) hb).trans (K0.out z (by omega))
      go_wp2
      go_ret2
      exact ⟨elR_yes hOk.out (by simp [sel]; rw [HE.out, HK.out, HR.out]), hbl⟩

end Go.Proofs.Ytiellonfgcmaaaa
