/- The walks of the weights and of the first greatest key: what 'Weight' (both texts) and 'best' compute. -/
import Derived.Test.YtiellonfgcmaaaaGreatChecked
import Derived.WalkKit
import Derived.LoopTactic
import Derived.Lib.Hide
import Derived.Deep.QuietTactic
import Derived.BigQuiet
import Derived.Deep.RegionHeld3
namespace Go.Proofs.YtiellonfgcmaaaaGreat
open Go.RowKit Go.ChangeShapes

/-- One step of the hash. -/
def fnv1 (h b : Int) : Int := IntKind.u64.wrap (bits .xor .u64 h (IntKind.u64.wrap b) * 1099511628211)
def fnv8 (b0 b1 b2 b3 b4 b5 b6 b7 : Int) : Int := fnv1 (fnv1 (fnv1 (fnv1 (fnv1 (fnv1 (fnv1 (fnv1 14695981039346656037 b0) b1) b2) b3) b4) b5) b6) b7
/-- The weight of an address for a bridge domain. -/
def wt (ip bd : Int) : Int := fnv8 (ip / 16777216 % 256) (ip / 65536 % 256) (ip / 256 % 256) (ip % 256) (IntKind.u64.wrap bd % 4294967296 / 16777216) (IntKind.u64.wrap bd % 4294967296 / 65536 % 256) (IntKind.u64.wrap bd % 4294967296 / 256 % 256) (IntKind.u64.wrap bd % 256)
theorem ret_int {k : IntKind} {a b : Int} (h : a = b) : Ending.returned (.int k a) = .returned (.int k b) := by rw [h]
theorem bcell {W w1 : World} (hb : Below W.heap.size W w1) : (∀ b o, b < W.heap.size → w1.cell? ⟨b, o, none⟩ = W.cell? ⟨b, o, none⟩) ∧ (∀ b o, b < W.heap.size → w1.frozen? ⟨b, o, none⟩ = W.frozen? ⟨b, o, none⟩) :=
  ⟨fun b o h => hb.cell (p := ⟨b, o, none⟩) h, fun b o h => hb.frozen (p := ⟨b, o, none⟩) h⟩

set_option maxRecDepth 100000 in
set_option maxHeartbeats 4000000 in
theorem hash_any (b0 b1 b2 b3 b4 b5 b6 b7 : Int) (w : World) :
    Calls Tryz.prog 146 #[(.agg #[.int .u8 b0, .int .u8 b1, .int .u8 b2, .int .u8 b3, .int .u8 b4, .int .u8 b5, .int .u8 b6, .int .u8 b7])] w fun e w' => e = .returned (.int .u64 (fnv8 b0 b1 b2 b3 b4 b5 b6 b7)) ∧ Below w.heap.size w w' := by
  have i0 : ∀ w, (Instr.index 209 (.agg #[.int .u8 b0, .int .u8 b1, .int .u8 b2, .int .u8 b3, .int .u8 b4, .int .u8 b5, .int .u8 b6, .int .u8 b7]) (.int .i64 0)).run Tryz.prog w = .ok (.int .u8 b0) w := fun _ => by kernel_rfl
  have i1 : ∀ w, (Instr.index 209 (.agg #[.int .u8 b0, .int .u8 b1, .int .u8 b2, .int .u8 b3, .int .u8 b4, .int .u8 b5, .int .u8 b6, .int .u8 b7]) (.int .i64 1)).run Tryz.prog w = .ok (.int .u8 b1) w := fun _ => by kernel_rfl
  have i2 : ∀ w, (Instr.index 209 (.agg #[.int .u8 b0, .int .u8 b1, .int .u8 b2, .int .u8 b3, .int .u8 b4, .int .u8 b5, .int .u8 b6, .int .u8 b7]) (.int .i64 2)).run Tryz.prog w = .ok (.int .u8 b2) w := fun _ => by kernel_rfl
  have i3 : ∀ w, (Instr.index 209 (.agg #[.int .u8 b0, .int .u8 b1, .int .u8 b2, .int .u8 b3, .int .u8 b4, .int .u8 b5, .int .u8 b6, .int .u8 b7]) (.int .i64 3)).run Tryz.prog w = .ok (.int .u8 b3) w := fun _ => by kernel_rfl
  have i4 : ∀ w, (Instr.index 209 (.agg #[.int .u8 b0, .int .u8 b1, .int .u8 b2, .int .u8 b3, .int .u8 b4, .int .u8 b5, .int .u8 b6, .int .u8 b7]) (.int .i64 4)).run Tryz.prog w = .ok (.int .u8 b4) w := fun _ => by kernel_rfl
  have i5 : ∀ w, (Instr.index 209 (.agg #[.int .u8 b0, .int .u8 b1, .int .u8 b2, .int .u8 b3, .int .u8 b4, .int .u8 b5, .int .u8 b6, .int .u8 b7]) (.int .i64 5)).run Tryz.prog w = .ok (.int .u8 b5) w := fun _ => by kernel_rfl
  have i6 : ∀ w, (Instr.index 209 (.agg #[.int .u8 b0, .int .u8 b1, .int .u8 b2, .int .u8 b3, .int .u8 b4, .int .u8 b5, .int .u8 b6, .int .u8 b7]) (.int .i64 6)).run Tryz.prog w = .ok (.int .u8 b6) w := fun _ => by kernel_rfl
  have i7 : ∀ w, (Instr.index 209 (.agg #[.int .u8 b0, .int .u8 b1, .int .u8 b2, .int .u8 b3, .int .u8 b4, .int .u8 b5, .int .u8 b6, .int .u8 b7]) (.int .i64 7)).run Tryz.prog w = .ok (.int .u8 b7) w := fun _ => by kernel_rfl
  go_enter Tryz.func146, Tryz.ntmps146
  go_wp2
  refine wp_loop_rounds 9 ?_
  rw [rounds_succ]
  go_wp2
  rw [rounds_succ]
  go_wp2
  rw [rounds_succ]
  go_wp2
  rw [rounds_succ]
  go_wp2
  rw [rounds_succ]
  go_wp2
  rw [rounds_succ]
  go_wp2
  rw [rounds_succ]
  go_wp2
  rw [rounds_succ]
  go_wp2
  rw [rounds_succ]
  go_wp2
  go_ret
  refine ⟨ret_int ?_, (Below.refl _ _).alloc (Nat.le_refl _) _⟩
  unfold fnv8 fnv1
  with_reducible rfl

set_option maxRecDepth 100000 in
set_option maxHeartbeats 4000000 in
theorem weight_any (ip bd : Int) (w : World) :
    Calls Tryz.prog 94 #[.int .u32 ip, .int .i64 bd] w fun e w' => e = .returned (.int .u64 (wt ip bd)) ∧ Below w.heap.size w w' := by
  go_enter Tryz.func94, Tryz.ntmps94
  go_wp2_with (go_at_call 146; refine (hash_any _ _ _ _ _ _ _ _ _).mono ?_; rintro e w' ⟨rfl, hb⟩)
  go_ret
  exact ⟨ret_int rfl, hb⟩

set_option maxHeartbeats 4000000 in
theorem key2 (x p bd : Int) (B : Nat) (w : World) (hB : B < w.heap.size) (hc : w.cell? ⟨B, 0, none⟩ = some (.int .i64 bd)) :
    Calls Tryz.prog 93 #[.agg #[.int .u32 x, .int .i64 p], .pointer (some ⟨B, 0, none⟩)] w fun e w' => e = .returned (.int .u64 (wt x bd)) ∧ Below w.heap.size w w' := by
  have hc' : (w.alloc (.cells #[.int .u32 x, .int .i64 p] 35)).cell? ⟨B, 0, none⟩ = some (.int .i64 bd) := by rw [World.cell?_alloc_past _ _ _ hB]; exact hc
  go_enter Tryz.func93, Tryz.ntmps93
  go_wp2_with (go_at_call 94; refine (weight_any _ _ _).mono ?_; rintro e w' ⟨rfl, hb⟩)
  go_ret
  exact ⟨rfl, ((Below.refl _ _).alloc (Nat.le_refl _) _).trans (hb.mono (by simp))⟩

set_option maxHeartbeats 4000000 in
theorem key3 (x p : Int) (w : World) :
    Calls Tryz.prog 97 #[.agg #[.int .u32 x, .int .i64 p]] w fun e w' => e = .returned (.int .i64 p) ∧ Below w.heap.size w w' := by
  go_enter Tryz.func97, Tryz.ntmps97
  go_wp2
  go_ret
  exact ⟨rfl, ((Below.refl _ _).alloc (Nat.le_refl _) _)⟩

/-- Block g holds the two cells, and they may be written. -/
def Two (w : World) (g : Nat) (x y : Value) : Prop := g < w.heap.size ∧ w.cell? ⟨g, 0, none⟩ = some x ∧ w.cell? ⟨g, 1, none⟩ = some y ∧ w.frozen? ⟨g, 0, none⟩ = false ∧ w.frozen? ⟨g, 1, none⟩ = false

/-- The place of the first greatest key among the first k. -/
def bst (key : Nat → Int) : Nat → Nat
  | 0 => 0
  | k + 1 => if key (bst key k) < key k then k else bst key k
theorem bst_succ (key : Nat → Int) (k : Nat) : bst key (k + 1) = if key (bst key k) < key k then k else bst key k := rfl
theorem bst_one (key : Nat → Int) : bst key 1 = 0 := by simp [bst]
theorem bst_lt (key : Nat → Int) (k : Nat) (h : 0 < k) : bst key k < k := by
  induction k with
  | zero => omega
  | succ k ih =>
    unfold bst
    split
    · omega
    · rcases Nat.eq_zero_or_pos k with rfl | h0
      · simp [bst]
      · have := ih h0; omega

set_option maxRecDepth 100000 in
set_option maxHeartbeats 4000000 in
theorem best2 (b off n c B : Nat) (ip pr : Nat → Int) (bd : Int) (w : World) (hn : n ≤ 100) (hn0 : 0 < n) (hnc : n ≤ c) (hb : b < w.heap.size) (hB : B < w.heap.size) (hc : w.cell? ⟨B, 0, none⟩ = some (.int .i64 bd))
   (hc0 : ∀ i, i < n → w.cell? ⟨b, off + i * 2, none⟩ = some (.int .u32 (ip i))) (hc1 : ∀ i, i < n → w.cell? ⟨b, off + i * 2 + 1, none⟩ = some (.int .i64 (pr i))) :
    Calls Tryz.prog 92 #[.slice (some ⟨b, off, none⟩) n c, .func (.func 93) #[] #[.pointer (some ⟨B, 0, none⟩)]] w fun e w' => e = .returned (.int .u32 (ip (bst (fun i => wt (ip i) bd) n))) ∧ Below w.heap.size w w' := by
  have g0 := hc0 0 hn0
  have g1 := hc1 0 hn0
  simp only [Nat.zero_mul, Nat.add_zero] at g0 g1
  have hn1 : (0 : Int) < n := by omega
  have hn2 : (1 : Int) ≤ n := by omega
  have hnc' : (n : Int) ≤ c := by omega
  obtain ⟨W2, hW⟩ : ∃ f : Int → Int → Int, f = wt := ⟨_, rfl⟩
  have hkey : ∀ (x p : Int) (w : World), B < w.heap.size → w.cell? ⟨B, 0, none⟩ = some (.int .i64 bd) → Calls Tryz.prog 93 #[.agg #[.int .u32 x, .int .i64 p], .pointer (some ⟨B, 0, none⟩)] w fun e w' => e = .returned (.int .u64 (W2 x bd)) ∧ Below w.heap.size w w' := by
    intro x p w h1 h2
    rw [hW]
    exact key2 x p bd B w h1 h2
  have HKEY := Lib.hid hkey
  rw [← hW]
  clear hkey hW
  by_cases hc1' : c = 1
  · have hn' : n = 1 := by omega
    subst hn' hc1'
    go_enter Tryz.func92, Tryz.ntmps92
    go_wp2
    refine wp_loop_rounds 1 ?_
    rw [rounds_succ]
    go_wp2
    go_ret
    exact ⟨ret_int (by rw [bst_one]), (Below.refl _ _).alloc (Nat.le_refl _) _⟩
  · go_enter Tryz.func92, Tryz.ntmps92
    go_wp2
    go_loopw [14] (fun i wr => ∃ k : Nat, k ≤ n - 1 ∧ i = .int .i64 k ∧ Below w.heap.size w wr ∧ Two wr w.heap.size (.int .u32 (ip (bst (fun i => W2 (ip i) bd) (k + 1)))) (.int .i64 (pr (bst (fun i => W2 (ip i) bd) (k + 1))))) (fun i _ => n - (intOf i).toNat)
    case atStart => exact ⟨0, Nat.zero_le _, rfl, (Below.refl _ _).alloc (Nat.le_refl _) _, by simp, by go_simp; simp [bst], by go_simp; simp [bst], by go_simp, by go_simp⟩
    case round =>
      obtain ⟨k, hk, rfl, hbl, h2⟩ := hrel
      have hzz := bst_succ (fun i => W2 (ip i) bd) (k + 1)
      have hzl := bst_lt (fun i => W2 (ip i) bd) (k + 1) (by omega)
      obtain ⟨z, hz⟩ : ∃ z, z = bst (fun i => W2 (ip i) bd) (k + 1) := ⟨_, rfl⟩
      rw [← hz] at h2 hzz hzl
      have HE := Lib.hid hz
      have HZ := Lib.hid hzz
      clear hzz hz
      obtain ⟨h20, h21, h22, h23, h24⟩ := h2
      by_cases hlt : k < n - 1
      · have hlt' : (k : Int) < (n - 1 : Nat) := by omega
        have e0 := (hbl.cell (p := ⟨b, off + (k + 1) * 2, none⟩) hb).trans (hc0 (k + 1) (by omega))
        have e1 := (hbl.cell (p := ⟨b, off + (k + 1) * 2 + 1, none⟩) hb).trans (hc1 (k + 1) (by omega))
        rw [show off + (k + 1) * 2 = off + 2 + k * 2 by omega] at e0 e1
        go_wp2
        have hbB : Below w.heap.size w wr := hbl
        have sz := hbl.size
        have cB : wr.cell? ⟨B, 0, none⟩ = some (.int .i64 bd) := (hbl.cell (p := ⟨B, 0, none⟩) hB).trans hc
        have cB' : (wr.alloc (.cells #[.int .u32 (ip (k + 1)), .int .i64 (pr (k + 1))] 35)).cell? ⟨B, 0, none⟩ = some (.int .i64 bd) := by rw [World.cell?_alloc_past _ _ _ (by show B < _; omega)]; exact cB
        go_region_held3 (fun W => W.cell? ⟨B, 0, none⟩ = some (.int .i64 bd) ∧ W.cell? ⟨w.heap.size, 0, none⟩ = some (.int .u32 (ip z)) ∧ W.cell? ⟨w.heap.size, 1, none⟩ = some (.int .i64 (pr z)) ∧
            W.cell? ⟨wr.heap.size, 0, none⟩ = some (.int .u32 (ip (k + 1))) ∧ W.cell? ⟨wr.heap.size, 1, none⟩ = some (.int .i64 (pr (k + 1))) ∧ wr.heap.size + 1 ≤ W.heap.size ∧ Below (wr.heap.size + 1) (wr.alloc (.cells #[.int .u32 (ip (k + 1)), .int .i64 (pr (k + 1))] 35)) W)
          (first
            | (refine ⟨?_, ?_, ?_, ?_, ?_, ?_, (Below.refl _ _).drew⟩ <;> first | go_keep | (simp; done))
            | (go_split_ands
               refine ⟨(hb'.cell (by show B < _; omega)).trans (by assumption), (hb'.cell (by show w.heap.size < _; omega)).trans (by assumption), (hb'.cell (by show w.heap.size < _; omega)).trans (by assumption), (hb'.cell (by show wr.heap.size < _; omega)).trans (by assumption), (hb'.cell (by show wr.heap.size < _; omega)).trans (by assumption), by have := hb'.size; omega, ?_⟩
               refine Below.trans (by assumption) (hb'.mono (by omega))))
          ((first | (go_at_call 93; refine (HKEY.out _ _ _ (by go_split_ands; omega) (by go_split_ands; assumption)).mono ?_; rintro e w' ⟨rfl, hb'⟩)))
        rename_i hH
        obtain ⟨s1, s2, s3, s4, s5, s6, s7⟩ := hH
        have f0 : w'.frozen? ⟨w.heap.size, 0, none⟩ = false := (s7.frozen (p := ⟨w.heap.size, 0, none⟩) (by show w.heap.size < _; omega)).trans (by rw [World.frozen?_alloc_past _ _ _ h20]; exact h23)
        have f1 : w'.frozen? ⟨w.heap.size, 1, none⟩ = false := (s7.frozen (p := ⟨w.heap.size, 1, none⟩) (by show w.heap.size < _; omega)).trans (by rw [World.frozen?_alloc_past _ _ _ h20]; exact h24)
        have hbw : Below w.heap.size w w' := (hbl.alloc (by omega) _).trans (s7.mono (by omega))
        by_cases hcmp : W2 (ip z) bd < W2 (ip (k + 1)) bd
        · go_wp2
          go_roundw
          case rel => exact ⟨k + 1, by omega, by go_num, (hbw.setCell (by simp) _).setCell (by simp) _, by rw [HZ.out, if_pos hcmp]; exact ⟨by simp; omega, by go_simp, by go_simp, by go_simp, by go_simp⟩⟩
          case measure => simp [intOf]; omega
        · go_wp2
          go_roundw
          case rel => exact ⟨k + 1, by omega, by go_num, hbw, by rw [HZ.out, if_neg hcmp]; exact ⟨by omega, s2, s3, f0, f1⟩⟩
          case measure => simp [intOf]; omega
      · have hkn : k + 1 = n := by omega
        have hge : ¬ (k : Int) < (n - 1 : Nat) := by omega
        have HK := Lib.hid hkn
        clear hkn
        go_wp2
        go_ret
        exact ⟨ret_int (by rw [HE.out, HK.out]), hbl⟩

set_option maxRecDepth 100000 in
set_option maxHeartbeats 4000000 in
theorem best3 (b off n c : Nat) (ip pr : Nat → Int) (w : World) (hn : n ≤ 100) (hn0 : 0 < n) (hnc : n ≤ c) (hb : b < w.heap.size)
   (hc0 : ∀ i, i < n → w.cell? ⟨b, off + i * 2, none⟩ = some (.int .u32 (ip i))) (hc1 : ∀ i, i < n → w.cell? ⟨b, off + i * 2 + 1, none⟩ = some (.int .i64 (pr i))) :
    Calls Tryz.prog 96 #[.slice (some ⟨b, off, none⟩) n c, .func (.func 97) #[] #[]] w fun e w' => e = .returned (.int .u32 (ip (bst pr n))) ∧ Below w.heap.size w w' := by
  have g0 := hc0 0 hn0
  have g1 := hc1 0 hn0
  simp only [Nat.zero_mul, Nat.add_zero] at g0 g1
  have hn1 : (0 : Int) < n := by omega
  have hn2 : (1 : Int) ≤ n := by omega
  have hnc' : (n : Int) ≤ c := by omega
  by_cases hc1' : c = 1
  · have hn' : n = 1 := by omega
    subst hn' hc1'
    go_enter Tryz.func96, Tryz.ntmps96
    go_wp2
    refine wp_loop_rounds 1 ?_
    rw [rounds_succ]
    go_wp2
    go_ret
    exact ⟨ret_int (by rw [bst_one]), (Below.refl _ _).alloc (Nat.le_refl _) _⟩
  · go_enter Tryz.func96, Tryz.ntmps96
    go_wp2
    go_loopw [14] (fun i wr => ∃ k : Nat, k ≤ n - 1 ∧ i = .int .i64 k ∧ Below w.heap.size w wr ∧ Two wr w.heap.size (.int .u32 (ip (bst pr (k + 1)))) (.int .i64 (pr (bst pr (k + 1))))) (fun i _ => n - (intOf i).toNat)
    case atStart => exact ⟨0, Nat.zero_le _, rfl, (Below.refl _ _).alloc (Nat.le_refl _) _, by simp, by go_simp; simp [bst], by go_simp; simp [bst], by go_simp, by go_simp⟩
    case round =>
      obtain ⟨k, hk, rfl, hbl, h2⟩ := hrel
      have hzz := bst_succ pr (k + 1)
      have hzl := bst_lt pr (k + 1) (by omega)
      obtain ⟨z, hz⟩ : ∃ z, z = bst pr (k + 1) := ⟨_, rfl⟩
      rw [← hz] at h2 hzz hzl
      have HE := Lib.hid hz
      have HZ := Lib.hid hzz
      clear hzz hz
      obtain ⟨h20, h21, h22, h23, h24⟩ := h2
      by_cases hlt : k < n - 1
      · have hlt' : (k : Int) < (n - 1 : Nat) := by omega
        have e0 := (hbl.cell (p := ⟨b, off + (k + 1) * 2, none⟩) hb).trans (hc0 (k + 1) (by omega))
        have e1 := (hbl.cell (p := ⟨b, off + (k + 1) * 2 + 1, none⟩) hb).trans (hc1 (k + 1) (by omega))
        rw [show off + (k + 1) * 2 = off + 2 + k * 2 by omega] at e0 e1
        go_wp2
        have hbB : Below w.heap.size w wr := hbl
        have sz := hbl.size
        go_region_held3 (fun W => W.cell? ⟨w.heap.size, 0, none⟩ = some (.int .u32 (ip z)) ∧ W.cell? ⟨w.heap.size, 1, none⟩ = some (.int .i64 (pr z)) ∧
            W.cell? ⟨wr.heap.size, 0, none⟩ = some (.int .u32 (ip (k + 1))) ∧ W.cell? ⟨wr.heap.size, 1, none⟩ = some (.int .i64 (pr (k + 1))) ∧ wr.heap.size + 1 ≤ W.heap.size ∧ Below (wr.heap.size + 1) (wr.alloc (.cells #[.int .u32 (ip (k + 1)), .int .i64 (pr (k + 1))] 35)) W)
          (first
            | (refine ⟨?_, ?_, ?_, ?_, ?_, (Below.refl _ _).drew⟩ <;> first | go_keep | (simp; done))
            | (go_split_ands
               refine ⟨(hb'.cell (by show w.heap.size < _; omega)).trans (by assumption), (hb'.cell (by show w.heap.size < _; omega)).trans (by assumption), (hb'.cell (by show wr.heap.size < _; omega)).trans (by assumption), (hb'.cell (by show wr.heap.size < _; omega)).trans (by assumption), by have := hb'.size; omega, ?_⟩
               refine Below.trans (by assumption) (hb'.mono (by omega))))
          ((first | (go_at_call 97; refine (key3 _ _ _).mono ?_; rintro e w' ⟨rfl, hb'⟩)))
        rename_i hH
        obtain ⟨s2, s3, s4, s5, s6, s7⟩ := hH
        have f0 : w'.frozen? ⟨w.heap.size, 0, none⟩ = false := (s7.frozen (p := ⟨w.heap.size, 0, none⟩) (by show w.heap.size < _; omega)).trans (by rw [World.frozen?_alloc_past _ _ _ h20]; exact h23)
        have f1 : w'.frozen? ⟨w.heap.size, 1, none⟩ = false := (s7.frozen (p := ⟨w.heap.size, 1, none⟩) (by show w.heap.size < _; omega)).trans (by rw [World.frozen?_alloc_past _ _ _ h20]; exact h24)
        have hbw : Below w.heap.size w w' := (hbl.alloc (by omega) _).trans (s7.mono (by omega))
        by_cases hcmp : pr z < pr (k + 1)
        · go_wp2
          go_roundw
          case rel => exact ⟨k + 1, by omega, by go_num, (hbw.setCell (by simp) _).setCell (by simp) _, by rw [HZ.out, if_pos hcmp]; exact ⟨by simp; omega, by go_simp, by go_simp, by go_simp, by go_simp⟩⟩
          case measure => simp [intOf]; omega
        · go_wp2
          go_roundw
          case rel => exact ⟨k + 1, by omega, by go_num, hbw, by rw [HZ.out, if_neg hcmp]; exact ⟨by omega, s2, s3, f0, f1⟩⟩
          case measure => simp [intOf]; omega
      · have hkn : k + 1 = n := by omega
        have hge : ¬ (k : Int) < (n - 1 : Nat) := by omega
        have HK := Lib.hid hkn
        clear hkn
        go_wp2
        go_ret
        exact ⟨ret_int (by rw [HE.out, HK.out]), hbl⟩

end Go.Proofs.YtiellonfgcmaaaaGreat
