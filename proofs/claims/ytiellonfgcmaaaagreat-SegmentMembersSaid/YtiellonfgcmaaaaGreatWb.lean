/- The walks of the program's election: 'Elect' returns what 'elR' says. -/
import Derived.Test.YtiellonfgcmaaaaGreatWa

import Derived.Laws.EntriesVeiled
namespace Go.Proofs.YtiellonfgcmaaaaGreat
open Go.RowKit Go.ChangeShapes
/-- Ascending addresses. -/
def Asc (ip : Nat → Int) (k : Nat) : Prop := ∀ i, i + 1 < k → ip i < ip (i + 1)
/-- Which candidate is elected. -/
def sel (alg bd : Int) (n : Nat) (ip pr : Nat → Int) : Nat := if alg = 0 then (bd % n).toNat else if alg = 1 then bst (fun i => wt (ip i) bd) n else bst pr n
open Classical in
noncomputable def elOk (alg bd : Int) (n : Nat) (ip : Nat → Int) : Bool := decide (Asc ip n ∧ 0 < n ∧ 0 ≤ alg ∧ alg ≤ 2 ∧ 0 ≤ bd)
noncomputable def elV (alg bd : Int) (n : Nat) (ip pr : Nat → Int) : Int := if elOk alg bd n ip = true then ip (sel alg bd n ip pr) else 0
noncomputable def elR (alg bd : Int) (n : Nat) (ip pr : Nat → Int) : Ending := .returned (.tuple #[.int .u32 (elV alg bd n ip pr), .bool (elOk alg bd n ip)])
theorem elR_no {alg bd : Int} {n : Nat} {ip pr : Nat → Int} (h : ¬ (Asc ip n ∧ 0 < n ∧ 0 ≤ alg ∧ alg ≤ 2 ∧ 0 ≤ bd)) : Ending.returned (.tuple #[.int .u32 0, .bool false]) = elR alg bd n ip pr := by
  have : elOk alg bd n ip = false := by unfold elOk; classical exact decide_eq_false h
  unfold elR elV; rw [this]; rfl
theorem elR_yes {alg bd : Int} {n : Nat} {ip pr : Nat → Int} (h : Asc ip n ∧ 0 < n ∧ 0 ≤ alg ∧ alg ≤ 2 ∧ 0 ≤ bd) {v : Int} (hv : v = ip (sel alg bd n ip pr)) : Ending.returned (.tuple #[.int .u32 v, .bool true]) = elR alg bd n ip pr := by
  have : elOk alg bd n ip = true := by unfold elOk; classical exact decide_eq_true h
  unfold elR elV; rw [this, if_pos rfl, hv]

set_option maxHeartbeats 4000000 in
theorem algs_any (w : World) : Calls Tryz.prog 67 #[] w fun e w' => e = .returned (.agg #[.func (.func 90) #[] #[], .func (.func 91) #[] #[], .func (.func 95) #[] #[]]) ∧ Below w.heap.size w w' := by
  go_enter Tryz.func67, Tryz.ntmps67
  go_wp2
  exact bodyPost_ret (v := .agg #[.func (.func 90) #[] #[], .func (.func 91) #[] #[], .func (.func 95) #[] #[]]) (by simp [results, Tryz.results67, go_sem]) rfl ⟨rfl, (Below.refl _ _).alloc (Nat.le_refl _) _⟩

set_option maxHeartbeats 4000000 in
theorem modulo_any (bd : Int) (b off n c : Nat) (ip : Nat → Int) (w : World) (hn0 : 0 < n) (hn : n ≤ 100) (hbd : 0 ≤ bd) (hbd' : bd ≤ 9223372036854775807)
   (hc0 : ∀ i, i < n → w.cell? ⟨b, off + i * 2, none⟩ = some (.int .u32 (ip i))) :
    Calls Tryz.prog 90 #[.slice (some ⟨b, off, none⟩) n c, .int .i64 bd] w fun e w' => e = .returned (.int .u32 (ip (bd % n).toNat)) ∧ w' = w := by
  have h1 : (0 : Int) < n := by omega
  have h2 : 0 ≤ bd % n := Int.emod_nonneg _ (by omega)
  have h3 : bd % n < n := Int.emod_lt_of_pos _ h1
  have g := hc0 (bd % n).toNat (by omega)
  go_enter Tryz.func90, Tryz.ntmps90
  go_wp2
  go_ret
  exact ⟨rfl, rfl⟩

set_option maxHeartbeats 4000000 in
theorem highest_any (bd : Int) (b off n c : Nat) (ip pr : Nat → Int) (w : World) (hn : n ≤ 100) (hn0 : 0 < n) (hnc : n ≤ c) (hb : b < w.heap.size)
   (hc0 : ∀ i, i < n → w.cell? ⟨b, off + i * 2, none⟩ = some (.int .u32 (ip i))) (hc1 : ∀ i, i < n → w.cell? ⟨b, off + i * 2 + 1, none⟩ = some (.int .i64 (pr i))) :
    Calls Tryz.prog 91 #[.slice (some ⟨b, off, none⟩) n c, .int .i64 bd] w fun e w' => e = .returned (.int .u32 (ip (bst (fun i => wt (ip i) bd) n))) ∧ Below w.heap.size w w' := by
  have hmf : ∀ (fn : Fn) (first cap : Array Value) (w : World), (Instr.makeFunc fn first cap).run Tryz.prog w = .ok (.func fn first cap) w := fun _ _ _ _ => rfl
  have H := Lib.hid (best2 b off n c w.heap.size ip pr bd (w.alloc (.cells #[.int .i64 bd] 3)) hn hn0 hnc (by simp; omega) (by simp) (by go_simp)
    (fun i hi => by rw [World.cell?_alloc_past _ _ _ hb]; exact hc0 i hi) (fun i hi => by rw [World.cell?_alloc_past _ _ _ hb]; exact hc1 i hi))
  clear hc0 hc1
  go_enter Tryz.func91, Tryz.ntmps91
  go_wp2_with fail
  refine H.out.mono ?_
  rintro e w' ⟨rfl, hb'⟩
  go_wp2
  go_ret
  exact ⟨rfl, ((Below.refl _ _).alloc (Nat.le_refl _) _).trans (hb'.mono (by simp))⟩

set_option maxHeartbeats 4000000 in
theorem prefer_any (bd : Int) (b off n c : Nat) (ip pr : Nat → Int) (w : World) (hn : n ≤ 100) (hn0 : 0 < n) (hnc : n ≤ c) (hb : b < w.heap.size)
   (hc0 : ∀ i, i < n → w.cell? ⟨b, off + i * 2, none⟩ = some (.int .u32 (ip i))) (hc1 : ∀ i, i < n → w.cell? ⟨b, off + i * 2 + 1, none⟩ = some (.int .i64 (pr i))) :
    Calls Tryz.prog 95 #[.slice (some ⟨b, off, none⟩) n c, .int .i64 bd] w fun e w' => e = .returned (.int .u32 (ip (bst pr n))) ∧ Below w.heap.size w w' := by
  have H := Lib.hid (best3 b off n c ip pr w hn hn0 hnc hb hc0 hc1)
  clear hc0 hc1
  go_enter Tryz.func95, Tryz.ntmps95
  go_wp2_with fail
  refine H.out.mono ?_
  rintro e w' ⟨rfl, hb'⟩
  go_wp2
  go_ret
  exact ⟨rfl, hb'⟩


theorem asc_one (ip : Nat → Int) : Hid (Asc ip 1) := fun i hi => absurd hi (by omega)
theorem asc_more {ip : Nat → Int} {k : Nat} (h : Asc ip k) (h0 : 0 < k) (h1 : ip (k - 1) < ip k) : Hid (Asc ip (k + 1)) := fun i hi => by
  by_cases e : i + 1 < k
  · exact h i e
  · have : i = k - 1 := by omega
    subst this
    rw [show k - 1 + 1 = k by omega]; exact h1
theorem drewN_below (w : World) (m : Nat) : Below w.heap.size w (w.drewN m) := ⟨rfl, rfl, rfl, Nat.le_refl _, fun _ _ => rfl⟩
theorem not_asc {ip : Nat → Int} {n k : Nat} (h1 : k + 1 < n) (h2 : ip (k + 1) ≤ ip k) {p : Prop} : ¬ (Asc ip n ∧ p) := fun h => by have := h.1 k h1; omega

set_option maxRecDepth 100000 in
set_option maxHeartbeats 4000000 in
theorem elect_any (alg bd : Int) (b off n c : Nat) (ip pr : Nat → Int) (w : World) (hn : n ≤ 100) (hnc : n ≤ c) (hb : b < w.heap.size) (hbd' : bd ≤ 9223372036854775807)
   (hc0 : ∀ i, i < n → w.cell? ⟨b, off + i * 2, none⟩ = some (.int .u32 (ip i))) (hc1 : ∀ i, i < n → w.cell? ⟨b, off + i * 2 + 1, none⟩ = some (.int .i64 (pr i))) :
    Calls Tryz.prog 31 #[.int .i64 alg, .slice (some ⟨b, off, none⟩) n c, .int .i64 bd] w fun e w' => e = elR alg bd n ip pr ∧ Below w.heap.size w w' := by
  go_enter Tryz.func31, Tryz.ntmps31
  go_wp2
  go_loopw [8, 11] (fun _ i wr => ∃ k m : Nat, k ≤ n ∧ i = .int .i64 k ∧ wr = w.drewN m ∧ Hid (Asc ip k)) (fun _ i _ => n - (intOf i).toNat)
  case atStart => exact ⟨0, 0, Nat.zero_le _, rfl, rfl, fun i hi => absurd hi (by omega)⟩
  case round =>
    obtain ⟨k, m, hk, rfl, rfl, ha⟩ := hrel
    by_cases hlt : k < n
    · have hlt' : (k : Int) < n := by omega
      by_cases h0 : 0 < k
      · have g0 := hc0 k hlt
        have g1 := hc0 (k-1) (by omega)
        have h0' : (0:Int) < k := by omega
        by_cases hle : ip k ≤ ip (k - 1)
        · have HN := Lib.hid (not_asc (p := 0 < n ∧ 0 ≤ alg ∧ alg ≤ 2 ∧ 0 ≤ bd) (show (k - 1) + 1 < n by omega) (show ip (k - 1 + 1) ≤ ip (k - 1) by rw [show k - 1 + 1 = k by omega]; exact hle))
          go_wp2
          go_quiet (fail)
          go_wp2
          go_ret2
          exact ⟨elR_no HN.out, (drewN_below w m).trans (drewN_below (w.drewN m) _)⟩
        · have HA := Lib.hid (asc_more ha.out h0 (by omega))
          clear ha
          go_wp2
          go_quiet (fail)
          go_wp2
          go_roundw
          case rel => exact ⟨k + 1, _, by omega, by go_num, rfl, HA.out⟩
          case measure => simp [intOf]; omega
      · have h0' : k = 0 := by omega
        subst h0'
        go_wp2
        go_quiet (fail)
        go_wp2
        go_roundw
        case rel => exact ⟨1, _, by omega, by go_num, rfl, asc_one _⟩
        case measure => simp [intOf]; omega
    · have hkn : k = n := by omega
      subst hkn
      by_cases hne : 0 < k
      · by_cases ha0 : 0 ≤ alg
        · by_cases ha2 : alg ≤ 2
          · by_cases hb0 : 0 ≤ bd
            · have hc0' : ∀ i, i < k → (w.drewN m).cell? ⟨b, off + i * 2, none⟩ = some (.int .u32 (ip i)) := hc0
              have hc1' : ∀ i, i < k → (w.drewN m).cell? ⟨b, off + i * 2 + 1, none⟩ = some (.int .i64 (pr i)) := hc1
              have hOk : Hid (Asc ip k ∧ 0 < k ∧ 0 ≤ alg ∧ alg ≤ 2 ∧ 0 ≤ bd) := ⟨ha.out, hne, ha0, ha2, hb0⟩
              clear ha
              have K1 := Lib.hid hc0'
              have K2 := Lib.hid hc1'
              clear hc0 hc1 hc0' hc1'
              have hk0 : ((k : Int) == 0) = false := by simp; omega
              have j0 : ∀ w, (Instr.index 139 (.agg #[.func (.func 90) #[] #[], .func (.func 91) #[] #[], .func (.func 95) #[] #[]]) (.int .i64 0)).run Tryz.prog w = .ok (.func (.func 90) #[] #[]) w := fun _ => by kernel_rfl
              have j1 : ∀ w, (Instr.index 139 (.agg #[.func (.func 90) #[] #[], .func (.func 91) #[] #[], .func (.func 95) #[] #[]]) (.int .i64 1)).run Tryz.prog w = .ok (.func (.func 91) #[] #[]) w := fun _ => by kernel_rfl
              have j2 : ∀ w, (Instr.index 139 (.agg #[.func (.func 90) #[] #[], .func (.func 91) #[] #[], .func (.func 95) #[] #[]]) (.int .i64 2)).run Tryz.prog w = .ok (.func (.func 95) #[] #[]) w := fun _ => by kernel_rfl
              rcases (show alg = 0 ∨ alg = 1 ∨ alg = 2 by omega) with rfl | rfl | rfl
              · go_wp2_with (first
                  | (go_at_call 67; refine (algs_any _).mono ?_; rintro e w' ⟨rfl, hbb⟩)
                  | (go_at_call 90; refine (modulo_any bd b off k c ip _ hne hn hb0 hbd' (fun i hi => (hbb.cell (p := ⟨b, off + i * 2, none⟩) hb).trans (K1.out i hi))).mono ?_; rintro e w2 ⟨rfl, rfl⟩))
                go_ret2
                exact ⟨elR_yes hOk.out (by simp [sel]), (drewN_below _ _).trans hbb⟩
              · go_wp2_with (first
                  | (go_at_call 67; refine (algs_any _).mono ?_; rintro e w' ⟨rfl, hbb⟩)
                  | (go_at_call 91; refine (highest_any bd b off k c ip pr _ hn hne hnc (Nat.lt_of_lt_of_le hb hbb.size) (fun i hi => (hbb.cell (p := ⟨b, off + i * 2, none⟩) hb).trans (K1.out i hi)) (fun i hi => (hbb.cell (p := ⟨b, off + i * 2 + 1, none⟩) hb).trans (K2.out i hi))).mono ?_; rintro e w2 ⟨rfl, hb2⟩))
                go_ret2
                exact ⟨elR_yes hOk.out (by simp [sel]), ((drewN_below _ _).trans hbb).trans (hb2.mono hbb.size)⟩
              · go_wp2_with (first
                  | (go_at_call 67; refine (algs_any _).mono ?_; rintro e w' ⟨rfl, hbb⟩)
                  | (go_at_call 95; refine (prefer_any bd b off k c ip pr _ hn hne hnc (Nat.lt_of_lt_of_le hb hbb.size) (fun i hi => (hbb.cell (p := ⟨b, off + i * 2, none⟩) hb).trans (K1.out i hi)) (fun i hi => (hbb.cell (p := ⟨b, off + i * 2 + 1, none⟩) hb).trans (K2.out i hi))).mono ?_; rintro e w2 ⟨rfl, hb2⟩))
                go_ret2
                exact ⟨elR_yes hOk.out (by simp [sel]), ((drewN_below _ _).trans hbb).trans (hb2.mono hbb.size)⟩
            · have HN := Lib.hid (show ¬ (Asc ip k ∧ 0 < k ∧ 0 ≤ alg ∧ alg ≤ 2 ∧ 0 ≤ bd) from fun h => by omega)
              go_wp2
              go_ret2
              exact ⟨elR_no HN.out, drewN_below _ _⟩
          · have HN := Lib.hid (show ¬ (Asc ip k ∧ 0 < k ∧ 0 ≤ alg ∧ alg ≤ 2 ∧ 0 ≤ bd) from fun h => by omega)
            go_wp2
            go_ret2
            exact ⟨elR_no HN.out, drewN_below _ _⟩
        · have HN := Lib.hid (show ¬ (Asc ip k ∧ 0 < k ∧ 0 ≤ alg ∧ alg ≤ 2 ∧ 0 ≤ bd) from fun h => by omega)
          go_wp2
          go_ret2
          exact ⟨elR_no HN.out, drewN_below _ _⟩
      · have HN := Lib.hid (show ¬ (Asc ip k ∧ 0 < k ∧ 0 ≤ alg ∧ alg ≤ 2 ∧ 0 ≤ bd) from fun h => by omega)
        go_wp2
        go_ret2
        exact ⟨elR_no HN.out, drewN_below _ _⟩

end Go.Proofs.YtiellonfgcmaaaaGreat
