/- slices.Sort at uint32: cmp.Less and the insertion sort. -/
import Derived.Test.YtiellonfgcmaaaaGreatChecked
import Derived.Sort.WalkA
import Derived.WalkKit
import Derived.BigGuard
import Derived.BigCall
import Derived.CellFam
import Derived.Deep.Draws
import Derived.Deep.QuietTactic
import Derived.BigQuiet
import Derived.Sort.WalkB3
import Derived.Sort.WalkC
import Derived.Sort.WalkC4
namespace Go.Proofs.YtiellonfgcmaaaaGreat
open Go.RowKit Go.Sort
abbrev e32 : Int → Value := Value.int .u32

set_option maxHeartbeats 1000000 in
theorem isNaN32 (x : Int) (w : World) : Calls Tryz.prog 79 #[.int .u32 x] w fun e w' => e = .returned (.bool false) ∧ w' = w := by
  go_enter Tryz.func79, Tryz.ntmps79
  go_wp2
  go_ret
  exact ⟨by simp, rfl⟩
set_option maxHeartbeats 1000000 in
theorem less32 (x y : Int) (w : World) : Calls Tryz.prog 131 #[.int .u32 x, .int .u32 y] w fun e w' => e = .returned (.bool (ltInt x y)) ∧ w' = w := by
  go_enter Tryz.func131, Tryz.ntmps131
  go_wp2_with (go_at_call 79; refine (isNaN32 _ _).mono ?_; rintro e w' ⟨rfl, rfl⟩)
  go_ret
  exact ⟨rfl, rfl⟩

set_option maxHeartbeats 32000000 in
set_option maxRecDepth 1000000 in
theorem insertion32 (blk off cap a b : Nat) (d : Array Int) (w : World) (hH : Holds e32 w blk off d) (hab : a ≤ b) (hb : b ≤ d.size) (hsz : d.size < 4611686018427387904) :
    Calls Tryz.prog 125 #[.slice (some ⟨blk, off, none⟩) d.size cap, .int .i64 a, .int .i64 b] w fun e w' =>
      e = .returned (.tuple #[]) ∧ ∃ n, w' = putRow e32 (Sort.ahead w n) blk off (Sort.insertionSort ltInt d a b) := by
  go_enter Tryz.func125, Tryz.ntmps125
  go_wp2
  go_loopw [6] (fun v wo => ∃ (i n : Nat) (do' : Array Int), v = .int .i64 i ∧ a + 1 ≤ i ∧ i ≤ b + 1 ∧ do'.size = d.size ∧ wo = putRow e32 (Sort.ahead w n) blk off do' ∧
      insOuter ltInt a b i do' = Sort.insertionSort ltInt d a b) (fun v _ => b + 1 - (intOf v).toNat)
  case atStart => exact ⟨a + 1, 0, d, by go_num, Nat.le_refl _, by omega, rfl, (putRow_self _ _ _ _ _ hH).symm, rfl⟩
  case round =>
    obtain ⟨i, n, do', rfl, hai, hib, hso, hwo, hO⟩ := hrel
    have HO : Hid (insOuter ltInt a b i do' = Sort.insertionSort ltInt d a b) := hO
    clear hO
    go_wp2
    · have hlt : i < b := by assumption
      go_loopw [7] (fun v wi => ∃ (j m : Nat) (di : Array Int), v = .int .i64 j ∧ a ≤ j ∧ j ≤ i ∧ di.size = d.size ∧ wi = putRow e32 (Sort.ahead w m) blk off di ∧
          insInner ltInt a j di = insInner ltInt a i do') (fun v _ => (intOf v).toNat)
      case atStart => exact ⟨i, n, do', rfl, by omega, Nat.le_refl _, hso, rfl, rfl⟩
      case round =>
        obtain ⟨j, m, di, rfl, haj, hji, hsi, hwi, hI⟩ := hrel
        obtain ⟨G, hG⟩ : ∃ G : Nat → Int, ∀ t, G t = di[t]! := ⟨fun t => di[t]!, fun _ => rfl⟩
        have cells : ∀ t, t < d.size → wr.cell? ⟨blk, off + t, none⟩ = some (.int .u32 (G t)) := fun t ht => by
          rw [hwi, hG]; exact cell?_putRow _ _ _ _ d di (holds_ahead _ _ _ _ _ _ hH) hsi t (by omega)
        have thaw : ∀ t, t < d.size → wr.frozen? ⟨blk, off + t, none⟩ = false := fun t ht => by
          rw [hwi, frozen?_putRow]; exact ((holds_ahead _ _ m _ _ _ hH) t ht).2
        have ends : Hid ((j ≤ a ∨ ltInt di[j]! di[j - 1]! = false) → ∀ q, ∃ i' n' d', Value.int .i64 ((i : Int) + 1) = .int .i64 (i' : Nat) ∧ a + 1 ≤ i' ∧ i' ≤ b + 1 ∧ d'.size = d.size ∧
            wr.drewN q = putRow e32 (Sort.ahead w n') blk off d' ∧ insOuter ltInt a b i' d' = Sort.insertionSort ltInt d a b) := fun hs q =>
          ⟨i + 1, m + q, di, by go_num, by omega, by omega, hsi, by rw [hwi]; exact putRow_drewN _ _ _ _ _ _ _,
            by rw [← HO.out, insOuter_go _ _ _ _ _ hlt, ← hI, insInner_stop _ _ _ _ hs]⟩
        have HW : Hid (wr = putRow e32 (Sort.ahead w m) blk off di) := hwi
        have HG : Hid (∀ t, G t = di[t]!) := hG
        have HI : Hid (insInner ltInt a j di = insInner ltInt a i do') := hI
        clear hwi hG hI hH
        go_wp2
        by_cases hja : a < j
        · go_quiet (first | (go_at_call 131; refine Calls.quiet_of_same (less32 _ _ _)))
          go_wp2
          · have hl : ltInt (G j) (G (j - 1)) = true := by assumption
            go_region
            all_goals go_wp2
            go_roundw
            case rel =>
              refine ⟨j - 1, m + (nq + 1), swp di j (j - 1), by congr 1; omega, by omega, by omega, by rw [size_swp]; exact hsi, ?_, ?_⟩
              · rw [HW.out, HG.out, HG.out]
                exact swap_worldA _ w m (nq + 1) blk off di j (j - 1) (by omega) (by omega)
              · rw [← HI.out, insInner_go ltInt a j di hja (by rw [← HG.out, ← HG.out]; exact hl)]
            case measure => simp [intOf]; omega
          · have hl : ltInt (G j) (G (j - 1)) = false := by assumption
            go_roundw
            case rel => exact ends.out (Or.inr (by rw [← HG.out, ← HG.out]; exact hl)) nq
            case measure => simp [intOf]; omega
        · go_quiet (first | (go_at_call 131; refine Calls.quiet_of_same (less32 _ _ _)))
          go_wp2
          go_roundw
          case rel => exact ends.out (Or.inl (by omega)) nq
          case measure => simp [intOf]; omega
    · have hge : ¬ i < b := by assumption
      go_end0
      exact ⟨rfl, n, by rw [← HO.out, insOuter_stop _ _ _ _ _ hge]⟩
end Go.Proofs.YtiellonfgcmaaaaGreat

/- slices.Sort at uint32: the reversal, the sift, the heap sort. -/
namespace Go.Proofs.YtiellonfgcmaaaaGreat
open Go.RowKit Go.Sort

/-- A block whose row holds 'd', behind draws. -/
theorem row_facts {w wr : World} {n blk off : Nat} {d dk : Array Int} (hH : Holds e32 w blk off d) (hs : dk.size = d.size) (hw : wr = putRow e32 (Sort.ahead w n) blk off dk) :
    (∀ t, t < d.size → wr.cell? ⟨blk, off + t, none⟩ = some (.int .u32 dk[t]!)) ∧ ∀ t, t < d.size → wr.frozen? ⟨blk, off + t, none⟩ = false := by
  have h := holds_putRow e32 _ blk off d dk (holds_ahead e32 w n blk off d hH) hs
  rw [← hw] at h
  exact ⟨fun t ht => (h t (by omega)).1, fun t ht => (h t (by omega)).2⟩

set_option maxHeartbeats 8000000 in
set_option maxRecDepth 1000000 in
theorem reverse32 (blk off cap : Nat) (d : Array Int) (a b : Nat) (w : World) (hH : Holds e32 w blk off d) (hab : a ≤ b) (hb : b ≤ d.size) (hsz : d.size < 4611686018427387904) :
    Calls Tryz.prog 129 #[.slice (some ⟨blk, off, none⟩) d.size cap, .int .i64 a, .int .i64 b] w fun e w' => e = .returned (.tuple #[]) ∧ ∃ n, w' = putRow e32 (Sort.ahead w n) blk off (reverseRange d a b) := by
  by_cases hz : b = 0
  · -- Go's j begins at -1
    obtain rfl : a = 0 := by omega
    subst hz
    go_enter Tryz.func129, Tryz.ntmps129
    go_wp2
    go_loopw [6, 7] (fun u v wr => u = .int .i64 (0 : Nat) ∧ v = .int .i64 (-1) ∧ wr = w) (fun _ _ _ => 0)
    case atStart => exact ⟨by simp, by simp, rfl⟩
    case round =>
      obtain ⟨rfl, rfl, rfl⟩ := hrel
      go_wp2
      go_end0
      refine ⟨rfl, 0, ?_⟩
      rw [reverseRange, reverseLoop, if_neg (by omega), ahead_zero, putRow_self _ _ _ _ _ hH]
  · go_enter Tryz.func129, Tryz.ntmps129
    go_wp2
    go_loopw [6, 7] (fun u v wr => ∃ (i j n : Nat) (dk : Array Int), u = .int .i64 i ∧ v = .int .i64 j ∧ i ≤ j + 1 ∧ j < b ∧ dk.size = d.size ∧ wr = putRow e32 (Sort.ahead w n) blk off dk ∧ reverseLoop i j dk = reverseRange d a b)
      (fun u v _ => (intOf v).toNat + 1 - (intOf u).toNat)
    case atStart => exact ⟨a, b - 1, 0, d, rfl, by go_num, by omega, by omega, rfl, (putRow_self _ _ _ _ _ hH).symm, rfl⟩
    case round =>
      obtain ⟨i, j, n, dk, rfl, rfl, hij, hj, hs, hw, he⟩ := hrel
      by_cases hlt : i < j
      · obtain ⟨ci, fi⟩ := row_facts hH hs hw
        have c1 := ci i (by omega); have c2 := ci j (by omega); have f1 := fi i (by omega); have f2 := fi j (by omega)
        obtain ⟨x, hx⟩ : ∃ x, dk[i]! = x := ⟨_, rfl⟩
        obtain ⟨y, hy⟩ : ∃ y, dk[j]! = y := ⟨_, rfl⟩
        rw [hx] at c1; rw [hy] at c2
        have A : Aside (wr = putRow e32 (Sort.ahead w n) blk off dk) := hw
        have B : Aside (reverseLoop i j dk = reverseRange d a b) := he
        have X : Aside (dk[i]! = x) := hx
        have Y : Aside (dk[j]! = y) := hy
        clear hw ci fi hH he hx hy
        go_wp2_with fail
        go_region
        go_wp2
        go_roundw
        case rel =>
          have B := B.out
          rw [reverseLoop, if_pos hlt] at B
          exact ⟨i + 1, j - 1, n + 1, swp dk i j, by go_num, by go_num, by omega, by omega, by rw [size_swp]; exact hs,
            swap_world e32 (by omega) (by omega) A.out (by rw [Y.out]) (by rw [X.out]), B⟩
        case measure => simp [intOf]; omega
      · go_wp2
        go_end0
        refine ⟨rfl, n, ?_⟩
        rw [reverseLoop, if_neg hlt] at he
        rw [← he]
end Go.Proofs.YtiellonfgcmaaaaGreat


namespace Go.Proofs.YtiellonfgcmaaaaGreat
open Go.RowKit Go.Sort

set_option maxHeartbeats 16000000 in
set_option maxRecDepth 1000000 in
theorem sift32 (blk off cap : Nat) (d : Array Int) (lo hi first : Nat) (w : World) (hH : Holds e32 w blk off d) (hlo : lo ≤ hi) (hb : first + hi ≤ d.size) (hsz : d.size < 4611686018427387904) :
    Calls Tryz.prog 160 #[.slice (some ⟨blk, off, none⟩) d.size cap, .int .i64 lo, .int .i64 hi, .int .i64 first] w fun e w' => e = .returned (.tuple #[]) ∧ ∃ n, w' = putRow e32 (Sort.ahead w n) blk off (siftDown ltInt hi first lo d) := by
  go_enter Tryz.func160, Tryz.ntmps160
  go_wp2
  go_loopw [8] (fun u wr => ∃ (root n : Nat) (dk : Array Int), u = .int .i64 root ∧ root ≤ hi ∧ dk.size = d.size ∧ wr = putRow e32 (Sort.ahead w n) blk off dk ∧ siftDown ltInt hi first root dk = siftDown ltInt hi first lo d) (fun u _ => hi - (intOf u).toNat)
  case atStart => exact ⟨lo, 0, d, rfl, hlo, rfl, (putRow_self _ _ _ _ _ hH).symm, rfl⟩
  case round =>
    obtain ⟨root, n, dk, rfl, hr, hs, hw, he⟩ := hrel
    obtain ⟨cells, thaw⟩ := row_facts hH hs hw
    obtain ⟨G, hG⟩ : ∃ G : Nat → Int, ∀ t, G t = dk[t]! := ⟨fun t => dk[t]!, fun _ => rfl⟩
    simp only [← hG] at cells
    have HG : Hid (∀ t, G t = dk[t]!) := hG
    have A : Aside (wr = putRow e32 (Sort.ahead w n) blk off dk) := hw
    have HE : Hid (siftDown ltInt hi first root dk = siftDown ltInt hi first lo d) := he
    clear hG hw he hH
    by_cases h0 : hi ≤ 2 * root + 1
    · have h0z : (hi : Int) ≤ 2 * (root : Int) + 1 := by omega
      go_wp2
      go_end0
      refine ⟨rfl, n, ?_⟩
      rw [A.out, ← HE.out, sd_end ltInt dk h0]
    · have h0z : ¬ ((hi : Int) ≤ 2 * (root : Int) + 1) := by omega
      by_cases h1 : 2 * root + 2 < hi
      · have h1z : 2 * (root : Int) + 1 + 1 < (hi : Int) := by omega
        go_wp2_with fail
        go_quiet (first | (go_at_call 131; refine Calls.quiet_of_same (less32 _ _ _)))
        go_wp2_with fail
        · have hL : ltInt (G (first + (2 * root + 1))) (G (first + (2 * root + 2))) = true := by assumption
          rw [HG.out, HG.out] at hL
          revert nq; intro q1
          have k2 : ∀ t, t < d.size → (wr.drewN q1).cell? ⟨blk, off + t, none⟩ = some (.int .u32 (G t)) := cells
          have z2 : ∀ t, t < d.size → (wr.drewN q1).frozen? ⟨blk, off + t, none⟩ = false := thaw
          have A2 : Aside (wr.drewN q1 = putRow e32 (Sort.ahead w (n + q1)) blk off dk) := drewN_world e32 A.out q1
          clear cells thaw A
          generalize wr.drewN q1 = wx at k2 z2 A2 ⊢
          have cells := k2; have thaw := z2; have A := A2
          clear k2 z2 A2
          go_quiet (first | (go_at_call 131; refine Calls.quiet_of_same (less32 _ _ _)))
          go_wp2_with fail
          · have hS : ltInt (G (first + root)) (G (first + (2 * root + 2))) = false := by
              have : (!ltInt (G (first + root)) (G (first + (2 * root + 2)))) = true := by assumption
              simpa using this
            rw [HG.out, HG.out] at hS
            (try simp only [Exit.inBlock, Exit.then]); refine bodyPost_ret (results_none rfl _ _ _) rfl ?_
            refine ⟨rfl, n + q1 + nq, ?_⟩
            rw [drewN_world e32 A.out nq, ← HE.out, sd_right_stop ltInt dk h1 hL hS]
          · have hS : ltInt (G (first + root)) (G (first + (2 * root + 2))) = true := by
              have : (!ltInt (G (first + root)) (G (first + (2 * root + 2)))) = false := by assumption
              simpa using this
            rw [HG.out, HG.out] at hS
            have k2 : ∀ t, t < d.size → (wx.drewN nq).cell? ⟨blk, off + t, none⟩ = some (.int .u32 (G t)) := cells
            have z2 : ∀ t, t < d.size → (wx.drewN nq).frozen? ⟨blk, off + t, none⟩ = false := thaw
            have A2 : Aside (wx.drewN nq = putRow e32 (Sort.ahead w (n + q1 + nq)) blk off dk) := drewN_world e32 A.out nq
            clear cells thaw A
            generalize wx.drewN nq = wy at k2 z2 A2 ⊢
            have cells := k2; have thaw := z2; have A := A2
            clear k2 z2 A2
            go_region
            go_wp2
            go_roundw
            case rel =>
              refine ⟨2 * root + 2, n + q1 + nq + 1, swp dk (first + root) (first + (2 * root + 2)), by go_num, by omega, by rw [size_swp]; exact hs, ?_, ?_⟩
              · refine swap_world e32 (by omega) (by omega) A.out ?_ ?_
                · rw [← HG.out]; rfl
                · rw [← HG.out]
              · rw [← HE.out, sd_right_go ltInt dk h1 hL hS]
            case measure => simp [intOf]; omega
        · have hL : ltInt (G (first + (2 * root + 1))) (G (first + (2 * root + 2))) = false := by assumption
          rw [HG.out, HG.out] at hL
          revert nq; intro q1
          have k2 : ∀ t, t < d.size → (wr.drewN q1).cell? ⟨blk, off + t, none⟩ = some (.int .u32 (G t)) := cells
          have z2 : ∀ t, t < d.size → (wr.drewN q1).frozen? ⟨blk, off + t, none⟩ = false := thaw
          have A2 : Aside (wr.drewN q1 = putRow e32 (Sort.ahead w (n + q1)) blk off dk) := drewN_world e32 A.out q1
          clear cells thaw A
          generalize wr.drewN q1 = wx at k2 z2 A2 ⊢
          have cells := k2; have thaw := z2; have A := A2
          clear k2 z2 A2
          go_quiet (first | (go_at_call 131; refine Calls.quiet_of_same (less32 _ _ _)))
          go_wp2_with fail
          · have hS : ltInt (G (first + root)) (G (first + (2 * root + 1))) = false := by
              have : (!ltInt (G (first + root)) (G (first + (2 * root + 1)))) = true := by assumption
              simpa using this
            rw [HG.out, HG.out] at hS
            (try simp only [Exit.inBlock, Exit.then]); refine bodyPost_ret (results_none rfl _ _ _) rfl ?_
            refine ⟨rfl, n + q1 + nq, ?_⟩
            rw [drewN_world e32 A.out nq, ← HE.out, sd_left_stop ltInt dk (by omega) (fun _ => hL) hS]
          · have hS : ltInt (G (first + root)) (G (first + (2 * root + 1))) = true := by
              have : (!ltInt (G (first + root)) (G (first + (2 * root + 1)))) = false := by assumption
              simpa using this
            rw [HG.out, HG.out] at hS
            have k2 : ∀ t, t < d.size → (wx.drewN nq).cell? ⟨blk, off + t, none⟩ = some (.int .u32 (G t)) := cells
            have z2 : ∀ t, t < d.size → (wx.drewN nq).frozen? ⟨blk, off + t, none⟩ = false := thaw
            have A2 : Aside (wx.drewN nq = putRow e32 (Sort.ahead w (n + q1 + nq)) blk off dk) := drewN_world e32 A.out nq
            clear cells thaw A
            generalize wx.drewN nq = wy at k2 z2 A2 ⊢
            have cells := k2; have thaw := z2; have A := A2
            clear k2 z2 A2
            go_region
            go_wp2
            go_roundw
            case rel =>
              refine ⟨2 * root + 1, n + q1 + nq + 1, swp dk (first + root) (first + (2 * root + 1)), by go_num, by omega, by rw [size_swp]; exact hs, ?_, ?_⟩
              · refine swap_world e32 (by omega) (by omega) A.out ?_ ?_
                · rw [← HG.out]; rfl
                · rw [← HG.out]
              · rw [← HE.out, sd_left_go ltInt dk (by omega) (fun _ => hL) hS]
            case measure => simp [intOf]; omega
      · have h1z : decide (2 * (root : Int) + 1 + 1 < (hi : Int)) = false := decide_eq_false (by omega)
        go_wp2_with fail
        go_quiet (first | (go_at_call 131; refine Calls.quiet_of_same (less32 _ _ _)))
        go_wp2_with fail
        revert nq; intro q1
        have k2 : ∀ t, t < d.size → (wr.drewN q1).cell? ⟨blk, off + t, none⟩ = some (.int .u32 (G t)) := cells
        have z2 : ∀ t, t < d.size → (wr.drewN q1).frozen? ⟨blk, off + t, none⟩ = false := thaw
        have A2 : Aside (wr.drewN q1 = putRow e32 (Sort.ahead w (n + q1)) blk off dk) := drewN_world e32 A.out q1
        clear cells thaw A
        generalize wr.drewN q1 = wx at k2 z2 A2 ⊢
        have cells := k2; have thaw := z2; have A := A2
        clear k2 z2 A2
        go_quiet (first | (go_at_call 131; refine Calls.quiet_of_same (less32 _ _ _)))
        go_wp2_with fail
        · have hS : ltInt (G (first + root)) (G (first + (2 * root + 1))) = false := by
            have : (!ltInt (G (first + root)) (G (first + (2 * root + 1)))) = true := by assumption
            simpa using this
          rw [HG.out, HG.out] at hS
          (try simp only [Exit.inBlock, Exit.then]); refine bodyPost_ret (results_none rfl _ _ _) rfl ?_
          refine ⟨rfl, n + q1 + nq, ?_⟩
          rw [drewN_world e32 A.out nq, ← HE.out, sd_left_stop ltInt dk (by omega) (fun h => absurd h h1) hS]
        · have hS : ltInt (G (first + root)) (G (first + (2 * root + 1))) = true := by
            have : (!ltInt (G (first + root)) (G (first + (2 * root + 1)))) = false := by assumption
            simpa using this
          rw [HG.out, HG.out] at hS
          have k2 : ∀ t, t < d.size → (wx.drewN nq).cell? ⟨blk, off + t, none⟩ = some (.int .u32 (G t)) := cells
          have z2 : ∀ t, t < d.size → (wx.drewN nq).frozen? ⟨blk, off + t, none⟩ = false := thaw
          have A2 : Aside (wx.drewN nq = putRow e32 (Sort.ahead w (n + q1 + nq)) blk off dk) := drewN_world e32 A.out nq
          clear cells thaw A
          generalize wx.drewN nq = wy at k2 z2 A2 ⊢
          have cells := k2; have thaw := z2; have A := A2
          clear k2 z2 A2
          go_region
          go_wp2
          go_roundw
          case rel =>
            refine ⟨2 * root + 1, n + q1 + nq + 1, swp dk (first + root) (first + (2 * root + 1)), by go_num, by omega, by rw [size_swp]; exact hs, ?_, ?_⟩
            · refine swap_world e32 (by omega) (by omega) A.out ?_ ?_
              · rw [← HG.out]; rfl
              · rw [← HG.out]
            · rw [← HE.out, sd_left_go ltInt dk (by omega) (fun h => absurd h h1) hS]
          case measure => simp [intOf]; omega
end Go.Proofs.YtiellonfgcmaaaaGreat


namespace Go.Proofs.YtiellonfgcmaaaaGreat
open Go.RowKit Go.Sort
set_option maxHeartbeats 16000000 in
set_option maxRecDepth 1000000 in
theorem heap32 (blk off cap : Nat) (d : Array Int) (a b : Nat) (w : World) (hH : Holds e32 w blk off d) (hab : a ≤ b) (hb : b ≤ d.size) (hsz : d.size < 4611686018427387904) :
    Calls Tryz.prog 126 #[.slice (some ⟨blk, off, none⟩) d.size cap, .int .i64 a, .int .i64 b] w fun e w' => e = .returned (.tuple #[]) ∧ ∃ n, w' = putRow e32 (Sort.ahead w n) blk off (heapSort ltInt d a b) := by
  have ec : ((b - a : Nat) : Int) = (b : Int) - (a : Int) := by omega
  have sz : ∀ h r (x : Array Int), (siftDown ltInt h a r x).size = x.size := fun h r x => size_siftDown ltInt h a _ r x (Nat.le_refl _)
  -- the sift, from a world of the loops
  have CALL : Hid (∀ (n lo hi : Nat) (x : Array Int) (wr : World), x.size = d.size → wr = putRow e32 (Sort.ahead w n) blk off x → lo ≤ hi → a + hi ≤ d.size →
      Calls Tryz.prog 160 #[.slice (some ⟨blk, off, none⟩) d.size cap, .int .i64 lo, .int .i64 hi, .int .i64 a] wr fun e w' => e = .returned (.tuple #[]) ∧ ∃ m, w' = putRow e32 (Sort.ahead w m) blk off (siftDown ltInt hi a lo x)) := by
    intro n lo hi x wr hx hwr h1 h2
    have hh : Holds e32 wr blk off x := by rw [hwr]; exact holds_putRow e32 _ blk off d x (holds_ahead e32 w n blk off d hH) hx
    have := sift32 blk off cap x lo hi a wr hh h1 (by omega) (by omega)
    rw [hx] at this
    refine this.mono ?_
    rintro e w1 ⟨rfl, m, rfl⟩
    exact ⟨rfl, n + m, by rw [hwr, putRow_ahead_putRow e32 w n m blk off x _ (sz _ _ _)]⟩
  go_enter Tryz.func126, Tryz.ntmps126
  go_wp2
  go_loopw [9] (fun u wr => ∃ (k n : Nat) (dk : Array Int), u = .int .i64 ((k : Int) - 1) ∧ k ≤ (b - a - 1) / 2 + 1 ∧ dk.size = d.size ∧ wr = putRow e32 (Sort.ahead w n) blk off dk ∧
    heapBuild ltInt (b - a) a k dk = heapBuild ltInt (b - a) a ((b - a - 1) / 2 + 1) d) (fun u _ => (intOf u + 1).toNat)
  case atStart => exact ⟨(b - a - 1) / 2 + 1, 0, d, by rw [half_start hab], Nat.le_refl _, rfl, (putRow_self _ _ _ _ _ hH).symm, rfl⟩
  case round =>
    obtain ⟨k, n, dk, rfl, hk, hs, hw, he⟩ := hrel
    have A : Aside (wr = putRow e32 (Sort.ahead w n) blk off dk) := hw
    have HE : Hid (heapBuild ltInt (b - a) a k dk = heapBuild ltInt (b - a) a ((b - a - 1) / 2 + 1) d) := he
    clear hw he
    cases k with
    | succ k =>
      have h := CALL.out n k (b - a) dk wr hs A.out (by omega) (by omega)
      rw [ec] at h
      go_wp2_with (go_at_call 160; refine h.mono ?_; rintro e w1 ⟨rfl, m, hw1⟩)
      go_roundw
      case rel => exact ⟨k, m, siftDown ltInt (b - a) a k dk, by simp, by omega, by rw [sz]; exact hs, by first | exact hw1 | rfl, HE.out⟩
      case measure => simp [intOf]
    | zero =>
      generalize hz : ((0 : Nat) : Int) - 1 = z
      have hz0 : z < 0 := by omega
      clear hz
      go_wp2
      go_loopw [10] (fun u wr => ∃ (k n : Nat) (dj : Array Int), u = .int .i64 ((k : Int) - 1) ∧ k ≤ b - a ∧ dj.size = d.size ∧ wr = putRow e32 (Sort.ahead w n) blk off dj ∧
        heapPop ltInt a k dj = heapSort ltInt d a b) (fun u _ => (intOf u + 1).toNat)
      case atStart => exact ⟨b - a, n, dk, by rw [ec], Nat.le_refl _, hs, A.out, by rw [heapSort, ← HE.out]; rfl⟩
      case round =>
        obtain ⟨k, n2, dj, rfl, hk2, hs2, hw, he⟩ := hrel
        have A2 : Aside (wr = putRow e32 (Sort.ahead w n2) blk off dj) := hw
        have HE2 : Hid (heapPop ltInt a k dj = heapSort ltInt d a b) := he
        clear A HE he
        cases k with
        | zero =>
          clear hw
          go_wp2
          go_end0
          refine ⟨rfl, n2, ?_⟩
          rw [← HE2.out, A2.out]; rfl
        | succ k =>
          obtain ⟨ci, fi⟩ := row_facts hH hs2 hw
          have c1 := ci a (by omega); have c2 := ci (a + k) (by omega); have f1 := fi a (by omega); have f2 := fi (a + k) (by omega)
          have Z : Hid (Holds e32 w blk off d) := hH
          clear hw ci fi hH
          -- at the last round both places are one
          by_cases hk0 : k = 0
          · subst hk0
            go_wp2_with fail
            go_region
            go_wp2_with fail
            rw [swap_world e32 (i := a) (j := a) (by omega) (by omega) A2.out rfl rfl]
            refine (CALL.out (n2 + 1) 0 0 (swp dj a a) _ (by rw [size_swp]; exact hs2) rfl (Nat.le_refl _) (by omega)).mono ?_
            rintro e w1 ⟨rfl, m, hw1⟩
            go_wp2
            go_roundw
            case rel => exact ⟨0, m, siftDown ltInt 0 a 0 (swp dj a a), by simp, by omega, by rw [sz, size_swp]; exact hs2, by first | exact hw1 | rfl, HE2.out⟩
            case measure => simp [intOf]
          · obtain ⟨x, hx⟩ : ∃ x, dj[a]! = x := ⟨_, rfl⟩
            obtain ⟨y, hy⟩ : ∃ y, dj[a + k]! = y := ⟨_, rfl⟩
            rw [hx] at c1; rw [hy] at c2
            have X : Aside (dj[a]! = x) := hx
            have Y : Aside (dj[a + k]! = y) := hy
            clear hx hy
            go_wp2_with fail
            go_region
            go_wp2_with fail
            rw [swap_world e32 (i := a) (j := a + k) (by omega) (by omega) A2.out (by rw [Y.out]) (by rw [X.out])]
            refine (CALL.out (n2 + 1) 0 k (swp dj a (a + k)) _ (by rw [size_swp]; exact hs2) rfl (Nat.zero_le _) (by omega)).mono ?_
            rintro e w1 ⟨rfl, m, hw1⟩
            go_wp2
            go_roundw
            case rel => exact ⟨k, m, siftDown ltInt k a 0 (swp dj a (a + k)), by simp, by omega, by rw [sz, size_swp]; exact hs2, by first | exact hw1 | rfl, HE2.out⟩
            case measure => simp [intOf]
end Go.Proofs.YtiellonfgcmaaaaGreat

/- slices.Sort at uint32: the two partitions. -/
namespace Go.Proofs.YtiellonfgcmaaaaGreat
open Go.RowKit Go.Sort
set_option maxHeartbeats 16000000 in
set_option maxRecDepth 1000000 in
theorem partEq32 (blk off cap a b pivot : Nat) (d : Array Int) (w : World) (hH : Holds e32 w blk off d) (hap : a ≤ pivot) (hpb : pivot < b) (hb : b ≤ d.size) (hsz : d.size < 4611686018427387904) :
    Calls Tryz.prog 132 #[.slice (some ⟨blk, off, none⟩) d.size cap, .int .i64 a, .int .i64 b, .int .i64 pivot] w fun e w' =>
      e = .returned (.int .i64 (Sort.partitionEqual ltInt d a b pivot).1) ∧ ∃ n, w' = putRow e32 (Sort.ahead w n) blk off (Sort.partitionEqual ltInt d a b pivot).2 := by
  have hla : a < d.size := by omega
  have hlp : pivot < d.size := by omega
  obtain ⟨G0, hG⟩ : ∃ G0 : Nat → Int, ∀ j, G0 j = d[j]! := ⟨fun j => d[j]!, fun _ => rfl⟩
  have ca : w.cell? ⟨blk, off + a, none⟩ = some (.int .u32 (G0 a)) := by rw [hG]; exact (hH a hla).1
  have fa := (hH a hla).2
  have cp : w.cell? ⟨blk, off + pivot, none⟩ = some (.int .u32 (G0 pivot)) := by rw [hG]; exact (hH pivot hlp).1
  have fp := (hH pivot hlp).2
  obtain ⟨v', hy'⟩ := cell?_setCell_some (w := w) (p := ⟨blk, off + a, none⟩) (x := .int .u32 (G0 pivot)) (q := ⟨blk, off + pivot, none⟩) cp
  have AG : Hid (∀ j, G0 j = d[j]!) := hG
  have AH : Hid (Holds e32 w blk off d) := hH
  clear hG hH
  go_enter Tryz.func132, Tryz.ntmps132
  go_wp2
  go_region
  go_wp2
  go_loopw [9, 10] (fun vi vj wr => ∃ (i j n : Nat) (dk : Array Int), vi = .int .i64 i ∧ vj = .int .i64 j ∧ a < i ∧ i ≤ j + 1 ∧ j < b ∧ dk.size = d.size ∧ wr = (putRow e32 w blk off dk).drewN n ∧
      partEqLoop ltInt a i j dk = partEqLoop ltInt a (a + 1) (b - 1) (swp d a pivot))
    (fun vi vj _ => (intOf vj).toNat + 1 - (intOf vi).toNat)
  case atStart =>
    refine ⟨a + 1, b - 1, 1, swp d a pivot, by go_num, by go_num, by omega, by omega, by omega, size_swp _ _ _, ?_, rfl⟩
    have e := swap_worldC e32 w blk off d 0 a pivot hla hlp
    rw [putRow_self _ w blk off d AH.out] at e
    rw [AG.out a, AG.out pivot]
    exact e
  case round =>
    obtain ⟨i, j, n, dk, rfl, rfl, hai, hij, hjb, hs, hw, heq⟩ := hrel
    clear ca fa cp fp hy' v' AG
    rename World => W1
    have hHk : Holds e32 W1 blk off dk := by rw [hw]; exact holds_putRow e32 w blk off d dk AH.out hs
    obtain ⟨G, hG⟩ : ∃ G : Nat → Int, ∀ t, G t = dk[t]! := ⟨fun t => dk[t]!, fun _ => rfl⟩
    have cells : ∀ t, t < d.size → W1.cell? ⟨blk, off + t, none⟩ = some (.int .u32 (G t)) := fun t ht => by rw [hG]; exact (hHk t (by omega)).1
    have thaw : ∀ t, t < d.size → W1.frozen? ⟨blk, off + t, none⟩ = false := fun t ht => (hHk t (by omega)).2
    have HG : Hid (∀ t, G t = dk[t]!) := hG
    clear hG hHk
    have AW : Hid (W1 = (putRow e32 w blk off dk).drewN n) := hw
    have AE : Hid (partEqLoop ltInt a i j dk = partEqLoop ltInt a (a + 1) (b - 1) (swp d a pivot)) := heq
    clear hw heq
    go_wp2
    go_loopw [9] (fun vi w1 => ∃ (i' n1 : Nat), vi = .int .i64 i' ∧ i ≤ i' ∧ i' ≤ j + 1 ∧ w1 = W1.drewN n1 ∧ Hid (scanUp (fun x => !ltInt dk[a]! x) dk j i' = scanUp (fun x => !ltInt dk[a]! x) dk j i)) (fun vi _ => j + 1 - (intOf vi).toNat)
    case atStart => exact ⟨i, 0, rfl, Nat.le_refl _, hij, rfl, rfl⟩
    case round =>
      obtain ⟨i', n1, rfl, hii, hij', hw1, hsc⟩ := hrel
      have kw : ∀ t, t < d.size → wr.cell? ⟨blk, off + t, none⟩ = some (.int .u32 (G t)) := fun t ht => by rw [hw1]; exact cells t ht
      have zw : ∀ t, t < d.size → wr.frozen? ⟨blk, off + t, none⟩ = false := fun t ht => by rw [hw1]; exact thaw t ht
      have HW : Hid (wr = W1.drewN n1) := hw1
      clear hw1
      by_cases hle : i' ≤ j
      · go_wp2_with fail
        go_quiet (first | (go_at_call 131; refine Calls.quiet_of_same (less32 _ _ _)))
        go_wp2
        · have ht : (!ltInt (G a) (G i')) = true := by assumption
          go_roundw
          case rel => exact ⟨i' + 1, n1 + nq, by go_num, by omega, by omega, by rw [HW.out, World.drewN_drewN], (scanUp_go (fun x => !ltInt dk[a]! x) dk j i' hle (by rw [← HG.out a, ← HG.out i']; exact ht)).symm.trans hsc.out⟩
          case measure => simp [intOf]; omega
        · have ht : (!ltInt (G a) (G i')) = false := by assumption
          have hi2 : Hid (i' = scanUp (fun x => !ltInt dk[a]! x) dk j i) := (scanUp_end (fun x => !ltInt dk[a]! x) dk j i' (Or.inr (by rw [← HG.out a, ← HG.out i']; exact ht))).symm.trans hsc.out
          clear ht
          have hw2 : wr.drewN nq = W1.drewN (n1 + nq) := by rw [HW.out, World.drewN_drewN]
          clear kw zw HW hsc
          go_loopw [10] (fun vj w2 => ∃ (j' n2 : Nat), vj = .int .i64 j' ∧ j' ≤ j ∧ i' ≤ j' + 1 ∧ w2 = W1.drewN n2 ∧ Hid (scanDown (fun x => ltInt dk[a]! x) dk i' j' = scanDown (fun x => ltInt dk[a]! x) dk i' j)) (fun vj _ => (intOf vj).toNat)
          case atStart => exact ⟨j, n1 + nq, rfl, Nat.le_refl _, hij', hw2, rfl⟩
          case round =>
            clear hw2
            obtain ⟨j', n2, rfl, hjj, hij2, hw2, hsd⟩ := hrel
            have kw : ∀ t, t < d.size → wr.cell? ⟨blk, off + t, none⟩ = some (.int .u32 (G t)) := fun t ht => by rw [hw2]; exact cells t ht
            have zw : ∀ t, t < d.size → wr.frozen? ⟨blk, off + t, none⟩ = false := fun t ht => by rw [hw2]; exact thaw t ht
            have HW2 : Hid (wr = W1.drewN n2) := hw2
            clear hw2
            by_cases hle2 : i' ≤ j'
            · go_wp2_with fail
              go_quiet (first | (go_at_call 131; refine Calls.quiet_of_same (less32 _ _ _)))
              go_wp2
              · have ht : ltInt (G a) (G j') = true := by assumption
                go_roundw
                case rel => exact ⟨j' - 1, n2 + nq, by go_num, by omega, by omega, by rw [HW2.out, World.drewN_drewN], (scanDown_go (fun x => ltInt dk[a]! x) dk i' j' hle2 (by omega) (by rw [← HG.out a, ← HG.out j']; exact ht)).symm.trans hsd.out⟩
                case measure => simp [intOf]; omega
              · have ht : ltInt (G a) (G j') = false := by assumption
                have hj2 : Hid (j' = scanDown (fun x => ltInt dk[a]! x) dk i' j) := (scanDown_end (fun x => ltInt dk[a]! x) dk i' j' (Or.inr (by rw [← HG.out a, ← HG.out j']; exact ht))).symm.trans hsd.out
                clear ht
                clear kw zw hsd
                have hw3 : wr.drewN nq = W1.drewN (n2 + nq) := by rw [HW2.out, World.drewN_drewN]
                generalize wr.drewN nq = W3 at hw3 ⊢
                have k3 : ∀ t, t < d.size → W3.cell? ⟨blk, off + t, none⟩ = some (.int .u32 (G t)) := fun t ht => by rw [hw3]; exact cells t ht
                have z3 : ∀ t, t < d.size → W3.frozen? ⟨blk, off + t, none⟩ = false := fun t ht => by rw [hw3]; exact thaw t ht
                have HW3 : Hid (W3 = W1.drewN (n2 + nq)) := hw3
                clear hw3
                obtain ⟨v3, hy3⟩ := cell?_setCell_some (w := W3) (p := ⟨blk, off + i', none⟩) (x := .int .u32 (G j')) (q := ⟨blk, off + j', none⟩) (k3 j' (by omega))
                have hlt3 := scans_lt ltInt a i j dk (by omega) hi2.out hj2.out hle2
                go_wp2
                go_region
                all_goals go_wp2
                all_goals go_roundw
                case rel =>
                  refine ⟨i' + 1, j' - 1, n + (n2 + nq) + 1, swp dk i' j', by go_num, by go_num, by omega, by omega, by omega, by rw [size_swp]; exact hs, ?_, ?_⟩
                  · rw [HW3.out, AW.out, World.drewN_drewN, HG.out i', HG.out j']
                    exact swap_worldC e32 w blk off dk _ i' j' (by omega) (by omega)
                  · rw [← AE.out]; exact (partEq_go ltInt a i j dk hi2.out hj2.out (by omega)).symm
                case measure => simp [intOf]; omega
            · go_wp2_with fail
              go_quiet (first | (go_at_call 131; refine Calls.quiet_of_same (less32 _ _ _)))
              have hj2 : Hid (j' = scanDown (fun x => ltInt dk[a]! x) dk i' j) := (scanDown_end (fun x => ltInt dk[a]! x) dk i' j' (Or.inl hle2)).symm.trans hsd.out
              clear kw zw hsd
              have hw3 : wr.drewN nq = W1.drewN (n2 + nq) := by rw [HW2.out, World.drewN_drewN]
              generalize wr.drewN nq = W3 at hw3 ⊢
              have k3 : ∀ t, t < d.size → W3.cell? ⟨blk, off + t, none⟩ = some (.int .u32 (G t)) := fun t ht => by rw [hw3]; exact cells t ht
              have z3 : ∀ t, t < d.size → W3.frozen? ⟨blk, off + t, none⟩ = false := fun t ht => by rw [hw3]; exact thaw t ht
              have HW3 : Hid (W3 = W1.drewN (n2 + nq)) := hw3
              clear hw3
              go_wp2
              go_ret
              have e := partEq_break ltInt a i j dk hi2.out hj2.out (by omega)
              refine ⟨?_, n + (n2 + nq), ?_⟩
              · unfold Sort.partitionEqual; rw [← AE.out, e]; rfl
              · unfold Sort.partitionEqual; rw [← AE.out, e, HW3.out, AW.out, World.drewN_drewN]; rfl
      · go_wp2_with fail
        go_quiet (first | (go_at_call 131; refine Calls.quiet_of_same (less32 _ _ _)))
        go_wp2
        have hi2 : Hid (i' = scanUp (fun x => !ltInt dk[a]! x) dk j i) := (scanUp_end (fun x => !ltInt dk[a]! x) dk j i' (Or.inl hle)).symm.trans hsc.out
        have hw2 : wr.drewN nq = W1.drewN (n1 + nq) := by rw [HW.out, World.drewN_drewN]
        clear kw zw HW hsc
        go_loopw [10] (fun vj w2 => ∃ (j' n2 : Nat), vj = .int .i64 j' ∧ j' ≤ j ∧ i' ≤ j' + 1 ∧ w2 = W1.drewN n2 ∧ Hid (scanDown (fun x => ltInt dk[a]! x) dk i' j' = scanDown (fun x => ltInt dk[a]! x) dk i' j)) (fun vj _ => (intOf vj).toNat)
        case atStart => exact ⟨j, n1 + nq, rfl, Nat.le_refl _, hij', hw2, rfl⟩
        case round =>
          clear hw2
          obtain ⟨j', n2, rfl, hjj, hij2, hw2, hsd⟩ := hrel
          have kw : ∀ t, t < d.size → wr.cell? ⟨blk, off + t, none⟩ = some (.int .u32 (G t)) := fun t ht => by rw [hw2]; exact cells t ht
          have zw : ∀ t, t < d.size → wr.frozen? ⟨blk, off + t, none⟩ = false := fun t ht => by rw [hw2]; exact thaw t ht
          have HW2 : Hid (wr = W1.drewN n2) := hw2
          clear hw2
          by_cases hle2 : i' ≤ j'
          · exfalso; omega
          · go_wp2_with fail
            go_quiet (first | (go_at_call 131; refine Calls.quiet_of_same (less32 _ _ _)))
            have hj2 : Hid (j' = scanDown (fun x => ltInt dk[a]! x) dk i' j) := (scanDown_end (fun x => ltInt dk[a]! x) dk i' j' (Or.inl hle2)).symm.trans hsd.out
            clear kw zw hsd
            have hw3 : wr.drewN nq = W1.drewN (n2 + nq) := by rw [HW2.out, World.drewN_drewN]
            generalize wr.drewN nq = W3 at hw3 ⊢
            have k3 : ∀ t, t < d.size → W3.cell? ⟨blk, off + t, none⟩ = some (.int .u32 (G t)) := fun t ht => by rw [hw3]; exact cells t ht
            have z3 : ∀ t, t < d.size → W3.frozen? ⟨blk, off + t, none⟩ = false := fun t ht => by rw [hw3]; exact thaw t ht
            have HW3 : Hid (W3 = W1.drewN (n2 + nq)) := hw3
            clear hw3
            go_wp2
            go_ret
            have e := partEq_break ltInt a i j dk hi2.out hj2.out (by omega)
            refine ⟨?_, n + (n2 + nq), ?_⟩
            · unfold Sort.partitionEqual; rw [← AE.out, e]; rfl
            · unfold Sort.partitionEqual; rw [← AE.out, e, HW3.out, AW.out, World.drewN_drewN]; rfl
end Go.Proofs.YtiellonfgcmaaaaGreat
