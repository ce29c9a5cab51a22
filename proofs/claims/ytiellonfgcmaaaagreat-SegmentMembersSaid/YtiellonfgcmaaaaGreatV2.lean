/- slices.Sort at uint32: the partition. -/
import Derived.Test.YtiellonfgcmaaaaGreatV1
import Derived.Sort.WalkA6
import Derived.Sort.Walk11
namespace Go.Proofs.YtiellonfgcmaaaaGreat
open Go.RowKit Go.Sort
set_option maxHeartbeats 16000000 in
set_option maxRecDepth 1000000 in
theorem part32 (blk off cap a b pivot : Nat) (d : Array Int) (w : World) (hH : Holds e32 w blk off d) (hap : a ≤ pivot) (hpb : pivot < b) (hb : b ≤ d.size) (hsz : d.size < 4611686018427387904) :
    Calls Tryz.prog 133 #[.slice (some ⟨blk, off, none⟩) d.size cap, .int .i64 a, .int .i64 b, .int .i64 pivot] w fun e w' =>
      e = .returned (.tuple #[.int .i64 (Sort.partition ltInt d a b pivot).1, .bool (Sort.partition ltInt d a b pivot).2.1]) ∧ ∃ n, w' = putRow e32 (Sort.ahead w n) blk off (Sort.partition ltInt d a b pivot).2.2 := by
  have hla : a < d.size := by omega
  have hlp : pivot < d.size := by omega
  obtain ⟨G0, hG⟩ : ∃ G0 : Nat → Int, ∀ j, G0 j = d[j]! := ⟨fun j => d[j]!, fun _ => rfl⟩
  have ca : w.cell? ⟨blk, off + a, none⟩ = some (.int .u32 (G0 a)) := by rw [hG]; exact (hH a hla).1
  have fa := (hH a hla).2
  have cp : w.cell? ⟨blk, off + pivot, none⟩ = some (.int .u32 (G0 pivot)) := by rw [hG]; exact (hH pivot hlp).1
  have fp := (hH pivot hlp).2
  obtain ⟨v', hy'⟩ := cell?_setCell_some (w := w) (p := ⟨blk, off + a, none⟩) (x := .int .u32 (G0 pivot)) (q := ⟨blk, off + pivot, none⟩) cp
  have AG : Hid (∀ j, G0 j = d[j]!) := hG
  have AH : Hid (Holds e32 w blk off d) := hH
  clear hG hH
  go_enter Tryz.func133, Tryz.ntmps133
  go_wp2
  go_region
  go_wp2
  obtain ⟨i, ei⟩ : ∃ i, i = a + 1 := ⟨_, rfl⟩
  obtain ⟨j, ej⟩ : ∃ j, j = b - 1 := ⟨_, rfl⟩
  obtain ⟨dk, ed⟩ : ∃ dk, dk = swp d a pivot := ⟨_, rfl⟩
  have hs : dk.size = d.size := by rw [ed, size_swp]
  have hw : ((w.setCell ⟨blk, off + a, none⟩ (.int .u32 (G0 pivot))).setCell ⟨blk, off + pivot, none⟩ (.int .u32 (G0 a))).drew = (putRow e32 w blk off dk).drewN 1 := by
    rw [ed]
    have e := swap_worldC e32 w blk off d 0 a pivot hla hlp
    rw [putRow_self _ w blk off d AH.out] at e
    rw [AG.out a, AG.out pivot]
    exact e
  rw [show (a : Int) + 1 = (i : Int) by omega, show (b : Int) - 1 = (j : Int) by omega]
  have hij : i ≤ j + 1 := by omega
  have hjb : j < b := by omega
  have hai : a < i := by omega
  have hi : Hid (i = a + 1) := ei
  have hj : Hid (j = b - 1) := ej
  have hdk : Hid (dk = swp d a pivot) := ed
  clear ca fa cp fp hy' v' AG ei ej ed
  generalize ((w.setCell ⟨blk, off + a, none⟩ (.int .u32 (G0 pivot))).setCell ⟨blk, off + pivot, none⟩ (.int .u32 (G0 a))).drew = W1 at hw ⊢
  have hHk : Holds e32 W1 blk off dk := by rw [hw]; exact holds_putRow e32 w blk off d dk AH.out hs
  obtain ⟨G, hG⟩ : ∃ G : Nat → Int, ∀ t, G t = dk[t]! := ⟨fun t => dk[t]!, fun _ => rfl⟩
  have cells : ∀ t, t < d.size → W1.cell? ⟨blk, off + t, none⟩ = some (.int .u32 (G t)) := fun t ht => by rw [hG]; exact (hHk t (by omega)).1
  have thaw : ∀ t, t < d.size → W1.frozen? ⟨blk, off + t, none⟩ = false := fun t ht => (hHk t (by omega)).2
  have HG : Hid (∀ t, G t = dk[t]!) := hG
  clear hG hHk
  have AW : Hid (W1 = (putRow e32 w blk off dk).drewN 1) := hw
  clear hw
  go_loopw [10] (fun vi w1 => ∃ (i' n1 : Nat), vi = .int .i64 i' ∧ i ≤ i' ∧ i' ≤ j + 1 ∧ w1 = W1.drewN n1 ∧ Hid (scanUp (fun x => ltInt x dk[a]!) dk j i' = scanUp (fun x => ltInt x dk[a]!) dk j i)) (fun vi _ => j + 1 - (intOf vi).toNat)
  case atStart => exact ⟨i, 0, rfl, Nat.le_refl _, hij, rfl, rfl⟩
  case round =>
    obtain ⟨i', n1, rfl, hii, hij', hw1, hsc⟩ := hrel
    have kw : ∀ t, t < d.size → wr.cell? ⟨blk, off + t, none⟩ = some (.int .u32 (G t)) := fun t ht => by rw [hw1]; exact cells t ht
    have zw : ∀ t, t < d.size → wr.frozen? ⟨blk, off + t, none⟩ = false := fun t ht => by rw [hw1]; exact thaw t ht
    have HW : Hid (wr = W1.drewN n1) := hw1
    clear hw1
    by_cases hle : i' ≤ j
    · go_wp2_with fail
      go_quiet (first | (go_at_call 131; refine Calls.quiet_of_same (less32 _ _ _)))
      go_wp2
      · have ht : ltInt (G i') (G a) = true := by assumption
        go_roundw
        case rel => exact ⟨i' + 1, n1 + nq, by go_num, by omega, by omega, by rw [HW.out, World.drewN_drewN], (scanUp_go (fun x => ltInt x dk[a]!) dk j i' hle (by rw [← HG.out a, ← HG.out i']; exact ht)).symm.trans hsc.out⟩
        case measure => simp [intOf]; omega
      · have ht : ltInt (G i') (G a) = false := by assumption
        have hi2 : Hid (i' = scanUp (fun x => ltInt x dk[a]!) dk j i) := (scanUp_end (fun x => ltInt x dk[a]!) dk j i' (Or.inr (by rw [← HG.out a, ← HG.out i']; exact ht))).symm.trans hsc.out
        clear ht
        have hw2 : wr.drewN nq = W1.drewN (n1 + nq) := by rw [HW.out, World.drewN_drewN]
        clear kw zw HW hsc
        go_loopw [11] (fun vj w2 => ∃ (j' n2 : Nat), vj = .int .i64 j' ∧ j' ≤ j ∧ i' ≤ j' + 1 ∧ w2 = W1.drewN n2 ∧ Hid (scanDown (fun x => !ltInt x dk[a]!) dk i' j' = scanDown (fun x => !ltInt x dk[a]!) dk i' j)) (fun vj _ => (intOf vj).toNat)
        case atStart => exact ⟨j, n1 + nq, rfl, Nat.le_refl _, hij', hw2, rfl⟩
        case round =>
          clear hw2
          obtain ⟨j', n2, rfl, hjj, hij2, hw2, hsd⟩ := hrel
          have kw : ∀ t, t < d.size → wr.cell? ⟨blk, off + t, none⟩ = some (.int .u32 (G t)) := fun t ht => by rw [hw2]; exact cells t ht
          have zw : ∀ t, t < d.size → wr.frozen? ⟨blk, off + t, none⟩ = false := fun t ht => by rw [hw2]; exact thaw t ht
          have HW2 : Hid (wr = W1.drewN n2) := hw2
          clear hw2
          by_cases hle2 : i' ≤ j'
          · go_wp2_with fail
            go_quiet (first | (go_at_call 131; refine Calls.quiet_of_same (less32 _ _ _)))
            go_wp2
            · have ht : (!ltInt (G j') (G a)) = true := by assumption
              go_roundw
              case rel => exact ⟨j' - 1, n2 + nq, by go_num, by omega, by omega, by rw [HW2.out, World.drewN_drewN], (scanDown_go (fun x => !ltInt x dk[a]!) dk i' j' hle2 (by omega) (by rw [← HG.out a, ← HG.out j']; exact ht)).symm.trans hsd.out⟩
              case measure => simp [intOf]; omega
            · have ht : (!ltInt (G j') (G a)) = false := by assumption
              have hj2 : Hid (j' = scanDown (fun x => !ltInt x dk[a]!) dk i' j) := (scanDown_end (fun x => !ltInt x dk[a]!) dk i' j' (Or.inr (by rw [← HG.out a, ← HG.out j']; exact ht))).symm.trans hsd.out
              clear ht
              clear kw zw hsd
              have hw3 : wr.drewN nq = W1.drewN (n2 + nq) := by rw [HW2.out, World.drewN_drewN]
              generalize wr.drewN nq = W3 at hw3 ⊢
              have k3 : ∀ t, t < d.size → W3.cell? ⟨blk, off + t, none⟩ = some (.int .u32 (G t)) := fun t ht => by rw [hw3]; exact cells t ht
              have z3 : ∀ t, t < d.size → W3.frozen? ⟨blk, off + t, none⟩ = false := fun t ht => by rw [hw3]; exact thaw t ht
              have HW3 : Hid (W3 = W1.drewN (n2 + nq)) := hw3
              clear hw3
              obtain ⟨R, hR⟩ : ∃ R, partLoop ltInt a (i' + 1) (j' - 1) (swp dk i' j') = R := ⟨_, rfl⟩
              have HR : Hid (Sort.partition ltInt d a b pivot = (R.1, false, swp R.2 R.1 a)) := by rw [← hR]; exact part_first_go ltInt d a b pivot hi.out hj.out hdk.out hi2.out hj2.out (by omega)
              have HR2 : Hid (partLoop ltInt a (i' + 1) (j' - 1) (swp dk i' j') = R) := hR
              clear hR
              obtain ⟨v3, hy3⟩ := cell?_setCell_some (w := W3) (p := ⟨blk, off + i', none⟩) (x := .int .u32 (G j')) (q := ⟨blk, off + j', none⟩) (k3 j' (by omega))
              have hlt3 := part_scans_lt ltInt a i j dk (by omega) hi2.out hj2.out hle2
              go_wp2
              go_region
              go_wp2
              go_loopw [10, 11] (fun vi vj wr => ∃ (i j n : Nat) (dk : Array Int), vi = .int .i64 i ∧ vj = .int .i64 j ∧ a < i ∧ i ≤ j + 1 ∧ j < b ∧ dk.size = d.size ∧ wr = (putRow e32 w blk off dk).drewN n ∧
                    partLoop ltInt a i j dk = R)
                  (fun vi vj _ => (intOf vj).toNat + 1 - (intOf vi).toNat)
              case atStart =>
                refine ⟨i' + 1, j' - 1, 1 + (n2 + nq) + 1, swp dk i' j', by go_num, by go_num, by omega, by omega, by omega, by rw [size_swp]; exact hs, ?_, HR2.out⟩
                rw [HW3.out, AW.out, World.drewN_drewN, HG.out i', HG.out j']
                exact swap_worldC e32 w blk off dk _ i' j' (by omega) (by omega)
              case round =>
                clear k3 z3 hy3 HW3 HR2 cells thaw AW hs hij hi2 hj2 hlt3 hle2 hii hij' hjj hij2
                obtain ⟨i, j, n, dk, rfl, rfl, hai, hij, hjb, hs, hw, heq⟩ := hrel
                rename World => W1
                have hHk : Holds e32 W1 blk off dk := by rw [hw]; exact holds_putRow e32 w blk off d dk AH.out hs
                obtain ⟨G, hG⟩ : ∃ G : Nat → Int, ∀ t, G t = dk[t]! := ⟨fun t => dk[t]!, fun _ => rfl⟩
                have cells : ∀ t, t < d.size → W1.cell? ⟨blk, off + t, none⟩ = some (.int .u32 (G t)) := fun t ht => by rw [hG]; exact (hHk t (by omega)).1
                have thaw : ∀ t, t < d.size → W1.frozen? ⟨blk, off + t, none⟩ = false := fun t ht => (hHk t (by omega)).2
                have HG : Hid (∀ t, G t = dk[t]!) := hG
                clear hG hHk
                have AW : Hid (W1 = (putRow e32 w blk off dk).drewN n) := hw
                have AE : Hid (partLoop ltInt a i j dk = R) := heq
                clear hw heq
                go_wp2
                go_loopw [10] (fun vi w1 => ∃ (i' n1 : Nat), vi = .int .i64 i' ∧ i ≤ i' ∧ i' ≤ j + 1 ∧ w1 = W1.drewN n1 ∧ Hid (scanUp (fun x => ltInt x dk[a]!) dk j i' = scanUp (fun x => ltInt x dk[a]!) dk j i)) (fun vi _ => j + 1 - (intOf vi).toNat)
                case atStart => exact ⟨i, 0, rfl, Nat.le_refl _, hij, rfl, rfl⟩
                case round =>
                  obtain ⟨i', n1, rfl, hii, hij', hw1, hsc⟩ := hrel
                  have kw : ∀ t, t < d.size → wr.cell? ⟨blk, off + t, none⟩ = some (.int .u32 (G t)) := fun t ht => by rw [hw1]; exact cells t ht
                  have zw : ∀ t, t < d.size → wr.frozen? ⟨blk, off + t, none⟩ = false := fun t ht => by rw [hw1]; exact thaw t ht
                  have HW : Hid (wr = W1.drewN n1) := hw1
                  clear hw1
                  by_cases hle : i' ≤ j
                  · go_wp2_with fail
                    go_quiet (first | (go_at_call 131; refine Calls.quiet_of_same (less32 _ _ _)))
                    go_wp2
                    · have ht : ltInt (G i') (G a) = true := by assumption
                      go_roundw
                      case rel => exact ⟨i' + 1, n1 + nq, by go_num, by omega, by omega, by rw [HW.out, World.drewN_drewN], (scanUp_go (fun x => ltInt x dk[a]!) dk j i' hle (by rw [← HG.out a, ← HG.out i']; exact ht)).symm.trans hsc.out⟩
                      case measure => simp [intOf]; omega
                    · have ht : ltInt (G i') (G a) = false := by assumption
                      have hi2 : Hid (i' = scanUp (fun x => ltInt x dk[a]!) dk j i) := (scanUp_end (fun x => ltInt x dk[a]!) dk j i' (Or.inr (by rw [← HG.out a, ← HG.out i']; exact ht))).symm.trans hsc.out
                      clear ht
                      have hw2 : wr.drewN nq = W1.drewN (n1 + nq) := by rw [HW.out, World.drewN_drewN]
                      clear kw zw HW hsc
                      go_loopw [11] (fun vj w2 => ∃ (j' n2 : Nat), vj = .int .i64 j' ∧ j' ≤ j ∧ i' ≤ j' + 1 ∧ w2 = W1.drewN n2 ∧ Hid (scanDown (fun x => !ltInt x dk[a]!) dk i' j' = scanDown (fun x => !ltInt x dk[a]!) dk i' j)) (fun vj _ => (intOf vj).toNat)
                      case atStart => exact ⟨j, n1 + nq, rfl, Nat.le_refl _, hij', hw2, rfl⟩
                      case round =>
                        clear hw2
                        obtain ⟨j', n2, rfl, hjj, hij2, hw2, hsd⟩ := hrel
                        have kw : ∀ t, t < d.size → wr.cell? ⟨blk, off + t, none⟩ = some (.int .u32 (G t)) := fun t ht => by rw [hw2]; exact cells t ht
                        have zw : ∀ t, t < d.size → wr.frozen? ⟨blk, off + t, none⟩ = false := fun t ht => by rw [hw2]; exact thaw t ht
                        have HW2 : Hid (wr = W1.drewN n2) := hw2
                        clear hw2
                        by_cases hle2 : i' ≤ j'
                        · go_wp2_with fail
                          go_quiet (first | (go_at_call 131; refine Calls.quiet_of_same (less32 _ _ _)))
                          go_wp2
                          · have ht : (!ltInt (G j') (G a)) = true := by assumption
                            go_roundw
                            case rel => exact ⟨j' - 1, n2 + nq, by go_num, by omega, by omega, by rw [HW2.out, World.drewN_drewN], (scanDown_go (fun x => !ltInt x dk[a]!) dk i' j' hle2 (by omega) (by rw [← HG.out a, ← HG.out j']; exact ht)).symm.trans hsd.out⟩
                            case measure => simp [intOf]; omega
                          · have ht : (!ltInt (G j') (G a)) = false := by assumption
                            have hj2 : Hid (j' = scanDown (fun x => !ltInt x dk[a]!) dk i' j) := (scanDown_end (fun x => !ltInt x dk[a]!) dk i' j' (Or.inr (by rw [← HG.out a, ← HG.out j']; exact ht))).symm.trans hsd.out
                            clear ht
                            clear kw zw hsd
                            have hw3 : wr.drewN nq = W1.drewN (n2 + nq) := by rw [HW2.out, World.drewN_drewN]
                            generalize wr.drewN nq = W3 at hw3 ⊢
                            have k3 : ∀ t, t < d.size → W3.cell? ⟨blk, off + t, none⟩ = some (.int .u32 (G t)) := fun t ht => by rw [hw3]; exact cells t ht
                            have z3 : ∀ t, t < d.size → W3.frozen? ⟨blk, off + t, none⟩ = false := fun t ht => by rw [hw3]; exact thaw t ht
                            have HW3 : Hid (W3 = W1.drewN (n2 + nq)) := hw3
                            clear hw3
                            obtain ⟨v3, hy3⟩ := cell?_setCell_some (w := W3) (p := ⟨blk, off + i', none⟩) (x := .int .u32 (G j')) (q := ⟨blk, off + j', none⟩) (k3 j' (by omega))
                            have hlt3 := part_scans_lt ltInt a i j dk (by omega) hi2.out hj2.out hle2
                            go_wp2
                            go_region
                            all_goals go_wp2
                            all_goals go_roundw
                            case rel =>
                              refine ⟨i' + 1, j' - 1, n + (n2 + nq) + 1, swp dk i' j', by go_num, by go_num, by omega, by omega, by omega, by rw [size_swp]; exact hs, ?_, ?_⟩
                              · rw [HW3.out, AW.out, World.drewN_drewN, HG.out i', HG.out j']
                                exact swap_worldC e32 w blk off dk _ i' j' (by omega) (by omega)
                              · rw [← AE.out]; exact (part_go ltInt a i j dk hi2.out hj2.out (by omega)).symm
                            case measure => simp [intOf]; omega
                        · go_wp2_with fail
                          go_quiet (first | (go_at_call 131; refine Calls.quiet_of_same (less32 _ _ _)))
                          have hj2 : Hid (j' = scanDown (fun x => !ltInt x dk[a]!) dk i' j) := (scanDown_end (fun x => !ltInt x dk[a]!) dk i' j' (Or.inl hle2)).symm.trans hsd.out
                          clear kw zw hsd
                          have hw3 : wr.drewN nq = W1.drewN (n2 + nq) := by rw [HW2.out, World.drewN_drewN]
                          generalize wr.drewN nq = W3 at hw3 ⊢
                          have k3 : ∀ t, t < d.size → W3.cell? ⟨blk, off + t, none⟩ = some (.int .u32 (G t)) := fun t ht => by rw [hw3]; exact cells t ht
                          have z3 : ∀ t, t < d.size → W3.frozen? ⟨blk, off + t, none⟩ = false := fun t ht => by rw [hw3]; exact thaw t ht
                          have HW3 : Hid (W3 = W1.drewN (n2 + nq)) := hw3
                          clear hw3
                          have e0 := part_break ltInt a i j dk hi2.out hj2.out (by omega)
                          have e : Sort.partition ltInt d a b pivot = (j', false, swp dk j' a) := by rw [HR.out, ← AE.out, e0]
                          obtain ⟨v3, hy3⟩ := cell?_setCell_some (w := W3) (p := ⟨blk, off + j', none⟩) (x := .int .u32 (G a)) (q := ⟨blk, off + a, none⟩) (k3 a (by omega))
                          go_wp2
                          go_region
                          go_wp2
                          go_ret2
                          have sw := swap_worldC e32 w blk off dk (n + (n2 + nq)) j' a (by omega) (by omega)
                          refine ⟨by rw [e]; rfl, (n + (n2 + nq)) + 1, ?_⟩
                          rw [e, HW3.out, AW.out, World.drewN_drewN, HG.out a, HG.out j']
                          exact sw
                  · go_wp2_with fail
                    go_quiet (first | (go_at_call 131; refine Calls.quiet_of_same (less32 _ _ _)))
                    go_wp2
                    have hi2 : Hid (i' = scanUp (fun x => ltInt x dk[a]!) dk j i) := (scanUp_end (fun x => ltInt x dk[a]!) dk j i' (Or.inl hle)).symm.trans hsc.out
                    have hw2 : wr.drewN nq = W1.drewN (n1 + nq) := by rw [HW.out, World.drewN_drewN]
                    clear kw zw HW hsc
                    go_loopw [11] (fun vj w2 => ∃ (j' n2 : Nat), vj = .int .i64 j' ∧ j' ≤ j ∧ i' ≤ j' + 1 ∧ w2 = W1.drewN n2 ∧ Hid (scanDown (fun x => !ltInt x dk[a]!) dk i' j' = scanDown (fun x => !ltInt x dk[a]!) dk i' j)) (fun vj _ => (intOf vj).toNat)
                    case atStart => exact ⟨j, n1 + nq, rfl, Nat.le_refl _, hij', hw2, rfl⟩
                    case round =>
                      clear hw2
                      obtain ⟨j', n2, rfl, hjj, hij2, hw2, hsd⟩ := hrel
                      have kw : ∀ t, t < d.size → wr.cell? ⟨blk, off + t, none⟩ = some (.int .u32 (G t)) := fun t ht => by rw [hw2]; exact cells t ht
                      have zw : ∀ t, t < d.size → wr.frozen? ⟨blk, off + t, none⟩ = false := fun t ht => by rw [hw2]; exact thaw t ht
                      have HW2 : Hid (wr = W1.drewN n2) := hw2
                      clear hw2
                      by_cases hle2 : i' ≤ j'
                      · exfalso; omega
                      · go_wp2_with fail
                        go_quiet (first | (go_at_call 131; refine Calls.quiet_of_same (less32 _ _ _)))
                        have hj2 : Hid (j' = scanDown (fun x => !ltInt x dk[a]!) dk i' j) := (scanDown_end (fun x => !ltInt x dk[a]!) dk i' j' (Or.inl hle2)).symm.trans hsd.out
                        clear kw zw hsd
                        have hw3 : wr.drewN nq = W1.drewN (n2 + nq) := by rw [HW2.out, World.drewN_drewN]
                        generalize wr.drewN nq = W3 at hw3 ⊢
                        have k3 : ∀ t, t < d.size → W3.cell? ⟨blk, off + t, none⟩ = some (.int .u32 (G t)) := fun t ht => by rw [hw3]; exact cells t ht
                        have z3 : ∀ t, t < d.size → W3.frozen? ⟨blk, off + t, none⟩ = false := fun t ht => by rw [hw3]; exact thaw t ht
                        have HW3 : Hid (W3 = W1.drewN (n2 + nq)) := hw3
                        clear hw3
                        have e0 := part_break ltInt a i j dk hi2.out hj2.out (by omega)
                        have e : Sort.partition ltInt d a b pivot = (j', false, swp dk j' a) := by rw [HR.out, ← AE.out, e0]
                        obtain ⟨v3, hy3⟩ := cell?_setCell_some (w := W3) (p := ⟨blk, off + j', none⟩) (x := .int .u32 (G a)) (q := ⟨blk, off + a, none⟩) (k3 a (by omega))
                        go_wp2
                        go_region
                        go_wp2
                        go_ret2
                        have sw := swap_worldC e32 w blk off dk (n + (n2 + nq)) j' a (by omega) (by omega)
                        refine ⟨by rw [e]; rfl, (n + (n2 + nq)) + 1, ?_⟩
                        rw [e, HW3.out, AW.out, World.drewN_drewN, HG.out a, HG.out j']
                        exact sw
          · go_wp2_with fail
            go_quiet (first | (go_at_call 131; refine Calls.quiet_of_same (less32 _ _ _)))
            have hj2 : Hid (j' = scanDown (fun x => !ltInt x dk[a]!) dk i' j) := (scanDown_end (fun x => !ltInt x dk[a]!) dk i' j' (Or.inl hle2)).symm.trans hsd.out
            clear kw zw hsd
            have hw3 : wr.drewN nq = W1.drewN (n2 + nq) := by rw [HW2.out, World.drewN_drewN]
            generalize wr.drewN nq = W3 at hw3 ⊢
            have k3 : ∀ t, t < d.size → W3.cell? ⟨blk, off + t, none⟩ = some (.int .u32 (G t)) := fun t ht => by rw [hw3]; exact cells t ht
            have z3 : ∀ t, t < d.size → W3.frozen? ⟨blk, off + t, none⟩ = false := fun t ht => by rw [hw3]; exact thaw t ht
            have HW3 : Hid (W3 = W1.drewN (n2 + nq)) := hw3
            clear hw3
            have e := part_first_break ltInt d a b pivot hi.out hj.out hdk.out hi2.out hj2.out (by omega)
            obtain ⟨v3, hy3⟩ := cell?_setCell_some (w := W3) (p := ⟨blk, off + j', none⟩) (x := .int .u32 (G a)) (q := ⟨blk, off + a, none⟩) (k3 a (by omega))
            go_wp2
            go_region
            go_wp2
            go_ret2
            have sw := swap_worldC e32 w blk off dk (1 + (n2 + nq)) j' a (by omega) (by omega)
            refine ⟨by rw [e]; rfl, (1 + (n2 + nq)) + 1, ?_⟩
            rw [e, HW3.out, AW.out, World.drewN_drewN, HG.out a, HG.out j']
            exact sw
    · go_wp2_with fail
      go_quiet (first | (go_at_call 131; refine Calls.quiet_of_same (less32 _ _ _)))
      go_wp2
      have hi2 : Hid (i' = scanUp (fun x => ltInt x dk[a]!) dk j i) := (scanUp_end (fun x => ltInt x dk[a]!) dk j i' (Or.inl hle)).symm.trans hsc.out
      have hw2 : wr.drewN nq = W1.drewN (n1 + nq) := by rw [HW.out, World.drewN_drewN]
      clear kw zw HW hsc
      go_loopw [11] (fun vj w2 => ∃ (j' n2 : Nat), vj = .int .i64 j' ∧ j' ≤ j ∧ i' ≤ j' + 1 ∧ w2 = W1.drewN n2 ∧ Hid (scanDown (fun x => !ltInt x dk[a]!) dk i' j' = scanDown (fun x => !ltInt x dk[a]!) dk i' j)) (fun vj _ => (intOf vj).toNat)
      case atStart => exact ⟨j, n1 + nq, rfl, Nat.le_refl _, hij', hw2, rfl⟩
      case round =>
        clear hw2
        obtain ⟨j', n2, rfl, hjj, hij2, hw2, hsd⟩ := hrel
        have kw : ∀ t, t < d.size → wr.cell? ⟨blk, off + t, none⟩ = some (.int .u32 (G t)) := fun t ht => by rw [hw2]; exact cells t ht
        have zw : ∀ t, t < d.size → wr.frozen? ⟨blk, off + t, none⟩ = false := fun t ht => by rw [hw2]; exact thaw t ht
        have HW2 : Hid (wr = W1.drewN n2) := hw2
        clear hw2
        by_cases hle2 : i' ≤ j'
        · exfalso; omega
        · go_wp2_with fail
          go_quiet (first | (go_at_call 131; refine Calls.quiet_of_same (less32 _ _ _)))
          have hj2 : Hid (j' = scanDown (fun x => !ltInt x dk[a]!) dk i' j) := (scanDown_end (fun x => !ltInt x dk[a]!) dk i' j' (Or.inl hle2)).symm.trans hsd.out
          clear kw zw hsd
          have hw3 : wr.drewN nq = W1.drewN (n2 + nq) := by rw [HW2.out, World.drewN_drewN]
          generalize wr.drewN nq = W3 at hw3 ⊢
          have k3 : ∀ t, t < d.size → W3.cell? ⟨blk, off + t, none⟩ = some (.int .u32 (G t)) := fun t ht => by rw [hw3]; exact cells t ht
          have z3 : ∀ t, t < d.size → W3.frozen? ⟨blk, off + t, none⟩ = false := fun t ht => by rw [hw3]; exact thaw t ht
          have HW3 : Hid (W3 = W1.drewN (n2 + nq)) := hw3
          clear hw3
          have e := part_first_break ltInt d a b pivot hi.out hj.out hdk.out hi2.out hj2.out (by omega)
          obtain ⟨v3, hy3⟩ := cell?_setCell_some (w := W3) (p := ⟨blk, off + j', none⟩) (x := .int .u32 (G a)) (q := ⟨blk, off + a, none⟩) (k3 a (by omega))
          go_wp2
          go_region
          go_wp2
          go_ret2
          have sw := swap_worldC e32 w blk off dk (1 + (n2 + nq)) j' a (by omega) (by omega)
          refine ⟨by rw [e]; rfl, (1 + (n2 + nq)) + 1, ?_⟩
          rw [e, HW3.out, AW.out, World.drewN_drewN, HG.out a, HG.out j']
          exact sw
end Go.Proofs.YtiellonfgcmaaaaGreat

/- slices.Sort at uint32: the partial insertion sort. -/
namespace Go.Proofs.YtiellonfgcmaaaaGreat
open Go.RowKit Go.Sort
set_option maxHeartbeats 32000000 in
set_option maxRecDepth 1000000 in
theorem partial32 (blk off cap a b : Nat) (d : Array Int) (w : World) (hH : Holds e32 w blk off d) (hab : a < b) (hb : b ≤ d.size) (hsz : d.size < 4611686018427387904) :
    Calls Tryz.prog 130 #[.slice (some ⟨blk, off, none⟩) d.size cap, .int .i64 a, .int .i64 b] w fun e w' =>
      e = .returned (.bool (Sort.partialInsertionSort ltInt d a b).2) ∧ ∃ n, w' = putRow e32 (Sort.ahead w n) blk off (Sort.partialInsertionSort ltInt d a b).1 := by
  have HH : Hid (Holds e32 w blk off d) := hH
  have HS : Hid (w = putRow e32 (Sort.ahead w 0) blk off d) := (putRow_self _ _ _ _ _ hH).symm
  clear hH
  go_enter Tryz.func130, Tryz.ntmps130
  go_wp2
  go_loopw [8, 7] (fun vs vi wr => ∃ (s i n : Nat) (dk : Array Int), vs = .int .i64 s ∧ vi = .int .i64 i ∧ s ≤ 5 ∧ a + 1 ≤ i ∧ i ≤ b ∧ dk.size = d.size ∧ wr = putRow e32 (Sort.ahead w n) blk off dk ∧
      partialIns ltInt a b (5 - s) i dk = Sort.partialInsertionSort ltInt d a b) (fun vs _ _ => 5 - (intOf vs).toNat)
  case atStart => exact ⟨0, a + 1, 0, d, by go_num, by go_num, by omega, Nat.le_refl _, by omega, rfl, HS.out, rfl⟩
  case round =>
    obtain ⟨s, i, n, dk, rfl, rfl, hs5, hai, hib, hs, hw, hO⟩ := hrel
    have HO : Hid (partialIns ltInt a b (5 - s) i dk = Sort.partialInsertionSort ltInt d a b) := hO
    have HW : Hid (wr = putRow e32 (Sort.ahead w n) blk off dk) := hw
    clear hO hw HS
    by_cases h5 : s = 5
    · subst h5
      go_wp2
      go_ret
      have e := HO.out
      rw [pi_end] at e
      rw [← e]
      exact ⟨rfl, n, HW.out⟩
    · have hs5 : s < 5 := by omega
      clear h5
      go_wp2
      go_loopw [7] (fun vi wr => ∃ (k n1 : Nat), vi = .int .i64 k ∧ i ≤ k ∧ k ≤ b ∧ wr = putRow e32 (Sort.ahead w n1) blk off dk ∧ scanSorted ltInt dk b k = scanSorted ltInt dk b i) (fun vi _ => b - (intOf vi).toNat)
      case atStart => exact ⟨i, n, rfl, Nat.le_refl _, hib, HW.out, rfl⟩
      case round =>
        obtain ⟨k, n1, rfl, hik, hkb', hws, hsc⟩ := hrel
        obtain ⟨cells, thaw⟩ := row_facts HH.out hs hws
        obtain ⟨G, hG⟩ : ∃ G : Nat → Int, ∀ t, G t = dk[t]! := ⟨fun t => dk[t]!, fun _ => rfl⟩
        simp only [← hG] at cells
        have HG : Hid (∀ t, G t = dk[t]!) := hG
        have HWS : Hid (wr = _) := hws
        clear hG hws
        have HSC : Hid (scanSorted ltInt dk b k = scanSorted ltInt dk b i) := hsc
        clear hsc HW
        by_cases hlt : k < b
        · go_wp2_with fail
          go_quiet (first | (go_at_call 131; refine Calls.quiet_of_same (less32 _ _ _)))
          by_cases hl : ltInt (G k) (G (k - 1)) = true
          · have hz : (!ltInt (G k) (G (k - 1))) = false := by rw [hl]; rfl
            rw [hz]
            have HK : Hid (scanSorted ltInt dk b i = k) := by
              show _ = _
              rw [← HSC.out, scanSorted_stop ltInt dk b k (Or.inr (by rw [← HG.out, ← HG.out]; exact hl))]
            have hkne : scanSorted ltInt dk b i ≠ b := by rw [HK.out]; omega
            have hkb : ((k : Int) == (b : Int)) = false := by simp; omega
            have hw3 : wr.drewN nq = putRow e32 (Sort.ahead w (n1 + nq)) blk off dk := by rw [HWS.out]; exact putRow_drewN _ _ _ _ _ _ _
            generalize wr.drewN nq = W3 at hw3 ⊢
            clear cells thaw
            obtain ⟨k3, z3⟩ := row_facts HH.out hs hw3
            simp only [← HG.out] at k3
            have HW3 : Hid (W3 = putRow e32 (Sort.ahead w (n1 + nq)) blk off dk) := hw3
            clear hw3 HWS
            by_cases h50 : b - a < 50
            · go_wp2
              go_ret
              have e := pi_short ltInt a b s i dk hs5 hkne h50
              rw [← HO.out, e, HW3.out]
              exact ⟨rfl, _, rfl⟩
            · have hkne := (show k ≠ b by omega)
              have hW1 : ((W3.setCell ⟨blk, off + k, none⟩ (.int .u32 (G (k - 1)))).setCell ⟨blk, off + (k - 1), none⟩ (.int .u32 (G k))).drew = putRow e32 (Sort.ahead w (n1 + nq + 1)) blk off (swp dk k (k - 1)) := by
                rw [HW3.out, HG.out, HG.out]
                exact swap_worldC e32 w blk off dk (n1 + nq) k (k - 1) (by omega) (by omega)
              by_cases hdn : 2 ≤ k - a
              · go_wp2
                go_region
                go_wp2
                go_loopw [9] (fun vj wd => ∃ (j m2 : Nat) (dj : Array Int), vj = .int .i64 j ∧ j ≤ k - 1 ∧ dj.size = d.size ∧ wd = putRow e32 (Sort.ahead w m2) blk off dj ∧
                    shiftDown ltInt j dj = fixDown ltInt a k (swp dk k (k - 1))) (fun vj _ => (intOf vj).toNat)
                case atStart => exact ⟨k - 1, _, swp dk k (k - 1), by go_num, Nat.le_refl _, by rw [size_swp]; exact hs, (by first | rfl | exact hW1), by unfold fixDown; rw [if_pos (by omega)]⟩
                case round =>
                  clear hW1
                  obtain ⟨j, m2, dj, rfl, hjk, hsj, hwd, hD⟩ := hrel
                  obtain ⟨cells, thaw⟩ := row_facts HH.out hsj hwd
                  obtain ⟨G, hG⟩ : ∃ G : Nat → Int, ∀ t, G t = dj[t]! := ⟨fun t => dj[t]!, fun _ => rfl⟩
                  simp only [← hG] at cells
                  have HG : Hid (∀ t, G t = dj[t]!) := hG
                  have HWD : Hid (wr = _) := hwd
                  clear hG hwd
                  have HDg : Hid (shiftDown ltInt j dj = fixDown ltInt a k (swp dk k (k - 1))) := hD
                  clear hD
                  by_cases hj1 : 1 ≤ j
                  · go_wp2_with fail
                    go_quiet (first | (go_at_call 131; refine Calls.quiet_of_same (less32 _ _ _)))
                    by_cases hl : ltInt (G j) (G (j - 1)) = true
                    · have hz : (!ltInt (G j) (G (j - 1))) = false := by rw [hl]; rfl
                      rw [hz]
                      go_wp2
                      go_region
                      all_goals go_wp2
                      go_roundw
                      case rel =>
                        refine ⟨j - 1, m2 + (nq + 1), swp dj j (j - 1), by go_num, by omega, by rw [size_swp]; exact hsj, ?_, ?_⟩
                        · rw [HWD.out, HG.out, HG.out]
                          exact swap_worldA _ w m2 (nq + 1) blk off dj j (j - 1) (by omega) (by omega)
                        · rw [← HDg.out, shiftDown_go ltInt j dj hj1 (by rw [← HG.out, ← HG.out]; exact hl)]
                      case measure => simp [intOf]; omega
                    · have hz : (!ltInt (G j) (G (j - 1))) = true := by simpa using hl
                      rw [hz]
                      have hf : ltInt (G j) (G (j - 1)) = false := by simpa using hl
                      have HD : Hid (fixDown ltInt a k (swp dk k (k - 1)) = dj) := by
                        show _ = _
                        rw [← HDg.out, shiftDown_stop ltInt j dj (Or.inr (by rw [← HG.out, ← HG.out]; exact hf))]
                      clear cells thaw
                      by_cases hup : 2 ≤ b - k
                      · go_wp2
                        go_loopw [10] (fun vj wu => ∃ (j m3 : Nat) (du : Array Int), vj = .int .i64 j ∧ k + 1 ≤ j ∧ j ≤ b ∧ du.size = d.size ∧ wu = putRow e32 (Sort.ahead w m3) blk off du ∧
                            shiftUp ltInt b j du = fixUp ltInt b k dj) (fun vj _ => b - (intOf vj).toNat)
                        case atStart => exact ⟨k + 1, _, dj, by go_num, Nat.le_refl _, by omega, hsj, by rw [HWD.out]; exact putRow_drewN _ _ _ _ _ _ _, by unfold fixUp; rw [if_pos (by omega)]⟩
                        case round =>
                          obtain ⟨j, m3, du, rfl, hkj, hjb, hsu, hwu, hU⟩ := hrel
                          obtain ⟨cells, thaw⟩ := row_facts HH.out hsu hwu
                          obtain ⟨G, hG⟩ : ∃ G : Nat → Int, ∀ t, G t = du[t]! := ⟨fun t => du[t]!, fun _ => rfl⟩
                          simp only [← hG] at cells
                          have HG : Hid (∀ t, G t = du[t]!) := hG
                          have HWU : Hid (wr = _) := hwu
                          clear hG hwu
                          have HU : Hid (shiftUp ltInt b j du = fixUp ltInt b k dj) := hU
                          clear hU
                          by_cases hj1 : j < b
                          · go_wp2_with fail
                            go_quiet (first | (go_at_call 131; refine Calls.quiet_of_same (less32 _ _ _)))
                            by_cases hl : ltInt (G j) (G (j - 1)) = true
                            · have hz : (!ltInt (G j) (G (j - 1))) = false := by rw [hl]; rfl
                              rw [hz]
                              go_wp2
                              go_region
                              all_goals go_wp2
                              go_roundw
                              case rel =>
                                refine ⟨j + 1, m3 + (nq + 1), swp du j (j - 1), by go_num, by omega, by omega, by rw [size_swp]; exact hsu, ?_, ?_⟩
                                · rw [HWU.out, HG.out, HG.out]
                                  exact swap_worldA _ w m3 (nq + 1) blk off du j (j - 1) (by omega) (by omega)
                                · rw [← HU.out, shiftUp_go ltInt b j du hj1 (by rw [← HG.out, ← HG.out]; exact hl)]
                              case measure => simp [intOf]; omega
                            · have hz : (!ltInt (G j) (G (j - 1))) = true := by simpa using hl
                              rw [hz]
                              have hf : ltInt (G j) (G (j - 1)) = false := by simpa using hl
                              go_wp2
                              go_roundw
                              case rel =>
                                refine ⟨s + 1, k, _, du, by go_num, rfl, by omega, by omega, by omega, hsu, by rw [HWU.out]; exact putRow_drewN _ _ _ _ _ _ _, ?_⟩
                                rw [← HO.out, pi_go ltInt a b s i k dk hs5 HK.out hkne h50, HD.out, ← HU.out, shiftUp_stop ltInt b j du (Or.inr (by rw [← HG.out, ← HG.out]; exact hf))]
                              case measure => simp [intOf]; omega
                          · go_wp2
                            go_roundw
                            case rel =>
                              refine ⟨s + 1, k, _, du, by go_num, rfl, by omega, by omega, by omega, hsu, HWU.out, ?_⟩
                              rw [← HO.out, pi_go ltInt a b s i k dk hs5 HK.out hkne h50, HD.out, ← HU.out, shiftUp_stop ltInt b j du (Or.inl hj1)]
                            case measure => simp [intOf]; omega
                      · go_wp2
                        go_roundw
                        case rel =>
                          refine ⟨s + 1, k, _, dj, by go_num, rfl, by omega, by omega, by omega, hsj, by rw [HWD.out]; exact putRow_drewN _ _ _ _ _ _ _, ?_⟩
                          rw [← HO.out, pi_go ltInt a b s i k dk hs5 HK.out hkne h50, HD.out, show fixUp ltInt b k dj = dj from by unfold fixUp; rw [if_neg (by omega)]]
                        case measure => simp [intOf]; omega
                  · have HD : Hid (fixDown ltInt a k (swp dk k (k - 1)) = dj) := by
                      show _ = _
                      rw [← HDg.out, shiftDown_stop ltInt j dj (Or.inl (by omega))]
                    clear cells thaw
                    by_cases hup : 2 ≤ b - k
                    · go_wp2
                      go_loopw [10] (fun vj wu => ∃ (j m3 : Nat) (du : Array Int), vj = .int .i64 j ∧ k + 1 ≤ j ∧ j ≤ b ∧ du.size = d.size ∧ wu = putRow e32 (Sort.ahead w m3) blk off du ∧
                          shiftUp ltInt b j du = fixUp ltInt b k dj) (fun vj _ => b - (intOf vj).toNat)
                      case atStart => exact ⟨k + 1, _, dj, by go_num, Nat.le_refl _, by omega, hsj, HWD.out, by unfold fixUp; rw [if_pos (by omega)]⟩
                      case round =>
                        obtain ⟨j, m3, du, rfl, hkj, hjb, hsu, hwu, hU⟩ := hrel
                        obtain ⟨cells, thaw⟩ := row_facts HH.out hsu hwu
                        obtain ⟨G, hG⟩ : ∃ G : Nat → Int, ∀ t, G t = du[t]! := ⟨fun t => du[t]!, fun _ => rfl⟩
                        simp only [← hG] at cells
                        have HG : Hid (∀ t, G t = du[t]!) := hG
                        have HWU : Hid (wr = _) := hwu
                        clear hG hwu
                        have HU : Hid (shiftUp ltInt b j du = fixUp ltInt b k dj) := hU
                        clear hU
                        by_cases hj1 : j < b
                        · go_wp2_with fail
                          go_quiet (first | (go_at_call 131; refine Calls.quiet_of_same (less32 _ _ _)))
                          by_cases hl : ltInt (G j) (G (j - 1)) = true
                          · have hz : (!ltInt (G j) (G (j - 1))) = false := by rw [hl]; rfl
                            rw [hz]
                            go_wp2
                            go_region
                            all_goals go_wp2
                            go_roundw
                            case rel =>
                              refine ⟨j + 1, m3 + (nq + 1), swp du j (j - 1), by go_num, by omega, by omega, by rw [size_swp]; exact hsu, ?_, ?_⟩
                              · rw [HWU.out, HG.out, HG.out]
                                exact swap_worldA _ w m3 (nq + 1) blk off du j (j - 1) (by omega) (by omega)
                              · rw [← HU.out, shiftUp_go ltInt b j du hj1 (by rw [← HG.out, ← HG.out]; exact hl)]
                            case measure => simp [intOf]; omega
                          · have hz : (!ltInt (G j) (G (j - 1))) = true := by simpa using hl
                            rw [hz]
                            have hf : ltInt (G j) (G (j - 1)) = false := by simpa using hl
                            go_wp2
                            go_roundw
                            case rel =>
                              refine ⟨s + 1, k, _, du, by go_num, rfl, by omega, by omega, by omega, hsu, by rw [HWU.out]; exact putRow_drewN _ _ _ _ _ _ _, ?_⟩
                              rw [← HO.out, pi_go ltInt a b s i k dk hs5 HK.out hkne h50, HD.out, ← HU.out, shiftUp_stop ltInt b j du (Or.inr (by rw [← HG.out, ← HG.out]; exact hf))]
                            case measure => simp [intOf]; omega
                        · go_wp2
                          go_roundw
                          case rel =>
                            refine ⟨s + 1, k, _, du, by go_num, rfl, by omega, by omega, by omega, hsu, HWU.out, ?_⟩
                            rw [← HO.out, pi_go ltInt a b s i k dk hs5 HK.out hkne h50, HD.out, ← HU.out, shiftUp_stop ltInt b j du (Or.inl hj1)]
                          case measure => simp [intOf]; omega
                    · go_wp2
                      go_roundw
                      case rel =>
                        refine ⟨s + 1, k, _, dj, by go_num, rfl, by omega, by omega, by omega, hsj, HWD.out, ?_⟩
                        rw [← HO.out, pi_go ltInt a b s i k dk hs5 HK.out hkne h50, HD.out, show fixUp ltInt b k dj = dj from by unfold fixUp; rw [if_neg (by omega)]]
                      case measure => simp [intOf]; omega
              · have HD : Hid (fixDown ltInt a k (swp dk k (k - 1)) = swp dk k (k - 1)) := by
                  show _ = _
                  unfold fixDown; rw [if_neg (by omega)]
                obtain ⟨dj, hdj⟩ : ∃ dj, dj = swp dk k (k - 1) := ⟨_, rfl⟩
                have hsj : dj.size = d.size := by rw [hdj, size_swp]; exact hs
                have HD : Hid (fixDown ltInt a k (swp dk k (k - 1)) = dj) := by rw [hdj]; exact HD
                rw [← hdj] at hW1
                clear hdj
                go_wp2
                go_region
                by_cases hup : 2 ≤ b - k
                · go_wp2
                  go_loopw [10] (fun vj wu => ∃ (j m3 : Nat) (du : Array Int), vj = .int .i64 j ∧ k + 1 ≤ j ∧ j ≤ b ∧ du.size = d.size ∧ wu = putRow e32 (Sort.ahead w m3) blk off du ∧
                      shiftUp ltInt b j du = fixUp ltInt b k dj) (fun vj _ => b - (intOf vj).toNat)
                  case atStart => exact ⟨k + 1, _, dj, by go_num, Nat.le_refl _, by omega, hsj, (by first | rfl | exact hW1), by unfold fixUp; rw [if_pos (by omega)]⟩
                  case round =>
                    obtain ⟨j, m3, du, rfl, hkj, hjb, hsu, hwu, hU⟩ := hrel
                    obtain ⟨cells, thaw⟩ := row_facts HH.out hsu hwu
                    obtain ⟨G, hG⟩ : ∃ G : Nat → Int, ∀ t, G t = du[t]! := ⟨fun t => du[t]!, fun _ => rfl⟩
                    simp only [← hG] at cells
                    have HG : Hid (∀ t, G t = du[t]!) := hG
                    have HWU : Hid (wr = _) := hwu
                    clear hG hwu
                    have HU : Hid (shiftUp ltInt b j du = fixUp ltInt b k dj) := hU
                    clear hU
                    by_cases hj1 : j < b
                    · go_wp2_with fail
                      go_quiet (first | (go_at_call 131; refine Calls.quiet_of_same (less32 _ _ _)))
                      by_cases hl : ltInt (G j) (G (j - 1)) = true
                      · have hz : (!ltInt (G j) (G (j - 1))) = false := by rw [hl]; rfl
                        rw [hz]
                        go_wp2
                        go_region
                        all_goals go_wp2
                        go_roundw
                        case rel =>
                          refine ⟨j + 1, m3 + (nq + 1), swp du j (j - 1), by go_num, by omega, by omega, by rw [size_swp]; exact hsu, ?_, ?_⟩
                          · rw [HWU.out, HG.out, HG.out]
                            exact swap_worldA _ w m3 (nq + 1) blk off du j (j - 1) (by omega) (by omega)
                          · rw [← HU.out, shiftUp_go ltInt b j du hj1 (by rw [← HG.out, ← HG.out]; exact hl)]
                        case measure => simp [intOf]; omega
                      · have hz : (!ltInt (G j) (G (j - 1))) = true := by simpa using hl
                        rw [hz]
                        have hf : ltInt (G j) (G (j - 1)) = false := by simpa using hl
                        go_wp2
                        go_roundw
                        case rel =>
                          refine ⟨s + 1, k, _, du, by go_num, rfl, by omega, by omega, by omega, hsu, by rw [HWU.out]; exact putRow_drewN _ _ _ _ _ _ _, ?_⟩
                          rw [← HO.out, pi_go ltInt a b s i k dk hs5 HK.out hkne h50, HD.out, ← HU.out, shiftUp_stop ltInt b j du (Or.inr (by rw [← HG.out, ← HG.out]; exact hf))]
                        case measure => simp [intOf]; omega
                    · go_wp2
                      go_roundw
                      case rel =>
                        refine ⟨s + 1, k, _, du, by go_num, rfl, by omega, by omega, by omega, hsu, HWU.out, ?_⟩
                        rw [← HO.out, pi_go ltInt a b s i k dk hs5 HK.out hkne h50, HD.out, ← HU.out, shiftUp_stop ltInt b j du (Or.inl hj1)]
                      case measure => simp [intOf]; omega
                · exfalso; omega
          · have hz : (!ltInt (G k) (G (k - 1))) = true := by simpa using hl
            rw [hz]
            have hf : ltInt (G k) (G (k - 1)) = false := by simpa using hl
            go_wp2
            go_roundw
            case rel => exact ⟨k + 1, n1 + nq, by go_num, by omega, by omega, by rw [HWS.out]; exact putRow_drewN _ _ _ _ _ _ _, by rw [← HSC.out, scanSorted_go ltInt dk b k hlt (by rw [← HG.out, ← HG.out]; exact hf)]⟩
            case measure => simp [intOf]; omega
        · obtain rfl : k = b := by omega
          have hkk : ((k : Int) == (k : Int)) = true := by simp
          have hltz : decide ((k : Int) < (k : Int)) = false := by simp
          go_wp2_with fail
          go_quiet (first | (go_at_call 131; refine Calls.quiet_of_same (less32 _ _ _)))
          go_wp2
          go_ret
          have hK : scanSorted ltInt dk k i = k := by rw [← HSC.out, scanSorted_stop ltInt dk k k (Or.inl hlt)]
          have e := pi_true ltInt a k s i dk hs5 hK
          rw [← HO.out, e]
          exact ⟨rfl, n1 + nq, by rw [HWS.out]; exact putRow_drewN _ _ _ _ _ _ _⟩
end Go.Proofs.YtiellonfgcmaaaaGreat

/- slices.Sort at uint32: the medians, the pivot. -/
namespace Go.Proofs.YtiellonfgcmaaaaGreat
open Go.RowKit Go.Sort

theorem aside32 {w : World} {blk off sb so n t : Nat} {d : Array Int} (h : Holds e32 w blk off d) (hne : sb ≠ blk) : Holds e32 (putRow (Value.int .i64) (Sort.ahead w n) sb so (one t)) blk off d := fun j hj =>
  ⟨by rw [cell?_putRow_other (Value.int .i64) _ sb so (one t) ⟨blk, off + j, none⟩ (Or.inl (fun h => hne h.symm))]; exact (h j hj).1, by rw [frozen?_putRow]; exact (h j hj).2⟩

set_option maxHeartbeats 4000000 in
set_option maxRecDepth 100000 in
theorem order32 (d : Array Int) (blk off cap a b sb so s : Nat) (w : World) (hH : Holds e32 w blk off d) (ha : a < d.size) (hb : b < d.size)
    (hS : Holds (Value.int .i64) w sb so (one s)) (hs : s < 4611686018427387904) :
    Calls Tryz.prog 198 #[.slice (some ⟨blk, off, none⟩) d.size cap, .int .i64 a, .int .i64 b, .pointer (some ⟨sb, so, none⟩)] w fun e w' =>
      e = .returned (.tuple #[.int .i64 (order2 ltInt d a b s).1, .int .i64 (order2 ltInt d a b s).2.1]) ∧ ∃ n, w' = putRow (Value.int .i64) (Sort.ahead w n) sb so (one (order2 ltInt d a b s).2.2) := by
  have ca := (hH a ha).1
  have cb := (hH b hb).1
  obtain ⟨x, hx⟩ : ∃ x, d[a]! = x := ⟨_, rfl⟩
  obtain ⟨y, hy⟩ : ∃ y, d[b]! = y := ⟨_, rfl⟩
  rw [hx] at ca; rw [hy] at cb
  obtain ⟨cs, fs⟩ := one_cell hS
  have HS : Hid (Holds (Value.int .i64) w sb so (one s)) := hS
  have E : Hid (order2 ltInt d a b s = if ltInt y x then (b, a, s + 1) else (a, b, s)) := by show _ = _; unfold order2; rw [hx, hy]
  clear hx hy hS hH
  go_enter Tryz.func198, Tryz.ntmps198
  go_wp2_with fail
  go_quiet (first | (go_at_call 131; refine Calls.quiet_of_same (less32 _ _ _)))
  by_cases hl : ltInt y x = true
  · rw [hl]
    go_wp2
    go_ret2
    rw [E.out, if_pos hl]
    refine ⟨rfl, nq, ?_⟩
    rw [putRow_ahead, ← one_set HS.out (s + 1)]
    rfl
  · have hf : ltInt y x = false := by simpa using hl
    rw [hf]
    go_wp2
    go_ret2
    rw [E.out, if_neg hl]
    refine ⟨rfl, nq, ?_⟩
    rw [putRow_ahead, putRow_self _ _ _ _ _ HS.out]
    rfl

theorem one32 {w : World} {sb so s n t : Nat} (h : Holds (Value.int .i64) w sb so (one s)) : Holds (Value.int .i64) (putRow (Value.int .i64) (Sort.ahead w n) sb so (one t)) sb so (one t) :=
  holds_putRow _ _ _ _ (one s) (one t) (holds_ahead _ _ _ _ _ _ h) rfl

/-- The comparison of two places, from a world of a median's. -/
theorem order32_at (d : Array Int) (blk off cap a b sb so s t k : Nat) (w : World) (hH : Holds e32 w blk off d) (ha : a < d.size) (hb : b < d.size) (hne : sb ≠ blk)
    (hS : Holds (Value.int .i64) w sb so (one s)) (ht : t < 4611686018427387904) :
    Calls Tryz.prog 198 #[.slice (some ⟨blk, off, none⟩) d.size cap, .int .i64 a, .int .i64 b, .pointer (some ⟨sb, so, none⟩)] (putRow (Value.int .i64) (Sort.ahead w k) sb so (one t)) fun e w' =>
      e = .returned (.tuple #[.int .i64 (order2 ltInt d a b t).1, .int .i64 (order2 ltInt d a b t).2.1]) ∧ ∃ n, w' = putRow (Value.int .i64) (Sort.ahead w n) sb so (one (order2 ltInt d a b t).2.2) := by
  refine (order32 d blk off cap a b sb so t _ (aside32 hH hne) ha hb (one32 hS) ht).mono ?_
  rintro e w' ⟨rfl, n, rfl⟩
  exact ⟨rfl, k + n, one_one _ _ _ _ _ _ _⟩

set_option maxHeartbeats 4000000 in
set_option maxRecDepth 100000 in
theorem median32 (d : Array Int) (blk off cap a b c sb so s : Nat) (w : World) (hH : Holds e32 w blk off d) (ha : a < d.size) (hb : b < d.size) (hc : c < d.size) (hne : sb ≠ blk)
    (hS : Holds (Value.int .i64) w sb so (one s)) (hs : s + 3 < 4611686018427387904) :
    Calls Tryz.prog 162 #[.slice (some ⟨blk, off, none⟩) d.size cap, .int .i64 a, .int .i64 b, .int .i64 c, .pointer (some ⟨sb, so, none⟩)] w fun e w' =>
      e = .returned (.int .i64 (median ltInt d a b c s).1) ∧ ∃ n, w' = putRow (Value.int .i64) (Sort.ahead w n) sb so (one (median ltInt d a b c s).2) := by
  have l1 := order2_lt d s ha hb
  have s1 := order2_swaps d a b s
  have C1 := order32 d blk off cap a b sb so s w hH ha hb hS (by omega)
  obtain ⟨p, q, t1, e1⟩ : ∃ p q t, order2 ltInt d a b s = (p, q, t) := ⟨_, _, _, rfl⟩
  simp only [e1] at l1 s1 C1
  have l2 := order2_lt d t1 l1.2 hc
  have s2 := order2_swaps d q c t1
  have C2 := fun k => order32_at d blk off cap q c sb so s t1 k w hH l1.2 hc hne hS (by omega)
  obtain ⟨q2, c2, t2, e2⟩ : ∃ x y t, order2 ltInt d q c t1 = (x, y, t) := ⟨_, _, _, rfl⟩
  simp only [e2] at l2 s2 C2
  have C3 := fun k => order32_at d blk off cap p q2 sb so s t2 k w hH l1.1 l2.1 hne hS (by omega)
  obtain ⟨p3, q3, t3, e3⟩ : ∃ x y t, order2 ltInt d p q2 t2 = (x, y, t) := ⟨_, _, _, rfl⟩
  simp only [e3] at C3
  have M : Hid (median ltInt d a b c s = (q3, t3)) := by
    show _ = _
    unfold median
    simp only [e1, e2, e3]
  have C1 : Hid _ := C1
  have C2 : Hid _ := C2
  have C3 : Hid _ := C3
  clear e1 e2 e3 hH hS
  go_enter Tryz.func162, Tryz.ntmps162
  go_wp2_with (go_at_call_of 198 (Value.int .i64 (b : Int)); refine Calls.mono C1.out ?_; rintro e w' ⟨rfl, n1, rfl⟩)
  go_wp2_with (go_at_call_of 198 (Value.int .i64 (c : Int)); refine Calls.mono (C2.out n1) ?_; rintro e w' ⟨rfl, n2, rfl⟩)
  go_wp2_with (go_at_call_of 198 (Value.int .i64 (p : Int)); refine Calls.mono (C3.out n2) ?_; rintro e w' ⟨rfl, n3, rfl⟩)
  go_ret
  rw [M.out]
  exact ⟨rfl, n3, rfl⟩

set_option maxHeartbeats 4000000 in
theorem adjacent32 (d : Array Int) (blk off cap a sb so s : Nat) (w : World) (hH : Holds e32 w blk off d) (h1 : 1 ≤ a) (ha : a + 1 < d.size) (hsz : d.size < 4611686018427387904) (hne : sb ≠ blk)
    (hS : Holds (Value.int .i64) w sb so (one s)) (hs : s + 3 < 4611686018427387904) :
    Calls Tryz.prog 161 #[.slice (some ⟨blk, off, none⟩) d.size cap, .int .i64 a, .pointer (some ⟨sb, so, none⟩)] w fun e w' =>
      e = .returned (.int .i64 (medianAdjacent ltInt d a s).1) ∧ ∃ n, w' = putRow (Value.int .i64) (Sort.ahead w n) sb so (one (medianAdjacent ltInt d a s).2) := by
  have C := median32 d blk off cap (a - 1) a (a + 1) sb so s w hH (by omega) (by omega) ha hne hS hs
  rw [show ((a - 1 : Nat) : Int) = (a : Int) - 1 by omega, show ((a + 1 : Nat) : Int) = (a : Int) + 1 by omega] at C
  unfold medianAdjacent
  generalize median ltInt d (a - 1) a (a + 1) s = R at C ⊢
  have C : Hid _ := C
  clear hH hS
  go_enter Tryz.func161, Tryz.ntmps161
  go_wp2_with (go_at_call 162; refine Calls.mono C.out ?_; rintro e w' ⟨rfl, n1, rfl⟩)
  go_ret
  exact ⟨rfl, n1, rfl⟩
end Go.Proofs.YtiellonfgcmaaaaGreat

/- slices.Sort at uint32: the pivot. -/
namespace Go.Proofs.YtiellonfgcmaaaaGreat
open Go.RowKit Go.Sort
set_option maxHeartbeats 8000000 in
set_option maxRecDepth 100000 in
theorem pivot32 (blk off cap a b : Nat) (d : Array Int) (w : World) (hH : Holds e32 w blk off d) (hblk : blk < w.heap.size) (hab : a < b) (hb : b ≤ d.size) (hsz : d.size < 4611686018427387904) :
    Calls Tryz.prog 128 #[.slice (some ⟨blk, off, none⟩) d.size cap, .int .i64 a, .int .i64 b] w fun e w' =>
      e = .returned (.tuple #[.int .i64 (choosePivot ltInt d a b).1, .int .i64 (hintCode (choosePivot ltInt d a b).2)]) ∧ ∃ n os, w' = grow (Sort.ahead w n) os := by
  have hne : w.heap.size ≠ blk := by omega
  have hH0 : Holds e32 (w.alloc (.cells #[.int .i64 0] 3)) blk off d := by rw [alloc_eq_grow]; exact holds_grow _ _ _ _ _ _ hblk hH
  have hS0 : Holds (Value.int .i64) (w.alloc (.cells #[.int .i64 0] 3)) w.heap.size 0 (one 0) := fun j hj => by
    obtain rfl : j = 0 := by simpa using hj
    simp
  obtain ⟨Wc, hWc⟩ : ∃ Wc : Nat → Nat → World, ∀ N s, Wc N s = putRow (Value.int .i64) (Sort.ahead (w.alloc (.cells #[.int .i64 0] 3)) N) w.heap.size 0 (one s) := ⟨_, fun _ _ => rfl⟩
  have hW0 : w.alloc (.cells #[.int .i64 0] 3) = Wc 0 0 := by rw [hWc]; exact (putRow_self _ _ _ _ _ hS0).symm
  have cS : ∀ N s : Nat, (Wc N s).cell? ⟨w.heap.size, 0, none⟩ = some (.int .i64 (s : Int)) := fun N s => by rw [hWc]; exact (one_cell (one32 (n := N) (t := s) hS0)).1
  have hG : ∀ N s : Nat, ∃ os, Wc N s = grow (Sort.ahead w N) os := fun N s => by rw [hWc]; exact counter_grow w N s
  have MA : ∀ x s N : Nat, 1 ≤ x → x + 1 < d.size → s + 3 < 4611686018427387904 → Calls Tryz.prog 161 #[.slice (some ⟨blk, off, none⟩) d.size cap, .int .i64 (x : Int), .pointer (some ⟨w.heap.size, 0, none⟩)] (Wc N s) fun e w' => e = .returned (.int .i64 ((medianAdjacent ltInt d x s).1 : Int)) ∧ ∃ N', w' = Wc N' (medianAdjacent ltInt d x s).2 := by
    intro x s N h1 h2 h3
    rw [hWc]
    refine (adjacent32 d blk off cap x w.heap.size 0 s _ (aside32 hH0 hne) h1 h2 hsz hne (one32 hS0) h3).mono ?_
    rintro e w' ⟨he, n, hw⟩
    exact ⟨he, N + n, by rw [hw, hWc, one_one]⟩
  have MD : ∀ x y z s N : Nat, x < d.size → y < d.size → z < d.size → s + 3 < 4611686018427387904 → Calls Tryz.prog 162 #[.slice (some ⟨blk, off, none⟩) d.size cap, .int .i64 (x : Int), .int .i64 (y : Int), .int .i64 (z : Int), .pointer (some ⟨w.heap.size, 0, none⟩)] (Wc N s) fun e w' => e = .returned (.int .i64 ((median ltInt d x y z s).1 : Int)) ∧ ∃ N', w' = Wc N' (median ltInt d x y z s).2 := by
    intro x y z s N h1 h2 h3 h4
    rw [hWc]
    refine (median32 d blk off cap x y z w.heap.size 0 s _ (aside32 hH0 hne) h1 h2 h3 hne (one32 hS0) h4).mono ?_
    rintro e w' ⟨he, n, hw⟩
    exact ⟨he, N + n, by rw [hw, hWc, one_one]⟩
  clear hH hH0 hS0 hWc
  obtain ⟨I, hI⟩ : ∃ I : Nat, I = a + (b - a) / 4 * 1 := ⟨_, rfl⟩
  obtain ⟨J, hJ⟩ : ∃ J : Nat, J = a + (b - a) / 4 * 2 := ⟨_, rfl⟩
  obtain ⟨K, hK⟩ : ∃ K : Nat, K = a + (b - a) / 4 * 3 := ⟨_, rfl⟩
  have eI : ((a : Int) + ((b : Int) - (a : Int)) / 4) = (I : Int) := by omega
  have eJ : ((a : Int) + ((b : Int) - (a : Int)) / 4 * 2) = (J : Int) := by omega
  have eK : ((a : Int) + ((b : Int) - (a : Int)) / 4 * 3) = (K : Int) := by omega
  by_cases h8 : b - a ≥ 8
  · by_cases h50 : b - a ≥ 50
    · have m1 := medianAdjacent_mem ltInt d I 0
      have n1 := medianAdjacent_count ltInt d I 0
      have x1 := fun N => MA I 0 N (by omega) (by omega) (by omega)
      obtain ⟨i1, s1, h1⟩ : ∃ i1 s1, medianAdjacent ltInt d I 0 = (i1, s1) := ⟨_, _, rfl⟩
      simp only [h1] at m1 n1 x1
      have m2 := medianAdjacent_mem ltInt d J s1
      have n2 := medianAdjacent_count ltInt d J s1
      have x2 := fun N => MA J s1 N (by omega) (by omega) (by omega)
      obtain ⟨j1, s2, h2⟩ : ∃ j1 s2, medianAdjacent ltInt d J s1 = (j1, s2) := ⟨_, _, rfl⟩
      simp only [h2] at m2 n2 x2
      have m3 := medianAdjacent_mem ltInt d K s2
      have n3 := medianAdjacent_count ltInt d K s2
      have x3 := fun N => MA K s2 N (by omega) (by omega) (by omega)
      obtain ⟨k1, s3, h3⟩ : ∃ k1 s3, medianAdjacent ltInt d K s2 = (k1, s3) := ⟨_, _, rfl⟩
      simp only [h3] at m3 n3 x3
      have x4 := fun N => MD i1 j1 k1 s3 N (by omega) (by omega) (by omega) (by omega)
      obtain ⟨p, s, h4⟩ : ∃ p s, median ltInt d i1 j1 k1 s3 = (p, s) := ⟨_, _, rfl⟩
      simp only [h4] at x4
      have hraw : rawPivot ltInt d a b = (p, s) := by simp only [rawPivot, if_pos h8, if_pos h50, ← hI, ← hJ, ← hK, h1, h2, h3, h4]
      have c1 : Hid (∀ N, Calls Tryz.prog 161 #[.slice (some ⟨blk, off, none⟩) d.size cap, .int .i64 (I : Int), .pointer (some ⟨w.heap.size, 0, none⟩)] (Wc N 0) fun e w' => e = .returned (.int .i64 ((i1 : Nat) : Int)) ∧ ∃ N', w' = Wc N' s1) := x1
      have c2 : Hid (∀ N, Calls Tryz.prog 161 #[.slice (some ⟨blk, off, none⟩) d.size cap, .int .i64 (J : Int), .pointer (some ⟨w.heap.size, 0, none⟩)] (Wc N s1) fun e w' => e = .returned (.int .i64 ((j1 : Nat) : Int)) ∧ ∃ N', w' = Wc N' s2) := x2
      have c3 : Hid (∀ N, Calls Tryz.prog 161 #[.slice (some ⟨blk, off, none⟩) d.size cap, .int .i64 (K : Int), .pointer (some ⟨w.heap.size, 0, none⟩)] (Wc N s2) fun e w' => e = .returned (.int .i64 ((k1 : Nat) : Int)) ∧ ∃ N', w' = Wc N' s3) := x3
      have c4 : Hid (∀ N, Calls Tryz.prog 162 #[.slice (some ⟨blk, off, none⟩) d.size cap, .int .i64 (i1 : Int), .int .i64 (j1 : Int), .int .i64 (k1 : Int), .pointer (some ⟨w.heap.size, 0, none⟩)] (Wc N s3) fun e w' => e = .returned (.int .i64 ((p : Nat) : Int)) ∧ ∃ N', w' = Wc N' s) := x4
      clear h1 h2 h3 h4 MA MD hI hJ hK m1 m2 m3 n1 n2 n3 x1 x2 x3 x4
      have ER : Hid (choosePivot ltInt d a b = (p, hintOf s)) := by show _ = _; rw [choosePivot_eq, hraw]
      clear hraw
      have fin : ∀ c : Int, hintCode (hintOf s) = c → ∀ N, (Ending.returned (.tuple #[.int .i64 (p : Int), .int .i64 c]) = Ending.returned (.tuple #[.int .i64 (choosePivot ltInt d a b).1, .int .i64 (hintCode (choosePivot ltInt d a b).2)]) ∧ ∃ n os, Wc N s = grow (Sort.ahead w n) os) := by
        intro c hc N
        rw [ER.out]
        exact ⟨by rw [hc], N, hG N s⟩
      have FIN : Hid _ := fin
      clear fin ER hG
      rcases (show s = 0 ∨ s = 12 ∨ (s ≠ 0 ∧ s ≠ 12) by omega) with hs | hs | ⟨hs, hs'⟩
      · subst hs
        go_enter Tryz.func128, Tryz.ntmps128
        go_wp2_with (first
          | (go_at_call_has 161 (Value.int .i64 (I : Int)); refine Calls.mono (c1.out 0) ?_; rintro e w' ⟨rfl, N1, rfl⟩)
          | (go_at_call_has 161 (Value.int .i64 (J : Int)); refine Calls.mono (c2.out _) ?_; rintro e w' ⟨rfl, N2, rfl⟩)
          | (go_at_call_has 161 (Value.int .i64 (K : Int)); refine Calls.mono (c3.out _) ?_; rintro e w' ⟨rfl, N3, rfl⟩)
          | (go_at_call 162; refine Calls.mono (c4.out _) ?_; rintro e w' ⟨rfl, N4, rfl⟩))
        go_ret2
        exact FIN.out 1 rfl _
      · subst hs
        go_enter Tryz.func128, Tryz.ntmps128
        go_wp2_with (first
          | (go_at_call_has 161 (Value.int .i64 (I : Int)); refine Calls.mono (c1.out 0) ?_; rintro e w' ⟨rfl, N1, rfl⟩)
          | (go_at_call_has 161 (Value.int .i64 (J : Int)); refine Calls.mono (c2.out _) ?_; rintro e w' ⟨rfl, N2, rfl⟩)
          | (go_at_call_has 161 (Value.int .i64 (K : Int)); refine Calls.mono (c3.out _) ?_; rintro e w' ⟨rfl, N3, rfl⟩)
          | (go_at_call 162; refine Calls.mono (c4.out _) ?_; rintro e w' ⟨rfl, N4, rfl⟩))
        go_ret2
        exact FIN.out 2 rfl _
      · have b0 : ((s : Int) == 0) = false := by simp; omega
        have b12 : ((s : Int) == 12) = false := by simp; omega
        go_enter Tryz.func128, Tryz.ntmps128
        go_wp2_with (first
          | (go_at_call_has 161 (Value.int .i64 (I : Int)); refine Calls.mono (c1.out 0) ?_; rintro e w' ⟨rfl, N1, rfl⟩)
          | (go_at_call_has 161 (Value.int .i64 (J : Int)); refine Calls.mono (c2.out _) ?_; rintro e w' ⟨rfl, N2, rfl⟩)
          | (go_at_call_has 161 (Value.int .i64 (K : Int)); refine Calls.mono (c3.out _) ?_; rintro e w' ⟨rfl, N3, rfl⟩)
          | (go_at_call 162; refine Calls.mono (c4.out _) ?_; rintro e w' ⟨rfl, N4, rfl⟩))
        go_ret2
        exact FIN.out 0 (by unfold hintOf; rw [if_neg hs, if_neg hs']; rfl) _
    · have x4 := fun N => MD I J K 0 N (by omega) (by omega) (by omega) (by omega)
      obtain ⟨p, s, h4⟩ : ∃ p s, median ltInt d I J K 0 = (p, s) := ⟨_, _, rfl⟩
      simp only [h4] at x4
      have hraw : rawPivot ltInt d a b = (p, s) := by simp only [rawPivot, if_pos h8, if_neg h50, ← hI, ← hJ, ← hK, h4]
      have c4 : Hid (∀ N, Calls Tryz.prog 162 #[.slice (some ⟨blk, off, none⟩) d.size cap, .int .i64 (I : Int), .int .i64 (J : Int), .int .i64 (K : Int), .pointer (some ⟨w.heap.size, 0, none⟩)] (Wc N 0) fun e w' => e = .returned (.int .i64 ((p : Nat) : Int)) ∧ ∃ N', w' = Wc N' s) := x4
      clear h4 MA MD hI hJ hK x4
      have ER : Hid (choosePivot ltInt d a b = (p, hintOf s)) := by show _ = _; rw [choosePivot_eq, hraw]
      clear hraw
      have fin : ∀ c : Int, hintCode (hintOf s) = c → ∀ N, (Ending.returned (.tuple #[.int .i64 (p : Int), .int .i64 c]) = Ending.returned (.tuple #[.int .i64 (choosePivot ltInt d a b).1, .int .i64 (hintCode (choosePivot ltInt d a b).2)]) ∧ ∃ n os, Wc N s = grow (Sort.ahead w n) os) := by
        intro c hc N
        rw [ER.out]
        exact ⟨by rw [hc], N, hG N s⟩
      have FIN : Hid _ := fin
      clear fin ER hG
      rcases (show s = 0 ∨ s = 12 ∨ (s ≠ 0 ∧ s ≠ 12) by omega) with hs | hs | ⟨hs, hs'⟩
      · subst hs
        go_enter Tryz.func128, Tryz.ntmps128
        go_wp2_with (first | (go_at_call 162; refine Calls.mono (c4.out 0) ?_; rintro e w' ⟨rfl, N4, rfl⟩))
        go_ret2
        exact FIN.out 1 rfl _
      · subst hs
        go_enter Tryz.func128, Tryz.ntmps128
        go_wp2_with (first | (go_at_call 162; refine Calls.mono (c4.out 0) ?_; rintro e w' ⟨rfl, N4, rfl⟩))
        go_ret2
        exact FIN.out 2 rfl _
      · have b0 : ((s : Int) == 0) = false := by simp; omega
        have b12 : ((s : Int) == 12) = false := by simp; omega
        go_enter Tryz.func128, Tryz.ntmps128
        go_wp2_with (first | (go_at_call 162; refine Calls.mono (c4.out 0) ?_; rintro e w' ⟨rfl, N4, rfl⟩))
        go_ret2
        exact FIN.out 0 (by unfold hintOf; rw [if_neg hs, if_neg hs']; rfl) _
  · have hraw : rawPivot ltInt d a b = (J, 0) := by simp only [rawPivot, if_neg h8, ← hJ]
    have ER : Hid (choosePivot ltInt d a b = (J, hintOf 0)) := by show _ = _; rw [choosePivot_eq, hraw]
    clear hraw MA MD hI hJ hK
    go_enter Tryz.func128, Tryz.ntmps128
    go_wp2
    go_ret2
    rw [ER.out]
    exact ⟨rfl, 0, hG 0 0⟩
end Go.Proofs.YtiellonfgcmaaaaGreat
