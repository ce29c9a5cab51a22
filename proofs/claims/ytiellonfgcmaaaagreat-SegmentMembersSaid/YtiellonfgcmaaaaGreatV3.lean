/- slices.Sort at uint32: the generator and the broken patterns. -/
import Derived.Test.YtiellonfgcmaaaaGreatV2
import Derived.Test.YtiellonfgcmaaaaGreatShelf
import Derived.Sort.Walk7
import Derived.Sort.Walk13
import Derived.Sort.AssemblyPlain
import Derived.Test.YtiellonfgcmaaaaGreatShelg
namespace Go.Proofs.YtiellonfgcmaaaaGreat
open Go.RowKit Go.Sort
set_option maxHeartbeats 4000000 in
theorem next32 (rb ro X : Nat) (hX : X < 18446744073709551616) (w : World) (hc : w.cell? ⟨rb, ro, none⟩ = some (.int .u64 X)) (hf : w.frozen? ⟨rb, ro, none⟩ = false) :
    Calls Tryz.prog 157 #[.pointer (some ⟨rb, ro, none⟩)] w fun e w' => e = .returned (.int .u64 (xorNextN X : Nat)) ∧ w' = (w.setCell ⟨rb, ro, none⟩ (.int .u64 (xorNextN X : Nat))).drewN 3 := by
  obtain ⟨x1, h1⟩ : ∃ x : Nat, x = X ^^^ (X * 8192 % 18446744073709551616) := ⟨_, rfl⟩
  obtain ⟨x2, h2⟩ : ∃ x : Nat, x = x1 ^^^ (x1 / 128) := ⟨_, rfl⟩
  obtain ⟨x3, h3⟩ : ∃ x : Nat, x = x2 ^^^ (x2 * 131072 % 18446744073709551616) := ⟨_, rfl⟩
  have l1 : x1 < 18446744073709551616 := by rw [h1]; exact Nat.xor_lt_two_pow (n := 64) (by omega) (by omega)
  have l2 : x2 < 18446744073709551616 := by rw [h2]; exact Nat.xor_lt_two_pow (n := 64) (by omega) (by omega)
  have b1 : bits .xor .u64 (X : Int) (IntKind.u64.wrap ((X : Int) * 8192)) = (x1 : Int) := by
    rw [IntKind.wrap_u64, show ((X : Int) * 8192 % 18446744073709551616) = ((X * 8192 % 18446744073709551616 : Nat) : Int) by omega, bits_xor_u64_nat _ _ hX (by omega), h1]
  have b2 : bits .xor .u64 (x1 : Int) ((x1 : Int) / 128) = (x2 : Int) := by
    rw [show ((x1 : Int) / 128) = ((x1 / 128 : Nat) : Int) by omega, bits_xor_u64_nat _ _ l1 (by omega), h2]
  have b3 : bits .xor .u64 (x2 : Int) (IntKind.u64.wrap ((x2 : Int) * 131072)) = (x3 : Int) := by
    rw [IntKind.wrap_u64, show ((x2 : Int) * 131072 % 18446744073709551616) = ((x2 * 131072 % 18446744073709551616 : Nat) : Int) by omega, bits_xor_u64_nat _ _ l2 (by omega), h3]
  have e : xorNextN X = x3 := by unfold xorNextN; simp only []; rw [← h1, ← h2, ← h3]
  rw [e]
  clear h1 h2 h3 e
  have twice : ∀ v v', (w.setCell ⟨rb, ro, none⟩ v).setCell ⟨rb, ro, none⟩ v' = w.setCell ⟨rb, ro, none⟩ v' := setCell_setCell w rb ro
  go_enter Tryz.func157, Tryz.ntmps157
  go_wp2
  go_region
  all_goals go_wp2
  all_goals go_region
  all_goals go_wp2
  all_goals go_region
  all_goals go_wp2
  go_ret
  exact ⟨rfl, rfl⟩

set_option maxHeartbeats 4000000 in
theorem power32 (n : Nat) (hn : n < 4611686018427387904) (w : World) :
    Calls Tryz.prog 156 #[.int .i64 n] w fun e w' => e = .returned (.int .u64 ((1 <<< bitsLen n : Nat) : Int)) ∧ w' = w := by
  have L : ∀ w, Calls Tryz.prog 78 #[.int .u64 (n : Int)] w fun e w' => e = .returned (.int .i64 (bitsLen n : Nat)) ∧ w' = w := fun w => by
    have h := Tryz.bits_Len (n : Int) w (by omega) (by omega)
    rwa [Int.toNat_natCast, bitLen_eq _ (by omega)] at h
  have hk : bitsLen n ≤ 62 := (bitsLen_le_iff n 62).2 (by omega)
  have hp := wrap_two_pow (bitsLen n) hk
  go_enter Tryz.func156, Tryz.ntmps156
  go_wp2_with (first | (go_at_call 78; refine (L _).mono ?_; rintro e w' ⟨rfl, rfl⟩))
  go_ret
  exact ⟨rfl, rfl⟩

set_option maxHeartbeats 8000000 in
set_option maxRecDepth 100000 in
theorem break32 (blk off cap a b : Nat) (d : Array Int) (w : World) (hH : Holds e32 w blk off d) (hblk : blk < w.heap.size) (hab : a ≤ b) (hb : b ≤ d.size) (hsz : d.size < 4611686018427387904) :
    Calls Tryz.prog 127 #[.slice (some ⟨blk, off, none⟩) d.size cap, .int .i64 a, .int .i64 b] w fun e w' =>
      e = .returned (.tuple #[]) ∧ ∃ n os, w' = grow (putRow e32 (Sort.ahead w n) blk off (breakPatterns d a b)) os := by
  obtain ⟨L, rfl⟩ : ∃ L, b = a + L := ⟨b - a, by omega⟩
  have eL : ((a + L : Nat) : Int) - (a : Int) = (L : Int) := by omega
  generalize hbz : ((a + L : Nat) : Int) = bz at eL ⊢
  clear hbz
  by_cases h8 : 8 ≤ L
  · rw [breakPatterns_eq d a L h8]
    obtain ⟨M, hM⟩ : ∃ M : Nat, M = 1 <<< bitsLen L := ⟨_, rfl⟩
    have hM1 : 1 ≤ M := by rw [hM, Nat.one_shiftLeft]; exact Nat.two_pow_pos _
    have hM2 : M ≤ 2 * L := by rw [hM, Nat.one_shiftLeft]; exact two_pow_bitsLen_le (by omega)
    have PW : Hid (∀ w, Calls Tryz.prog 156 #[.int .i64 (L : Int)] w fun e w' => e = .returned (.int .u64 (M : Int)) ∧ w' = w) := by rw [hM]; exact fun w => power32 L (by omega) w
    rw [← hM]
    clear hM
    have HH : Hid (Holds e32 w blk off d) := hH
    have H0 : Hid (w.alloc (Obj.cells #[.int .u64 (L : Int)] 217) = grow (putRow e32 (Sort.ahead w 0) blk off d) #[Obj.cells #[.int .u64 ((UInt64.ofNat L).toNat : Int)] 217]) := by
      show _ = _
      rw [show Sort.ahead w 0 = w from rfl, putRow_self _ _ _ _ _ hH, alloc_eq_grow, show (UInt64.ofNat L).toNat = L from by simp; omega]
    clear hH
    obtain ⟨i0, hi0⟩ : ∃ i0 : Nat, i0 = a + L / 4 * 2 - 1 := ⟨_, rfl⟩
    have ei : (a : Int) + (L : Int) / 4 * 2 - 1 = (i0 : Int) := by omega
    have ei2 : (a : Int) + (L : Int) / 4 * 2 + 1 = (i0 : Int) + 2 := by omega
    have hi1 : i0 + 2 < a + L := by omega
    rw [← hi0]
    clear hi0
    go_enter Tryz.func127, Tryz.ntmps127
    go_wp2_with (first | (go_at_call 156; refine (PW.out _).mono ?_; rintro e w' ⟨rfl, rfl⟩))
    go_loopw [9] (fun vi wr => ∃ (t n : Nat) (r : UInt64) (dk : Array Int), vi = .int .i64 ((i0 + t : Nat) : Int) ∧ t ≤ 3 ∧ dk.size = d.size ∧
        wr = grow (putRow e32 (Sort.ahead w n) blk off dk) #[Obj.cells #[.int .u64 (r.toNat : Int)] 217] ∧
        bpRest a L M i0 (3 - t) t (r, dk) = bpRest a L M i0 3 0 (UInt64.ofNat L, d)) (fun vi _ => i0 + 3 - (intOf vi).toNat)
    case atStart => exact ⟨0, 0, UInt64.ofNat L, d, by first | rfl | (congr 1; omega), by omega, rfl, H0.out, rfl⟩
    case round =>
      obtain ⟨t, n, r, dk, rfl, ht, hs, hw, hR⟩ := hrel
      have HR : Hid (bpRest a L M i0 (3 - t) t (r, dk) = bpRest a L M i0 3 0 (UInt64.ofNat L, d)) := hR
      have HW : Hid (wr = grow (putRow e32 (Sort.ahead w n) blk off dk) #[Obj.cells #[.int .u64 (r.toNat : Int)] 217]) := hw
      clear hR H0 ei
      by_cases h3 : t = 3
      · subst h3
        clear hw
        go_wp2
        go_end0
        exact ⟨rfl, n, _, by rw [← HR.out, HW.out]; rfl⟩
      · have ht3 : t < 3 := by omega
        have hz : (putRow e32 (Sort.ahead w n) blk off dk).heap.size = w.heap.size := by simp
        obtain ⟨R', hR'⟩ : ∃ R' : Nat, R' = xorNextN r.toNat := ⟨_, rfl⟩
        have lR : r.toNat < 18446744073709551616 := r.toNat_lt
        have lR' : R' < 18446744073709551616 := by rw [hR']; exact xorNextN_lt _ lR
        obtain ⟨O, hO⟩ : ∃ O : Nat, O = R' &&& (M - 1) := ⟨_, rfl⟩
        have lO : O ≤ M - 1 := by rw [hO]; exact Nat.and_le_right
        have eAnd : bits .and .u64 (R' : Int) ((M : Int) - 1) = (O : Int) := by
          rw [show ((M : Int) - 1) = ((M - 1 : Nat) : Int) by omega, bits_and_u64_nat _ _ lR' (by omega), hO]
        have EN : Hid (R' = (xorNext r).toNat ∧ O = (xorNext r).toNat &&& (M - 1)) := by
          have e : R' = (xorNext r).toNat := by rw [hR', xorNext_toNat]
          exact ⟨e, by rw [hO, e]⟩
        obtain ⟨G, hG⟩ : ∃ G : Nat → Int, ∀ x, G x = dk[x]! := ⟨fun x => dk[x]!, fun _ => rfl⟩
        have cells : ∀ x, x < d.size → wr.cell? ⟨blk, off + x, none⟩ = some (.int .u32 (G x)) := fun x hx => by
          rw [hw, cell?_grow _ _ _ (by rw [hz]; exact hblk), hG]; exact cell?_putRow _ _ _ _ d dk (holds_ahead _ _ _ _ _ _ HH.out) hs x (by omega)
        have thaw : ∀ x, x < d.size → wr.frozen? ⟨blk, off + x, none⟩ = false := fun x hx => by
          rw [hw, frozen?_grow _ _ _ (by rw [hz]; exact hblk), frozen?_putRow]; exact ((holds_ahead _ _ n _ _ _ HH.out) x hx).2
        have NX : Hid (Calls Tryz.prog 157 #[.pointer (some ⟨w.heap.size, 0, none⟩)] wr fun e w' => e = .returned (.int .u64 (R' : Int)) ∧ w' = (wr.setCell ⟨w.heap.size, 0, none⟩ (.int .u64 (R' : Int))).drewN 3) := by
          rw [hR']
          exact next32 _ _ _ lR wr (by rw [hw, ← hz]; exact grow_one_cell _ _ _) (by rw [hw, ← hz]; exact grow_one_frozen _ _ _)
        have HG : Hid (∀ x, G x = dk[x]!) := hG
        clear hw hG hR' hO hz lR
        -- the random place, within the row
        obtain ⟨o, ho, ho2⟩ : ∃ o : Nat, o < L ∧ o = if O ≥ L then O - L else O := ⟨_, by split <;> omega, rfl⟩
        have BP : Hid (bpRest a L M i0 (3 - (t + 1)) (t + 1) (xorNext r, swp dk (i0 + t) (a + o)) = bpRest a L M i0 3 0 (UInt64.ofNat L, d)) := by
          show _ = _
          rw [← HR.out, bp_step a L M i0 t r dk o ht3 (by rw [← EN.out.2]; exact ho2.symm)]
        have RW : ∀ (u : Value) (q : Nat), u = .int .u64 (R' : Int) → (((wr.setCell ⟨w.heap.size, 0, none⟩ u).drewN q).setCell ⟨blk, off + (i0 + t), none⟩ (.int .u32 (G (a + o)))).setCell ⟨blk, off + (a + o), none⟩ (.int .u32 (G (i0 + t))) =
            grow (putRow e32 (Sort.ahead w (n + q)) blk off (swp dk (i0 + t) (a + o))) #[Obj.cells #[.int .u64 ((xorNext r).toNat : Int)] 217] := by
          intro u q hu
          rw [HW.out, hu, EN.out.1, HG.out, HG.out]
          exact step_world e32 w n q blk off dk (i0 + t) (a + o) hblk (by omega) (by omega) _ _ _
        have RW : Hid _ := RW
        clear HW HR
        go_wp2_with (first | (go_at_call 157; refine Calls.mono NX.out ?_; rintro e w' ⟨rfl, rfl⟩))
        · obtain ⟨rfl⟩ : o = O - L := by rw [ho2, if_pos (show O ≥ L by omega)]
          clear ho2
          by_cases hEq : i0 + t = a + (O - L)
          all_goals
            go_region
            all_goals go_wp2
            go_roundw
            case rel => exact ⟨t + 1, n + 4, xorNext r, swp dk (i0 + t) (a + (O - L)), by first | rfl | (congr 1; omega), by omega, by rw [size_swp]; exact hs, by first | rfl | ((try rw [hEq] at RW ⊢); first | rfl | exact RW.out _ 4 rfl), BP.out⟩
            case measure => simp [intOf]; omega
        · have ho3 : o = O := by rw [ho2, if_neg (show ¬ O ≥ L by omega)]
          rw [ho3] at RW BP ho
          clear ho2 ho3
          by_cases hEq : i0 + t = a + O
          all_goals
            go_region
            all_goals go_wp2
            go_roundw
            case rel => exact ⟨t + 1, n + 4, xorNext r, swp dk (i0 + t) (a + O), by first | rfl | (congr 1; omega), by omega, by rw [size_swp]; exact hs, by first | rfl | ((try rw [hEq] at RW ⊢); first | rfl | exact RW.out _ 4 rfl), BP.out⟩
            case measure => simp [intOf]; omega
  · have hv : breakPatterns d a (a + L) = d := by unfold breakPatterns; simp only [Nat.add_sub_cancel_left]; rw [if_neg h8]
    rw [hv]
    have H0 : Hid (w = grow (putRow e32 (Sort.ahead w 0) blk off d) #[]) := by
      show _ = _
      rw [grow_empty, show Sort.ahead w 0 = w from rfl, putRow_self _ _ _ _ _ hH]
    clear hH
    go_enter Tryz.func127, Tryz.ntmps127
    go_wp2
    go_end0
    exact ⟨rfl, 0, #[], H0.out⟩
end Go.Proofs.YtiellonfgcmaaaaGreat

/- slices.Sort at uint32: pdqsort. -/
namespace Go.Proofs.YtiellonfgcmaaaaGreat
open Go.RowKit Go.Sort

theorem at_insertion {w wr : World} {blk off : Nat} {d x : Array Int} (cap a b : Nat) (hH : Holds e32 w blk off d) (hblk : blk < w.heap.size) (hsz : d.size < 4611686018427387904) (hx : x.size = d.size) (hA : At e32 w blk off x wr)  (hab : a ≤ b) (hb : b ≤ d.size) :
    Calls Tryz.prog 125 #[.slice (some ⟨blk, off, none⟩) d.size cap, .int .i64 a, .int .i64 b] wr fun e w' => e = .returned (.tuple #[]) ∧ At e32 w blk off (Sort.insertionSort ltInt x a b) w' := by
  obtain ⟨h1, h2⟩ := hA.holds hH hx hblk
  have h := insertion32 blk off cap a b x wr h1 hab (by omega) (by omega)
  rw [hx] at h
  refine h.mono ?_
  rintro e w' ⟨he, hw⟩
  exact ⟨he, hA.step hblk (insertionSort_holds swo_ltInt x a b hab (by omega)).1.1 hw⟩

theorem at_heap {w wr : World} {blk off : Nat} {d x : Array Int} (cap a b : Nat) (hH : Holds e32 w blk off d) (hblk : blk < w.heap.size) (hsz : d.size < 4611686018427387904) (hx : x.size = d.size) (hA : At e32 w blk off x wr)  (hab : a ≤ b) (hb : b ≤ d.size) :
    Calls Tryz.prog 126 #[.slice (some ⟨blk, off, none⟩) d.size cap, .int .i64 a, .int .i64 b] wr fun e w' => e = .returned (.tuple #[]) ∧ At e32 w blk off (heapSort ltInt x a b) w' := by
  obtain ⟨h1, h2⟩ := hA.holds hH hx hblk
  have h := heap32 blk off cap x a b wr h1 hab (by omega) (by omega)
  rw [hx] at h
  refine h.mono ?_
  rintro e w' ⟨he, hw⟩
  exact ⟨he, hA.step hblk (heapSort_holds swo_ltInt x a b hab (by omega)).1.1 hw⟩

theorem at_reverse {w wr : World} {blk off : Nat} {d x : Array Int} (cap a b : Nat) (hH : Holds e32 w blk off d) (hblk : blk < w.heap.size) (hsz : d.size < 4611686018427387904) (hx : x.size = d.size) (hA : At e32 w blk off x wr)  (hab : a ≤ b) (hb : b ≤ d.size) :
    Calls Tryz.prog 129 #[.slice (some ⟨blk, off, none⟩) d.size cap, .int .i64 a, .int .i64 b] wr fun e w' => e = .returned (.tuple #[]) ∧ At e32 w blk off (reverseRange x a b) w' := by
  obtain ⟨h1, h2⟩ := hA.holds hH hx hblk
  have h := reverse32 blk off cap x a b wr h1 hab (by omega) (by omega)
  rw [hx] at h
  refine h.mono ?_
  rintro e w' ⟨he, hw⟩
  exact ⟨he, hA.step hblk (reverseRange_holds x a b hab (by omega)).1 hw⟩

theorem at_break {w wr : World} {blk off : Nat} {d x : Array Int} (cap a b : Nat) (hH : Holds e32 w blk off d) (hblk : blk < w.heap.size) (hsz : d.size < 4611686018427387904) (hx : x.size = d.size) (hA : At e32 w blk off x wr)  (hab : a ≤ b) (hb : b ≤ d.size) :
    Calls Tryz.prog 127 #[.slice (some ⟨blk, off, none⟩) d.size cap, .int .i64 a, .int .i64 b] wr fun e w' => e = .returned (.tuple #[]) ∧ At e32 w blk off (breakPatterns x a b) w' := by
  obtain ⟨h1, h2⟩ := hA.holds hH hx hblk
  have h := break32 blk off cap a b x wr h1 h2 hab (by omega) (by omega)
  rw [hx] at h
  refine h.mono ?_
  rintro e w' ⟨he, hw⟩
  exact ⟨he, hA.stepG hblk (step_break x hab (by omega) True).1 hw⟩

theorem at_pivot {w wr : World} {blk off : Nat} {d x : Array Int} (cap a b : Nat) (hH : Holds e32 w blk off d) (hblk : blk < w.heap.size) (hsz : d.size < 4611686018427387904) (hx : x.size = d.size) (hA : At e32 w blk off x wr)  (hab : a < b) (hb : b ≤ d.size) :
    Calls Tryz.prog 128 #[.slice (some ⟨blk, off, none⟩) d.size cap, .int .i64 a, .int .i64 b] wr fun e w' => e = .returned (.tuple #[.int .i64 (choosePivot ltInt x a b).1, .int .i64 (hintCode (choosePivot ltInt x a b).2)]) ∧ At e32 w blk off (x) w' := by
  obtain ⟨h1, h2⟩ := hA.holds hH hx hblk
  have h := pivot32 blk off cap a b x wr h1 h2 hab (by omega) (by omega)
  rw [hx] at h
  refine h.mono ?_
  rintro e w' ⟨he, hw⟩
  exact ⟨he, hA.same hH hx hblk hw⟩

theorem at_partial {w wr : World} {blk off : Nat} {d x : Array Int} (cap a b : Nat) (hH : Holds e32 w blk off d) (hblk : blk < w.heap.size) (hsz : d.size < 4611686018427387904) (hx : x.size = d.size) (hA : At e32 w blk off x wr)  (hab : a < b) (hB : Sort.Below ltInt a b x) (hb : b ≤ d.size) :
    Calls Tryz.prog 130 #[.slice (some ⟨blk, off, none⟩) d.size cap, .int .i64 a, .int .i64 b] wr fun e w' => e = .returned (.bool (Sort.partialInsertionSort ltInt x a b).2) ∧ At e32 w blk off ((Sort.partialInsertionSort ltInt x a b).1) w' := by
  obtain ⟨h1, h2⟩ := hA.holds hH hx hblk
  have h := partial32 blk off cap a b x wr h1 hab (by omega) (by omega)
  rw [hx] at h
  refine h.mono ?_
  rintro e w' ⟨he, hw⟩
  exact ⟨he, hA.step hblk (partialInsertionSort_holds swo_ltInt x a b hab (by omega) hB).1.1 hw⟩

theorem at_partEq {w wr : World} {blk off : Nat} {d x : Array Int} (cap a b : Nat) (hH : Holds e32 w blk off d) (hblk : blk < w.heap.size) (hsz : d.size < 4611686018427387904) (hx : x.size = d.size) (hA : At e32 w blk off x wr) (p : Nat) (hap : a ≤ p) (hpb : p < b) (hb : b ≤ d.size) (hs : (Sort.partitionEqual ltInt x a b p).2.size = x.size) :
    Calls Tryz.prog 132 #[.slice (some ⟨blk, off, none⟩) d.size cap, .int .i64 a, .int .i64 b, .int .i64 p] wr fun e w' => e = .returned (.int .i64 (Sort.partitionEqual ltInt x a b p).1) ∧ At e32 w blk off ((Sort.partitionEqual ltInt x a b p).2) w' := by
  obtain ⟨h1, h2⟩ := hA.holds hH hx hblk
  have h := partEq32 blk off cap a b p x wr h1 hap hpb (by omega) (by omega)
  rw [hx] at h
  refine h.mono ?_
  rintro e w' ⟨he, hw⟩
  exact ⟨he, hA.step hblk hs hw⟩

theorem at_part {w wr : World} {blk off : Nat} {d x : Array Int} (cap a b : Nat) (hH : Holds e32 w blk off d) (hblk : blk < w.heap.size) (hsz : d.size < 4611686018427387904) (hx : x.size = d.size) (hA : At e32 w blk off x wr) (p : Nat) (hap : a ≤ p) (hpb : p < b) (hb : b ≤ d.size) (hs : (Sort.partition ltInt x a b p).2.2.size = x.size) :
    Calls Tryz.prog 133 #[.slice (some ⟨blk, off, none⟩) d.size cap, .int .i64 a, .int .i64 b, .int .i64 p] wr fun e w' => e = .returned (.tuple #[.int .i64 (Sort.partition ltInt x a b p).1, .bool (Sort.partition ltInt x a b p).2.1]) ∧ At e32 w blk off ((Sort.partition ltInt x a b p).2.2) w' := by
  obtain ⟨h1, h2⟩ := hA.holds hH hx hblk
  have h := part32 blk off cap a b p x wr h1 hap hpb (by omega) (by omega)
  rw [hx] at h
  refine h.mono ?_
  rintro e w' ⟨he, hw⟩
  exact ⟨he, hA.step hblk hs hw⟩

set_option maxHeartbeats 16000000 in
set_option maxRecDepth 1000000 in
theorem pdq32 : ∀ (N blk off cap a b limit : Nat) (d : Array Int) (w : World), b - a < N → Holds e32 w blk off d → blk < w.heap.size → a ≤ b → b ≤ d.size → d.size < 4611686018427387904 → limit < 4611686018427387904 → Sort.Below ltInt a b d →
    Calls Tryz.prog 81 #[.slice (some ⟨blk, off, none⟩) d.size cap, .int .i64 a, .int .i64 b, .int .i64 limit] w fun e w' => e = .returned (.tuple #[]) ∧ At e32 w blk off (pdq ltInt d a b limit true true) w' := by
  intro N
  induction N with
  | zero => intro _ _ _ _ _ _ _ _ h; exact absurd h (Nat.not_lt_zero _)
  | succ N ih =>
    intro blk off cap a b limit d w hN hH hblk hab hb hsz hlimit hB0
    have IH : Hid (∀ (p q l : Nat) (x : Array Int) (wr : World), q - p < N → x.size = d.size → At e32 w blk off x wr → p ≤ q → q ≤ d.size → l < 4611686018427387904 → Sort.Below ltInt p q x →
        Calls Tryz.prog 81 #[.slice (some ⟨blk, off, none⟩) d.size cap, .int .i64 p, .int .i64 q, .int .i64 l] wr fun e w' => e = .returned (.tuple #[]) ∧ At e32 w blk off (pdq ltInt x p q l true true) w') := by
      intro p q l x wr h1 hx hA h2 h3 h4 h5
      obtain ⟨k1, k2⟩ := hA.holds hH hx hblk
      have h := ih blk off cap p q l x wr h1 k1 k2 h2 (by omega) (by omega) h4 h5
      rw [hx] at h
      refine h.mono ?_
      rintro e w' ⟨he, m, os, hw⟩
      exact ⟨he, hA.stepG hblk (pdq_sorts ltInt swo_ltInt x p q l true true h2 (by omega) h5).1.1 ⟨m, os, hw⟩⟩
    have HH : Hid (Holds e32 w blk off d) := hH
    clear ih hH
    go_enter Tryz.func81, Tryz.ntmps81
    go_wp2
    go_loopg [1, 2, 3, 8, 9] (b - a) (fun k s1 s2 s3 s8 s9 wr => ∃ (p q l : Nat) (wb wp : Bool) (x : Array Int), s1 = .int .i64 p ∧ s2 = .int .i64 q ∧ s3 = .int .i64 l ∧ s8 = .bool wb ∧ s9 = .bool wp ∧
      p ≤ q ∧ q ≤ d.size ∧ q - p ≤ k ∧ k ≤ b - a ∧ l ≤ limit ∧ x.size = d.size ∧ Sort.Below ltInt p q x ∧ At e32 w blk off x wr ∧ pdq ltInt x p q l wb wp = pdq ltInt d a b limit true true)
    case atStart => exact ⟨a, b, limit, true, true, d, rfl, rfl, rfl, rfl, rfl, hab, hb, Nat.le_refl _, Nat.le_refl _, Nat.le_refl _, rfl, hB0, At.refl HH.out, rfl⟩
    case round =>
      obtain ⟨p, q, l, wb, wp, x, rfl, rfl, rfl, rfl, rfl, hpq, hq, hk, hkN, hl, hx, hBx, hAt, heq⟩ := hrel
      have EQ : Hid (pdq ltInt x p q l wb wp = pdq ltInt d a b limit true true) := heq
      clear heq
      by_cases h12 : q - p ≤ 12
      · have h12z : (q : Int) - (p : Int) ≤ 12 := by omega
        go_wp2_with (go_at_call 125; refine Calls.mono (at_insertion cap p q HH.out hblk hsz hx hAt hpq hq) ?_; rintro e w1 ⟨rfl, hw1⟩)
        (try simp only [Exit.inBlock, Exit.then]); refine bodyPost_ret (results_none rfl _ _ _) rfl ?_
        exact ⟨rfl, by rw [← EQ.out, pdq_small h12]; exact hw1⟩
      · have h12z : ¬ ((q : Int) - (p : Int) ≤ 12) := by omega
        by_cases hl0 : l = 0
        · subst hl0
          go_wp2_with (go_at_call 126; refine Calls.mono (at_heap cap p q HH.out hblk hsz hx hAt hpq hq) ?_; rintro e w1 ⟨rfl, hw1⟩)
          (try simp only [Exit.inBlock, Exit.then]); refine bodyPost_ret (results_none rfl _ _ _) rfl ?_
          exact ⟨rfl, by rw [← EQ.out, pdq_heap h12 rfl]; exact hw1⟩
        · have hl0z : ¬ ((l : Int) = 0) := by omega
          have hpq' : p < q := by omega
          -- what the round reckons, under one name
          have F := rd_facts (limit := l) (wb := wb) (wp := wp) swo_ltInt partialInsertionSort_holds reverseRange_holds hpq' (show q ≤ x.size by omega) hBx
          have E0 : wb = false → (rd ltInt x p q l wb wp).d1 = breakPatterns x p q ∧ (rd ltInt x p q l wb wp).lim = l - 1 := by rintro rfl; exact rd_false
          have E1 : wb = true → (rd ltInt x p q l wb wp).d1 = x ∧ (rd ltInt x p q l wb wp).lim = l := by rintro rfl; exact rd_true
          have EC := rd_c (lt := ltInt) (d := x) (a := p) (b := q) (limit := l) (wb := wb) (wp := wp)
          have ED := rd_dec (lt := ltInt) (d := x) (a := p) (b := q) (limit := l) (wb := wb) (wp := wp)
          have EN := rd_not (lt := ltInt) (d := x) (a := p) (b := q) (limit := l) (wb := wb) (wp := wp)
          have PY := rd_pi_yes (lt := ltInt) (d := x) (a := p) (b := q) (limit := l) (wb := wb) (wp := wp)
          have PN := rd_pi_no (lt := ltInt) (d := x) (a := p) (b := q) (limit := l) (wb := wb) (wp := wp)
          have LE := rd_lim_le (lt := ltInt) (d := x) (a := p) (b := q) (limit := l) (wb := wb) (wp := wp)
          have QD := pdq_done (lt := ltInt) (d := x) (wb := wb) (wp := wp) h12 hl0
          have QE := pdq_eq (lt := ltInt) (d := x) (wb := wb) (wp := wp) h12 hl0
          have QL := pdq_left (lt := ltInt) (d := x) (wb := wb) (wp := wp) h12 hl0
          have QR := pdq_right (lt := ltInt) (d := x) (wb := wb) (wp := wp) h12 hl0
          generalize rd ltInt x p q l wb wp = R at *
          rw [EQ.out] at QD QE QL QR
          obtain ⟨D1, lm, ⟨c1, ch⟩, D2, pv, hi, ⟨D3, ok⟩⟩ := R
          simp only [] at F E0 E1 EC ED EN PY PN LE QD QE QL QR
          obtain ⟨s1, B1, hc, s2, B2, hpv, s3, B3⟩ := F
          have QD : Hid _ := QD
          have QE : Hid _ := QE
          have QL : Hid _ := QL
          have QR : Hid _ := QR
          have EC : Hid ((c1, ch) = choosePivot ltInt D1 p q) := EC
          clear hBx
          go_upto_if 35 with fail
          go_cut [3] from 19 (fun s3 wc => s3 = .int .i64 lm ∧ At e32 w blk off D1 wc)
          case first =>
            cases wb
            · obtain ⟨rfl, rfl⟩ := E0 rfl
              go_wp2_with (go_at_call 127; refine Calls.mono (at_break cap p q HH.out hblk hsz hx hAt hpq hq) ?_; rintro e w1 ⟨rfl, hw1⟩)
              go_meet
              case rel => exact ⟨by show Value.int .i64 _ = Value.int .i64 _; congr 1; omega, hw1⟩
            · obtain ⟨rfl, rfl⟩ := E1 rfl
              go_wp2_with fail
              go_meet
              case rel => exact ⟨rfl, hAt⟩
          case rest =>
            obtain ⟨rfl, hAt1⟩ := hcut
            clear E0 E1
            have PV := at_pivot cap p q HH.out hblk hsz (s1.trans hx) hAt1 hpq' hq
            rw [← EC.out] at PV
            go_upto_if 50 with (go_at_call 128; refine Calls.mono PV ?_; rintro e w2 ⟨rfl, hAt2⟩)
            go_cut [11, 12] from 19 (fun s11 s12 wc => s11 = .int .i64 pv ∧ s12 = .int .i64 (hintCode hi) ∧ At e32 w blk off D2 wc)
            case first =>
              by_cases hh : ch = .decreasing
              · have hcode : hintCode ch = 2 := by rw [hh]; rfl
                obtain ⟨rfl, rfl, rfl⟩ := ED hh
                go_wp2_with (go_at_call 129; refine Calls.mono (at_reverse cap p q HH.out hblk hsz (s1.trans hx) hAt2 hpq hq) ?_; rintro e w3 ⟨rfl, hw3⟩)
                go_meet
                case rel => exact ⟨by congr 1; omega, rfl, hw3⟩
              · have hcode : ¬ (hintCode ch = 2) := fun h => hh (hintCode_two h)
                obtain ⟨rfl, rfl, rfl⟩ := EN hh
                go_wp2_with fail
                go_meet
                case rel => exact ⟨rfl, rfl, hAt2⟩
            case rest =>
              obtain ⟨rfl, rfl, hAt3⟩ := hcut
              clear ED EN PV
              go_upto_region 15 with fail
              go_cut [12, 68] from 19 (fun s12 s68 wx => s12 = .int .i64 (hintCode hi) ∧ s68 = .bool (wb && wp && decide (hi = .increasing)) ∧ wx = wc)
              case first =>
                clear PY PN
                cases wb <;> cases wp <;> cases hi <;>
                  (simp only [hintCode]
                   go_wp2_with fail
                   go_meet
                   exact ⟨by simp [hintCode], by simp, rfl⟩)
              case rest =>
                obtain ⟨rfl, rfl, rfl⟩ := hcut
                go_upto_if 68 with fail
                go_cut [] from 19 (fun wx => ok = false ∧ At e32 w blk off D3 wx)
                case first =>
                  cases h68 : (wb && wp && decide (hi = .increasing))
                  · have e := PN h68
                    obtain ⟨rfl, rfl⟩ := Prod.mk.inj e
                    go_wp2_with fail
                    go_meet
                    case rel => exact ⟨by first | rfl | trivial, hAt3⟩
                  · have e := PY h68
                    have PA := at_partial cap p q HH.out hblk hsz (s2.trans hx) hAt3 hpq' B2 hq
                    rw [← e] at PA
                    cases ok
                    · go_wp2_with (go_at_call 130; refine Calls.mono PA ?_; rintro e w4 ⟨rfl, hw4⟩)
                      go_meet
                      exact ⟨by first | rfl | trivial, hw4⟩
                    · go_wp2_with (go_at_call 130; refine Calls.mono PA ?_; rintro e w4 ⟨rfl, hw4⟩)
                      (try simp only [Exit.inBlock, Exit.then]); refine bodyPost_ret (results_none rfl _ _ _) rfl ?_
                      exact ⟨rfl, by rw [QD.out (by first | rfl | trivial)]; exact hw4⟩
                case rest =>
                  obtain ⟨rfl, hAt5⟩ := hcut
                  clear PY PN
                  obtain ⟨hH5, hblk5⟩ := hAt5.holds HH.out (s3.trans hx) hblk
                  obtain ⟨G, hG⟩ : ∃ G : Nat → Int, ∀ t, G t = D3[t]! := ⟨fun t => D3[t]!, fun _ => rfl⟩
                  have cells : ∀ t, t < d.size → wc.cell? ⟨blk, off + t, none⟩ = some (.int .u32 (G t)) := fun t ht => by rw [hG]; exact (hH5 t (by omega)).1
                  have HG : Hid (∀ t, G t = D3[t]!) := hG
                  clear hG hH5
                  go_upto_region 17 with fail
                  go_cut [87] from 19 (fun s87 wx => s87 = .bool (decide (p > 0) && !ltInt (G (p - 1)) (G pv)) ∧ At e32 w blk off D3 wx)
                  case first =>
                    rcases Nat.eq_zero_or_pos p with hp0 | hp0
                    · have hz : decide ((p : Int) > 0) = false := decide_eq_false (by omega)
                      have K : Hid (p = 0) := hp0
                      have hz1 : decide (0 < p) = false := decide_eq_false (by omega)
                      have hz2 : ¬ 0 < p := by omega
                      have hz3 : ¬ (0 : Int) < (p : Int) := by omega
                      clear hp0
                      go_big_quiet (first | (go_at_call 131; refine Calls.quiet_of_same (less32 _ _ _)))
                      go_wp2_with fail
                      go_meet
                      case rel => exact ⟨by simp [K.out], hAt5.ahead nq⟩
                    · have hz : (p : Int) > 0 := by omega
                      have hpv1 := hpv.1
                      have hpv2 := hpv.2
                      have hp1 : 1 ≤ p := hp0
                      go_big_quiet (first | (go_at_call 131; refine Calls.quiet_of_same (less32 _ _ _)))
                      go_wp2_with fail
                      go_meet
                      case rel => exact ⟨by simp [hp0], hAt5.ahead nq⟩
                  case rest =>
                    obtain ⟨rfl, hAt6⟩ := hcut
                    clear cells hAt5 hblk5
                    have T : (decide (p > 0) && !ltInt (G (p - 1)) (G pv)) = (decide (p > 0) && !ltInt D3[p - 1]! D3[pv]!) := by rw [HG.out, HG.out]
                    rw [T]
                    cases h87 : (decide (p > 0) && !ltInt D3[p - 1]! D3[pv]!)
                    · obtain ⟨mid, ap, D4, hpt⟩ : ∃ mid ap D4, Sort.partition ltInt D3 p q pv = (mid, ap, D4) := ⟨(Sort.partition ltInt D3 p q pv).1, (Sort.partition ltInt D3 p q pv).2.1, (Sort.partition ltInt D3 p q pv).2.2, rfl⟩
                      obtain ⟨r1, r2, r3, r4, r5, r6, r7⟩ := round_part swo_ltInt (partition_holds _) hpv.1 hpv.2 (show q ≤ D3.size by omega) B3 hpt
                      have PT := at_part cap p q HH.out hblk hsz (s3.trans hx) hAt6 pv hpv.1 hpv.2 hq (by rw [hpt]; exact r3)
                      rw [hpt] at PT
                      have L1 := fun h4 => QL.out rfl h87 (by rw [hpt]; exact ⟨r1, r2⟩) (by rw [hpt]; exact h4)
                      have L2 := fun h4 => QR.out rfl h87 (by rw [hpt]; exact ⟨r1, r2⟩) (by rw [hpt]; exact h4)
                      simp only [hpt] at L1 L2
                      have L1 : Hid _ := L1
                      have L2 : Hid _ := L2
                      clear hpt QD QE QL QR T h87 HG EC
                      go_upto_if 113 with (go_at_call 133; refine Calls.mono PT ?_; rintro e w7 ⟨rfl, hAt7⟩)
                      have hD4 : D4.size = d.size := r3.trans (s3.trans hx)
                      by_cases h4 : mid - p < q - mid
                      · have h4z : (mid : Int) - (p : Int) < (q : Int) - (mid : Int) := by omega
                        obtain ⟨pL, sL⟩ := pdq_sorts ltInt swo_ltInt D4 p mid lm true true r1 (by omega) r4
                        go_wp2_with (go_at_call 81; refine Calls.mono (IH.out p mid lm D4 w7 (by omega) hD4 hAt7 r1 (by omega) (by omega) r4) ?_; rintro e w8 ⟨rfl, hw8⟩)
                        go_roundg (q - (mid + 1))
                        case measure => omega
                        case rel =>
                          refine ⟨mid + 1, q, lm, decide (mid - p ≥ (q - p) / 8), ap, pdq ltInt D4 p mid lm true true, by simp, rfl, rfl, ?_, rfl, by omega, by omega, Nat.le_refl _, by omega, by omega, pL.1.trans hD4, (r6 _ pL sL).1, hw8, (L1.out h4).symm⟩
                          exact congrArg Value.bool (eighth (by omega) (by omega))
                      · have h4z : ¬ ((mid : Int) - (p : Int) < (q : Int) - (mid : Int)) := by omega
                        obtain ⟨pL, sL⟩ := pdq_sorts ltInt swo_ltInt D4 (mid + 1) q lm true true (by omega) (by omega) r5
                        have C81 := IH.out (mid + 1) q lm D4 w7 (by omega) hD4 hAt7 (by omega) (by omega) (by omega) r5
                        go_wp2_with (go_at_call 81; refine Calls.mono C81 ?_; rintro e w8 ⟨rfl, hw8⟩)
                        go_roundg (mid - p)
                        case measure => omega
                        case rel =>
                          refine ⟨p, mid, lm, decide (q - mid ≥ (q - p) / 8), ap, pdq ltInt D4 (mid + 1) q lm true true, rfl, rfl, rfl, ?_, rfl, by omega, by omega, Nat.le_refl _, by omega, by omega, pL.1.trans hD4, (r7 _ pL sL).1, hw8, (L2.out h4).symm⟩
                          exact congrArg Value.bool (eighth (by omega) (by omega))
                    · have hb2 := h87
                      simp only [Bool.and_eq_true, decide_eq_true_eq, Bool.not_eq_true'] at hb2
                      obtain ⟨mid, D4, hpe⟩ : ∃ mid D4, Sort.partitionEqual ltInt D3 p q pv = (mid, D4) := ⟨(Sort.partitionEqual ltInt D3 p q pv).1, (Sort.partitionEqual ltInt D3 p q pv).2, rfl⟩
                      obtain ⟨r1, r2, r3, r4, _⟩ := round_eq swo_ltInt (partitionEqual_holds _) hb2.1 hpv.1 hpv.2 (show q ≤ D3.size by omega) B3 hb2.2 hpe
                      have PE := at_partEq cap p q HH.out hblk hsz (s3.trans hx) hAt6 pv hpv.1 hpv.2 hq (by rw [hpe]; exact r3)
                      rw [hpe] at PE
                      have L1 := QE.out rfl h87 (by rw [hpe]; exact ⟨r1, r2⟩)
                      simp only [hpe] at L1
                      have L1 : Hid _ := L1
                      clear hpe QD QE QL QR T h87 HG EC hb2
                      go_wp2_with (go_at_call 132; refine Calls.mono PE ?_; rintro e w7 ⟨rfl, hAt7⟩)
                      go_roundg (q - mid)
                      case measure => omega
                      case rel => exact ⟨mid, q, lm, wb, wp, D4, rfl, rfl, rfl, rfl, rfl, r2, hq, Nat.le_refl _, by omega, by omega, r3.trans (s3.trans hx), r4, hAt7, L1.out.symm⟩
end Go.Proofs.YtiellonfgcmaaaaGreat

/- slices.Sort at uint32: the whole. -/
namespace Go.Proofs.YtiellonfgcmaaaaGreat
open Go.RowKit Go.Sort
set_option maxRecDepth 100000 in
theorem sort32 (blk off cap : Nat) (d : Array Int) (w : World) (hH : Holds e32 w blk off d) (hblk : blk < w.heap.size) (hsz : d.size < 4611686018427387904) :
    Calls Tryz.prog 50 #[.slice (some ⟨blk, off, none⟩) d.size cap] w fun e w' => e = .returned (.tuple #[]) ∧ At e32 w blk off (Sort.sort ltInt d) w' := by
  have HH : Hid (Holds e32 w blk off d) := hH
  clear hH
  have L : ∀ w, Calls Tryz.prog 78 #[.int .u64 (d.size : Int)] w fun e w' => e = .returned (.int .i64 (bitsLen d.size : Nat)) ∧ w' = w := fun w => by
    have h := Tryz.bits_Len (d.size : Int) w (by omega) (by omega)
    rwa [Int.toNat_natCast, bitLen_eq _ (by omega)] at h
  have hk : bitsLen d.size ≤ 62 := (bitsLen_le_iff d.size 62).2 (by omega)
  have P := pdq32 (d.size + 1) blk off cap 0 d.size (bitsLen d.size) d w (by omega) HH.out hblk (Nat.zero_le _) (Nat.le_refl _) hsz (by omega) (Or.inl rfl)
  have P : Hid _ := P
  go_enter Tryz.func50, Tryz.ntmps50
  go_wp2_with (first
    | (go_at_call 78; refine (L _).mono ?_; rintro e w' ⟨rfl, rfl⟩)
    | (go_at_call 81; refine Calls.mono P.out ?_; rintro e w' ⟨rfl, hw⟩))
  go_end0
  exact ⟨rfl, hw⟩
/-- slices.Sort at a slice of uint32: the ascending list. -/
theorem sort32_list (blk off cap : Nat) (zs : List Int) (w : World) (hH : Holds e32 w blk off zs.toArray) (hblk : blk < w.heap.size) (hsz : zs.length < 4611686018427387904) :
    Calls Tryz.prog 50 #[.slice (some ⟨blk, off, none⟩) zs.length cap] w fun e w' => e = .returned (.tuple #[]) ∧ At e32 w blk off (zs.mergeSort fun x y => decide (x ≤ y)).toArray w' := by
  have h := sort32 blk off cap zs.toArray w hH hblk (by simpa using hsz)
  rw [show Sort.sort ltInt zs.toArray = (zs.mergeSort fun x y => decide (x ≤ y)).toArray by rw [← sortInt zs]] at h
  simpa using h
set_option maxRecDepth 100000 in
/-- slices.Sort at no element. -/
theorem sort32_none (o : Option Addr) (cap : Nat) (w : World) :
    Calls Tryz.prog 50 #[.slice o 0 cap] w fun e w' => e = .returned (.tuple #[]) ∧ w' = w := by
  have L : ∀ w, Calls Tryz.prog 78 #[.int .u64 0] w fun e w' => e = .returned (.int .i64 0) ∧ w' = w := fun w => by
    have h := Tryz.bits_Len 0 w (by omega) (by omega)
    have e : ((Lib.bitLen (0 : Int).toNat : Nat) : Int) = 0 := by decide
    rwa [e] at h
  have I : ∀ w, Calls Tryz.prog 125 #[.slice o 0 cap, .int .i64 0, .int .i64 0] w fun e w' => e = .returned (.tuple #[]) ∧ w' = w := fun w => by
    go_enter Tryz.func125, Tryz.ntmps125
    go_wp2
    go_loopw [6] (fun v wr => v = .int .i64 1 ∧ wr = w) (fun _ _ => 0)
    case atStart => exact ⟨rfl, rfl⟩
    case round =>
      obtain ⟨rfl, rfl⟩ := hrel
      go_wp2
      go_end0
      exact ⟨rfl, rfl⟩
  have P : ∀ w, Calls Tryz.prog 81 #[.slice o 0 cap, .int .i64 0, .int .i64 0, .int .i64 0] w fun e w' => e = .returned (.tuple #[]) ∧ w' = w := fun w => by
    go_enter Tryz.func81, Tryz.ntmps81
    go_wp2
    go_loopg [1, 2, 3, 8, 9] 0 (fun k s1 s2 s3 s8 s9 wr => s1 = .int .i64 0 ∧ s2 = .int .i64 0 ∧ s3 = .int .i64 0 ∧ s8 = .bool true ∧ s9 = .bool true ∧ wr = w)
    case atStart => exact ⟨rfl, rfl, rfl, rfl, rfl, rfl⟩
    case round =>
      obtain ⟨rfl, rfl, rfl, rfl, rfl, rfl⟩ := hrel
      go_wp2_with (go_at_call 125; refine (I _).mono ?_; rintro e w1 ⟨rfl, rfl⟩)
      (try simp only [Exit.inBlock, Exit.then]); refine bodyPost_ret (results_none rfl _ _ _) rfl ?_
      exact ⟨rfl, rfl⟩
  go_enter Tryz.func50, Tryz.ntmps50
  go_wp2_with (first
    | (go_at_call 78; refine (L _).mono ?_; rintro e w' ⟨rfl, rfl⟩)
    | (go_at_call 81; refine (P _).mono ?_; rintro e w' ⟨rfl, rfl⟩))
  go_end0
  exact ⟨rfl, rfl⟩
end Go.Proofs.YtiellonfgcmaaaaGreat

/- slices.Compact at uint32; slices.SortFunc at candidates. -/
namespace Go.Proofs.YtiellonfgcmaaaaGreat
open Go.RowKit Go.Sort Go.Lib Go.Shelf

theorem compact32 (blk off cap : Nat) (zs : List Int) (w : World) (hH : Holds e32 w blk off zs.toArray) (hcap : zs.length ≤ cap) (hsz : zs.length < 4611686018427387904) :
    Calls Tryz.prog 51 #[.slice (some ⟨blk, off, none⟩) zs.length cap] w fun e w' =>
      e = .returned (.slice (some ⟨blk, off, none⟩) (Lib.compact zs).length cap) ∧ ∃ q, w' = putRow e32 (Sort.ahead w q) blk off (Lib.compact zs ++ List.replicate (zs.length - (Lib.compact zs).length) 0).toArray := by
  have h := AnyE.slices_Compact Tryz.laysCompact e32 (fun _ => rfl) (EqlAt.intD _ _ .u32) (NeqAt.intD _ _ .u32) 0 Tryz.zeroValue33 blk off cap zs.toArray w hH (by simp; omega) (by simpa using hcap)
  change Calls Tryz.prog 51 _ _ _ at h
  simpa [Lib.compact] using h

set_option maxRecDepth 100000 in
/-- slices.Compact at no element. -/
theorem compact32_none (o : Option Addr) (cap : Nat) (w : World) : Calls Tryz.prog 51 #[.slice o 0 cap] w fun e w' => e = .returned (.slice o 0 cap) ∧ w' = w := by
  go_enter Tryz.func51, Tryz.ntmps51
  go_wp2
  go_ret
  exact ⟨rfl, rfl⟩

def cmpI (x y : Int) : Int := if x < y then -1 else if y < x then 1 else 0
set_option maxHeartbeats 1000000 in
theorem compare32 (x y : Int) (w : World) : Calls Tryz.prog 47 #[.int .u32 x, .int .u32 y] w fun e w' => e = .returned (.int .i64 (cmpI x y)) ∧ w' = w := by
  have C1 : x < y → cmpI x y = -1 := fun h => by unfold cmpI; rw [if_pos h]
  have C2 : y < x → cmpI x y = 1 := fun h => by unfold cmpI; rw [if_neg (by omega), if_pos h]
  have C3 : ¬ x < y → ¬ y < x → cmpI x y = 0 := fun h h' => by unfold cmpI; rw [if_neg h, if_neg h']
  rcases (show x < y ∨ y < x ∨ (¬ x < y ∧ ¬ y < x) by omega) with h | h | ⟨h, h'⟩
  · rw [C1 h]
    go_enter Tryz.func47, Tryz.ntmps47
    go_wp2_with (go_at_call 79; refine (isNaN32 _ _).mono ?_; rintro e w' ⟨rfl, rfl⟩)
    go_ret
    exact ⟨rfl, rfl⟩
  · rw [C2 h]
    have h2 : ¬ x < y := by omega
    go_enter Tryz.func47, Tryz.ntmps47
    go_wp2_with (go_at_call 79; refine (isNaN32 _ _).mono ?_; rintro e w' ⟨rfl, rfl⟩)
    go_ret
    exact ⟨rfl, rfl⟩
  · rw [C3 h h']
    go_enter Tryz.func47, Tryz.ntmps47
    go_wp2_with (go_at_call 79; refine (isNaN32 _ _).mono ?_; rintro e w' ⟨rfl, rfl⟩)
    go_ret
    exact ⟨rfl, rfl⟩

/-- A candidate's two cells. -/
def encC (x : Int × Int) : List Value := [.int .u32 x.1, .int .i64 x.2]
set_option maxHeartbeats 1000000 in
theorem closure46 (x y : Int × Int) (W : World) : Calls Tryz.prog 46 #[.agg (encC x).toArray, .agg (encC y).toArray] W fun e w' => e = .returned (.int .i64 (cmpI x.1 y.1)) ∧ ∃ q os', w' = grow (W.drewN q) os' := by
  have hcon := fun W' => compare32 x.1 y.1 W'
  generalize cmpI x.1 y.1 = r at hcon ⊢
  show Calls Tryz.prog 46 #[.agg #[.int .u32 x.1, .int .i64 x.2], .agg #[.int .u32 y.1, .int .i64 y.2]] W _
  go_enter Tryz.func46, Tryz.ntmps46
  go_wp2_with (go_at_call 47; refine (hcon _).mono ?_; rintro e w' ⟨rfl, rfl⟩)
  go_ret
  exact ⟨rfl, 0, _, by rw [alloc_eq_grow, alloc_eq_grow, grow_grow]; rfl⟩

/-- The order of candidates: by their addresses. -/
theorem ltC (x y : Int × Int) : ltOf (fun x y : Int × Int => cmpI x.1 y.1) x y = decide (x.1 < y.1) := by
  show decide (cmpI x.1 y.1 < 0) = decide (x.1 < y.1)
  refine decide_eq_decide.2 ?_
  unfold cmpI
  split
  · omega
  · split <;> omega
theorem swoC : SWO (ltOf fun x y : Int × Int => cmpI x.1 y.1) where
  irrefl x := by rw [ltC]; simp
  trans x y z := by simp only [ltC, decide_eq_true_eq]; omega
  ntrans x y z := by simp only [ltC, decide_eq_false_iff_not]; omega

theorem sortCands (blk off cap : Nat) (d : Array (Int × Int)) (w : World) (hH : HoldsK encC 2 w blk off d) (hblk : blk < w.heap.size) (hsz : d.size < 4611686018427387904) :
    Calls Tryz.prog 45 #[.slice (some ⟨blk, off, none⟩) d.size cap, .func (.func 46) #[] #[]] w fun e w' => e = .returned (.tuple #[]) ∧ ∃ d' n os, PermIn 0 d.size d d' ∧ SortedIn (ltOf fun x y : Int × Int => cmpI x.1 y.1) 0 d.size d' ∧ w' = sortWorldK encC 2 w blk off n d' os := by
  have eg : ∀ args w, (callFunc 46 args).run Tryz.prog w = .ok (.enter 46 args) w := enters_of Tryz.func46 (by kernel_rfl) rfl
  exact AnyQ.slices_SortFunc Tryz.laysSortFunc 2 Tryz.isAgg35 Tryz.sizeOf35 encC (fun _ => rfl) (fun x v hv => by simp [encC] at hv; rcases hv with rfl | rfl <;> rfl) (fun x y => cmpI x.1 y.1) swoC 46 #[] blk off cap d w eg (fun _ _ _ _ x y => closure46 x y _) hH hblk hsz
end Go.Proofs.YtiellonfgcmaaaaGreat
