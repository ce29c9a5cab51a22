/- The walk of the law: 'RouteLongest' returns true at whatever table. -/
import Derived.Test.YthnnleinkflhjaaGreatWc
import Derived.Test.YthnnleinkflhjaaGreatAw
namespace Go.Proofs.YthnnleinkflhjaaGreat
open Go.RowKit Go.ChangeShapes

def zeroHop : Hp := ⟨0, 0, 0, 0, 0, 0, 0, 0⟩
def foundHop (h : Nat → Hp) : Option Nat → Hp
  | none => zeroHop
  | some j => h j

theorem long_any (ten ip : Int) (A : Option Addr) (n c : Nat) (w : World) (hn : 60 < n) :
    Calls Tryz.prog 3 #[.slice A n c, .int .i64 ten, .int .u32 ip] w fun e w' => e = .returned (.bool true) ∧ Below w.heap.size w w' := by
  go_enter Tryz.func3, Tryz.ntmps3
  go_wp2_with (go_at_call 4; refine (awake_any _).mono ?_; rintro e w' ⟨rfl, hb⟩)
  go_ret
  exact ⟨rfl, hb⟩

set_option maxRecDepth 100000 in
set_option maxHeartbeats 16000000 in
theorem law_some (b off n c : Nat) (ten ip : Int) (h : Nat → Hp) (j0 : Nat) (w : World) (hn : n ≤ 60) (hb : b < w.heap.size) (hc : ∀ i, i < n → HopAt w b (off + i * 8) (h i)) (ho : lk h ten ip n = some j0) :
    Calls Tryz.prog 3 #[.slice (some ⟨b, off, none⟩) n c, .int .i64 ten, .int .u32 ip] w fun e w' => e = .returned (.bool true) ∧ Below w.heap.size w w' := by
  have sp := Lib.hid (lk_some n j0 ho)
  have fh := Lib.hid (fun (k : Nat) => found_here (k := k) ho)
  have H5 : Hid (∀ W, Below w.heap.size w W → Calls Tryz.prog 5 #[.slice (some ⟨b, off, none⟩) n c, .int .i64 ten, .int .u32 ip] W fun e w' => e = .returned (.tuple #[.agg #[.int .i64 (h j0).T, .int .u32 (h j0).P, .int .i64 (h j0).L, .int .i64 (h j0).D, .int .u32 (h j0).X, .int .u32 (h j0).V, .int .u64 (h j0).M, .int .u64 (h j0).R], .bool true]) ∧ Below W.heap.size W w') := by
    intro W hw
    have := look_any b off n c ten ip h W hn (Nat.lt_of_lt_of_le hb hw.size) (fun i hi => (hc i hi).below hw hb)
    rw [ho] at this
    exact this
  have HC := Lib.hid hc
  clear hc ho
  go_enter Tryz.func3, Tryz.ntmps3
  go_wp2_with fail
  refine (awake_any _).mono ?_
  rintro e w1 ⟨rfl, b1⟩
  go_wp2_with fail
  refine (H5.out _ b1).mono ?_
  rintro e w2 ⟨rfl, b2⟩
  have b12 := b1.trans (b2.mono b1.size)
  have s12 := b12.size
  go_wp2_with fail
  go_loopw [9, 10] (fun f i wr => ∃ k : Nat, k ≤ n ∧ i = .int .i64 k ∧ f = .bool (fr h ten ip (h j0).L k) ∧ Below w.heap.size w wr ∧ w2.heap.size < wr.heap.size ∧ HopAt wr w2.heap.size 0 (h j0)) (fun _ i _ => n - (intOf i).toNat)
  case atStart => exact ⟨0, Nat.zero_le _, rfl, rfl, b12.alloc s12 _, by simp, by refine ⟨?_, ?_, ?_, ?_, ?_, ?_, ?_, ?_⟩ <;> go_simp⟩
  case round =>
    obtain ⟨k, hk, rfl, rfl, hbl, hsz, hF⟩ := hrel
    by_cases hlt : k < n
    · have hlt' : (k : Int) < n := by omega
      have h0' : (0 : Int) ≤ k := by omega
      obtain ⟨e0, e1, e2, e3, e4, e5, e6, e7⟩ := (HC.out k hlt).below hbl hb
      obtain ⟨f0, f1, f2, f3, f4, f5, f6, f7⟩ := hF
      simp only [Nat.zero_add] at f1 f2 f3 f4 f5 f6 f7
      have hA0 : HopAt (wr.alloc (.cells #[.int .i64 (h k).T, .int .u32 (h k).P, .int .i64 (h k).L, .int .i64 (h k).D, .int .u32 (h k).X, .int .u32 (h k).V, .int .u64 (h k).M, .int .u64 (h k).R] 31)) wr.heap.size 0 (h k) := by refine ⟨?_, ?_, ?_, ?_, ?_, ?_, ?_, ?_⟩ <;> go_simp
      have hA1 : HopAt (wr.alloc (.cells #[.int .i64 (h k).T, .int .u32 (h k).P, .int .i64 (h k).L, .int .i64 (h k).D, .int .u32 (h k).X, .int .u32 (h k).V, .int .u64 (h k).M, .int .u64 (h k).R] 31)) w2.heap.size 0 (h j0) := by refine ⟨?_, ?_, ?_, ?_, ?_, ?_, ?_, ?_⟩ <;> go_simp
      have hAb : Below w.heap.size w (wr.alloc (.cells #[.int .i64 (h k).T, .int .u32 (h k).P, .int .i64 (h k).L, .int .i64 (h k).D, .int .u32 (h k).X, .int .u32 (h k).V, .int .u64 (h k).M, .int .u64 (h k).R] 31)) := hbl.alloc hbl.size _
      have hAs : w2.heap.size < (wr.alloc (.cells #[.int .i64 (h k).T, .int .u32 (h k).P, .int .i64 (h k).L, .int .i64 (h k).D, .int .u32 (h k).X, .int .u32 (h k).V, .int .u64 (h k).M, .int .u64 (h k).R] 31)).heap.size := by simp; omega
      have hAr : wr.heap.size < (wr.alloc (.cells #[.int .i64 (h k).T, .int .u32 (h k).P, .int .i64 (h k).L, .int .i64 (h k).D, .int .u32 (h k).X, .int .u32 (h k).V, .int .u64 (h k).M, .int .u64 (h k).R] 31)).heap.size := by simp
      by_cases ht : ((h k).T == ten) = true
      · have htn : ((h k).T != ten) = false := by simp [bne, ht]
        by_cases hc : con (h k).P (h k).L ip = true
        · have hm : mt (h k) ten ip = true := by unfold mt; rw [ht, hc]; rfl
          have H6 : Hid (∀ W, Calls Tryz.prog 6 #[.agg #[.int .u32 (h k).P, .int .i64 (h k).L], .int .u32 ip] W fun e w' => e = .returned (.bool true) ∧ Below W.heap.size W w') := fun W => hc ▸ rcontains_any _ _ _ W
          have hle := sp.out.2.2.1 k hlt hm
          have hm' := Lib.hid hm
          clear ht hc hm
          go_wp2_with fail
          refine (H6.out _).mono ?_
          rintro e w3 ⟨rfl, b3⟩
          have g0 := hA0.below b3 hAr
          have g1 := hA1.below b3 hAs
          have g0' := g0
          have g1' := g1
          obtain ⟨c0, c1, c2, c3, c4, c5, c6, c7⟩ := g0'
          obtain ⟨d0, d1, d2, d3, d4, d5, d6, d7⟩ := g1'
          simp only [Nat.zero_add] at c1 c2 c3 c4 c5 c6 c7 d1 d2 d3 d4 d5 d6 d7
          have hb3 := hAb.trans (b3.mono hAb.size)
          have hs3 := Nat.lt_of_lt_of_le hAs b3.size
          have hfs : Hid (fr h ten ip (h j0).L (k + 1) = (fr h ten ip (h j0).L k && !((h k).L == (h j0).L))) := by simp [Hid, fr, hm'.out]
          have hfk := Lib.hid (fh.out k hlt hm'.out)
          by_cases hL : ((h k).L == (h j0).L) = true
          · rcases hq : fr h ten ip (h j0).L k with _ | _
            · rw [hq, hL] at hfs
              clear hq hfk
              go_wp2_with fail
              go_roundw
              case rel => exact ⟨k + 1, by omega, by go_num, by rw [hfs.out]; rfl, hb3, hs3, g1⟩
              case measure => simp [intOf]; omega
            · have hkj : k = j0 := hfk.out hq (by simpa using hL)
              subst hkj
              rw [hq, hL] at hfs
              clear hq hfk
              go_wp2_with fail
              go_roundw
              case rel => exact ⟨k + 1, by omega, by go_num, by rw [hfs.out]; rfl, hb3, hs3, g1⟩
              case measure => simp [intOf]; omega
          · have hL' : ((h k).L == (h j0).L) = false := by simpa using hL
            rw [hL', Bool.not_false, Bool.and_true] at hfs
            clear hL hfk
            rcases hq : fr h ten ip (h j0).L k with _ | _
            · rw [hq] at hfs
              clear hq
              go_wp2_with fail
              go_roundw
              case rel => exact ⟨k + 1, by omega, by go_num, by rw [hfs.out], hb3, hs3, g1⟩
              case measure => simp [intOf]; omega
            · rw [hq] at hfs
              clear hq
              go_wp2_with fail
              go_roundw
              case rel => exact ⟨k + 1, by omega, by go_num, by rw [hfs.out], hb3, hs3, g1⟩
              case measure => simp [intOf]; omega
        · have hc' : con (h k).P (h k).L ip = false := by simpa using hc
          have hfr : Hid (fr h ten ip (h j0).L (k + 1) = fr h ten ip (h j0).L k) := by simp [Hid, fr, mt, hc']
          have H6 : Hid (∀ W, Calls Tryz.prog 6 #[.agg #[.int .u32 (h k).P, .int .i64 (h k).L], .int .u32 ip] W fun e w' => e = .returned (.bool false) ∧ Below W.heap.size W w') := fun W => hc' ▸ rcontains_any _ _ _ W
          clear ht hc hc'
          go_wp2_with fail
          refine (H6.out _).mono ?_
          rintro e w3 ⟨rfl, b3⟩
          have hs3 := Nat.lt_of_lt_of_le hAs b3.size
          go_wp2_with fail
          go_roundw
          case rel => exact ⟨k + 1, by omega, by go_num, by rw [hfr.out], hAb.trans (b3.mono hAb.size), hs3, hA1.below b3 hAs⟩
          case measure => simp [intOf]; omega
      · have ht' : ((h k).T == ten) = false := by simpa using ht
        have htn : ((h k).T != ten) = true := by simp [bne, ht']
        have hfr : Hid (fr h ten ip (h j0).L (k + 1) = fr h ten ip (h j0).L k) := by simp [Hid, fr, mt, ht']
        clear ht
        go_wp2_with fail
        go_roundw
        case rel => exact ⟨k + 1, by omega, by go_num, by rw [hfr.out], hbl.alloc hbl.size _, by simp; omega, by refine ⟨?_, ?_, ?_, ?_, ?_, ?_, ?_, ?_⟩ <;> go_simp⟩
        case measure => simp [intOf]; omega
    · have hkn : k = n := by omega
      subst hkn
      have hge : ¬ (k : Int) < k := by omega
      have hm := sp.out.2.1
      have hfn : fr h ten ip (h j0).L k = false := fr_false j0 hm rfl k sp.out.1
      rw [hfn]
      have ht : ((h j0).T == ten) = true := by unfold mt at hm; simp only [Bool.and_eq_true] at hm; exact hm.1
      have hc : con (h j0).P (h j0).L ip = true := by unfold mt at hm; simp only [Bool.and_eq_true] at hm; exact hm.2
      have H6 : Hid (∀ W, Calls Tryz.prog 6 #[.agg #[.int .u32 (h j0).P, .int .i64 (h j0).L], .int .u32 ip] W fun e w' => e = .returned (.bool true) ∧ Below W.heap.size W w') := fun W => hc ▸ rcontains_any _ _ _ W
      obtain ⟨f0, f1, f2, f3, f4, f5, f6, f7⟩ := hF
      simp only [Nat.zero_add] at f1 f2 f3 f4 f5 f6 f7
      clear hfn hm hc
      go_wp2_with fail
      refine (H6.out _).mono ?_
      rintro e w3 ⟨rfl, b3⟩
      go_wp2_with fail
      go_ret
      exact ⟨rfl, hbl.trans (b3.mono hbl.size)⟩

set_option maxRecDepth 100000 in
set_option maxHeartbeats 16000000 in
theorem law_none (A : Option Addr) (n c : Nat) (ten ip : Int) (h : Nat → Hp) (w : World) (hn : n ≤ 60) (hA : n = 0 ∨ ∃ b off, A = some ⟨b, off, none⟩ ∧ b < w.heap.size ∧ ∀ i, i < n → HopAt w b (off + i * 8) (h i)) (ho : lk h ten ip n = none) :
    Calls Tryz.prog 3 #[.slice A n c, .int .i64 ten, .int .u32 ip] w fun e w' => e = .returned (.bool true) ∧ Below w.heap.size w w' := by
  have sp := Lib.hid (lk_none n ho)
  have H5 : Hid (∀ W, Below w.heap.size w W → Calls Tryz.prog 5 #[.slice A n c, .int .i64 ten, .int .u32 ip] W fun e w' => e = .returned (.tuple #[.agg #[.int .i64 0, .int .u32 0, .int .i64 0, .int .i64 0, .int .u32 0, .int .u32 0, .int .u64 0, .int .u64 0], .bool false]) ∧ Below W.heap.size W w') := by
    intro W hw
    rcases hA with h0 | ⟨b, off, rfl, hb, hc⟩
    · subst h0
      exact look_zero A c ten ip h W
    · have := look_any b off n c ten ip h W hn (Nat.lt_of_lt_of_le hb hw.size) (fun i hi => (hc i hi).below hw hb)
      rw [ho] at this
      exact this
  have HA := Lib.hid hA
  clear hA ho
  go_enter Tryz.func3, Tryz.ntmps3
  go_wp2_with fail
  refine (awake_any _).mono ?_
  rintro e w1 ⟨rfl, b1⟩
  go_wp2_with fail
  refine (H5.out _ b1).mono ?_
  rintro e w2 ⟨rfl, b2⟩
  have b12 := b1.trans (b2.mono b1.size)
  have s12 := b12.size
  go_wp2_with fail
  go_loopw [10] (fun i wr => ∃ k : Nat, k ≤ n ∧ i = .int .i64 k ∧ Below w.heap.size w wr ∧ w2.heap.size < wr.heap.size ∧ HopAt wr w2.heap.size 0 zeroHop) (fun i _ => n - (intOf i).toNat)
  case atStart => exact ⟨0, Nat.zero_le _, rfl, b12.alloc s12 _, by simp, by refine ⟨?_, ?_, ?_, ?_, ?_, ?_, ?_, ?_⟩ <;> go_simp <;> rfl⟩
  case round =>
    obtain ⟨k, hk, rfl, hbl, hsz, hF⟩ := hrel
    by_cases hlt : k < n
    · have hlt' : (k : Int) < n := by omega
      have h0' : (0 : Int) ≤ k := by omega
      rcases HA.out with h0 | ⟨b, off, rfl, hb, hc⟩
      · omega
      obtain ⟨e0, e1, e2, e3, e4, e5, e6, e7⟩ := (hc k hlt).below hbl hb
      clear hc
      have hm := sp.out k hlt
      have hF1 : HopAt (wr.alloc (.cells #[.int .i64 (h k).T, .int .u32 (h k).P, .int .i64 (h k).L, .int .i64 (h k).D, .int .u32 (h k).X, .int .u32 (h k).V, .int .u64 (h k).M, .int .u64 (h k).R] 31)) w2.heap.size 0 zeroHop := by
        obtain ⟨f0, f1, f2, f3, f4, f5, f6, f7⟩ := hF
        refine ⟨?_, ?_, ?_, ?_, ?_, ?_, ?_, ?_⟩ <;> (rw [World.cell?_alloc_past _ _ _ hsz]; assumption)
      have hAb : Below w.heap.size w (wr.alloc (.cells #[.int .i64 (h k).T, .int .u32 (h k).P, .int .i64 (h k).L, .int .i64 (h k).D, .int .u32 (h k).X, .int .u32 (h k).V, .int .u64 (h k).M, .int .u64 (h k).R] 31)) := hbl.alloc hbl.size _
      have hAs : w2.heap.size < (wr.alloc (.cells #[.int .i64 (h k).T, .int .u32 (h k).P, .int .i64 (h k).L, .int .i64 (h k).D, .int .u32 (h k).X, .int .u32 (h k).V, .int .u64 (h k).M, .int .u64 (h k).R] 31)).heap.size := by simp; omega
      by_cases ht : ((h k).T == ten) = true
      · have htn : ((h k).T != ten) = false := by simp [bne, ht]
        have hc' : con (h k).P (h k).L ip = false := by unfold mt at hm; rw [ht, Bool.true_and] at hm; exact hm
        have H6 : Hid (∀ W, Calls Tryz.prog 6 #[.agg #[.int .u32 (h k).P, .int .i64 (h k).L], .int .u32 ip] W fun e w' => e = .returned (.bool false) ∧ Below W.heap.size W w') := fun W => hc' ▸ rcontains_any _ _ _ W
        clear ht hc' hm
        go_wp2_with fail
        refine (H6.out _).mono ?_
        rintro e w3 ⟨rfl, b3⟩
        have hs3 := Nat.lt_of_lt_of_le hAs b3.size
        go_wp2_with fail
        go_roundw
        case rel => exact ⟨k + 1, by omega, by go_num, hAb.trans (b3.mono hAb.size), hs3, hF1.below b3 hAs⟩
        case measure => simp [intOf]; omega
      · have ht' : ((h k).T == ten) = false := by simpa using ht
        have htn : ((h k).T != ten) = true := by simp [bne, ht']
        clear ht hm
        go_wp2_with fail
        go_roundw
        case rel => exact ⟨k + 1, by omega, by go_num, hAb, hAs, hF1⟩
        case measure => simp [intOf]; omega
    · have hkn : k = n := by omega
      subst hkn
      have hge : ¬ (k : Int) < k := by omega
      obtain ⟨f0, f1, f2, f3, f4, f5, f6, f7⟩ := hF
      simp only [Nat.zero_add, zeroHop] at f0 f1 f2 f3 f4 f5 f6 f7
      go_wp2_with fail
      go_ret
      exact ⟨rfl, hbl⟩
end Go.Proofs.YthnnleinkflhjaaGreat
