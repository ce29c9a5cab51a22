/- The law's examples come to true; the table of kinds: both carried out by the evaluator. -/
import Derived.Test.YtiellonfgcmaaaaGreatU2
import Derived.Test.YtiellonfgcmaaaaGreatAw
import Derived.Laws.Bits64b
namespace Go.Proofs.YtiellonfgcmaaaaGreat
open Go.RowKit Go.ChangeShapes

set_option maxRecDepth 1000000 in
theorem run10 : Ce.isTrue (Ce.runA Memo.env0 200000 10 []) = true := by kernel_rfl
set_option maxHeartbeats 4000000 in
set_option maxRecDepth 100000 in
theorem awake10 (w : World) : Calls Tryz.prog 10 #[] w fun e w' => e = .returned (.bool true) ∧ Below w.heap.size w w' :=
  Ce.closed (E := Memo.env0) (k := 200000) Tryz.checked.mixed rfl (Ce.xt_all all0) rfl rfl run10 w

/-- A run that hands out just these numbers. -/
noncomputable def isNums (l : List (IntKind × Int)) : Ce.O3 → Bool
  | .ok v _ _ => Ce.eqV 32 (.agg (l.map fun x => .int x.1 x.2)) v
  | _ => false
theorem isNums_ok {l : List (IntKind × Int)} {r : Ce.O3} (h : isNums l r = true) : ∃ H x, r = .ok (.agg (l.map fun x => .int x.1 x.2)) H x := by
  unfold isNums at h
  split at h
  · exact ⟨_, _, by rw [Ce.eqV_ok _ _ _ h]⟩
  · cases h
theorem nums_ok {φ : Ce.PM} : ∀ {l : List (IntKind × Int)} {vs : List Value}, Ce.VRs φ (l.map fun x => .int x.1 x.2) vs → vs = l.map fun x => .int x.1 x.2
  | [], _, .nil => rfl
  | _ :: _, _, .cons (.int _ _) t => by rw [nums_ok t]; rfl
open Ce in
theorem closed_nums {P : Program} {E : Env} (hm : P.follows .mixedOrders = true) (hE : E.P = P) (hxt : XtOk E) {k : Nat} {f : FuncId} (hs : specOf f E.xt = none) (hfk : hasF f E.fk = false) (l : List (IntKind × Int)) (h : isNums l (runA E k f []) = true) (w : World) :
    Calls P f #[] w fun e w' => e = .returned (.agg (l.map fun x => .int x.1 x.2).toArray) ∧ Below w.heap.size w w' := by
  obtain ⟨H, x, hr⟩ := isNums_ok h
  unfold runA callA at hr
  rw [hs] at hr
  have hr : bareCallA E (ex E k) f [] .e 0 = .ok (.agg (l.map fun x => .int x.1 x.2)) H x := hr
  unfold bareCallA at hr
  rw [hfk, cond_false] at hr
  have hok := (bodyCallA_ok hE (sound hm hE hxt k) (empty_rel w) (fun _ _ => rfl) (by rw [hr]; exact good_ok) .nil).2 0
  rw [hr] at hok
  have hc : CallsIn Fence.wide 0 P f #[] w _ := hok
  refine (callsIn_wide.1 hc).mono fun e w' he => ?_
  cases e with
  | panicked c => obtain ⟨v, H', x', φ', he, _⟩ := he; cases he
  | outgrown => exact he.elim
  | returned v =>
    obtain ⟨v', H', x', ⟨rfl, rfl, rfl⟩, φ', hv, hst⟩ := he
    cases hv with
    | agg hv =>
      rw [nums_ok hv]
      exact ⟨rfl, hst.os, hst.tape, hst.output, hst.size, fun b hb => hst.frame b hb fun n y hn => by simp [Tr.get, Tr.find_e] at hn⟩
def headsL : List (IntKind × Int) := [(.i64, 1), (.u8, 0), (.u8, 2), (.i64, 2), (.u8, 3), (.u8, 12), (.i64, 3), (.u8, 6), (.u8, 0), (.i64, 4), (.u8, 6), (.u8, 1), (.i64, 5), (.u8, 6), (.u8, 2), (.i64, 6), (.u8, 6), (.u8, 3), (.i64, 7), (.u8, 6), (.u8, 6)]
set_option maxRecDepth 1000000 in
theorem run153 : isNums headsL (Ce.runA Memo.env0 200000 153 []) = true := by kernel_rfl
set_option maxHeartbeats 4000000 in
set_option maxRecDepth 100000 in
theorem heads_any (w : World) : Calls Tryz.prog 153 #[] w fun e w' => e = .returned (.agg (headsL.map fun x => .int x.1 x.2).toArray) ∧ Below w.heap.size w w' :=
  closed_nums (E := Memo.env0) (k := 200000) Tryz.checked.mixed rfl (Ce.xt_all all0) rfl rfl headsL run153 w
end Go.Proofs.YtiellonfgcmaaaaGreat

/- The program's kind of a community. -/
namespace Go.Proofs.YtiellonfgcmaaaaGreat
open Go.RowKit Go.ChangeShapes

def headsA : Array Value := (headsL.map fun x => .int x.1 x.2).toArray
def headL (k : Nat) : List Value := [.int .i64 ((k : Int) + 1), .int .u8 (ka k), .int .u8 (kb k)]
set_option maxRecDepth 100000 in
theorem index_heads (k : Nat) (hk : k < 7) (w : World) : (Instr.index 214 (.agg headsA) (.int .i64 k)).run Tryz.prog w = .ok (.agg (headL k).toArray) w := by
  rcases (show k = 0 ∨ k = 1 ∨ k = 2 ∨ k = 3 ∨ k = 4 ∨ k = 5 ∨ k = 6 by omega) with rfl | rfl | rfl | rfl | rfl | rfl | rfl <;>
    simp [Instr.index, asIntOf, run_underlying Tryz.underlying214, Tryz.sizeOf213, part, headsA, headsL, headL, ka, kb, go_sem]
theorem headL_one {k : Nat} : ∀ u ∈ headL k, u.oneCell' = true := by
  intro u hu
  simp only [headL, List.mem_cons, List.not_mem_nil, or_false] at hu
  rcases hu with rfl | rfl | rfl <;> rfl
theorem wpList_index {P : Program} {ops : Array Oper} {rest : List Oper} {op : Oper} {a : Act} {w : World} {Q : Exit → Act → World → Prop} (hgd : op.guard = none) (t : TypeId) (x i : Operand) (ho : op.op = .index t x i) (vx vi v : Value)
    (hx : a.eval x = vx) (hi : a.eval i = vi) (hr : (Instr.index t vx vi).run P w = .ok v w) (h : wpList P ops Q rest (a.put op.dst v) w) : wpList P ops Q (op :: rest) a w := by
  refine wpList_plain hgd fun K hK => ?_
  unfold Oper.wp execOp
  simp only [ho, hx, hi, hr, Sem.run_bind, Result.andThen_ok]
  exact hK _ _ h
theorem info213w : (Tryz.prog.info? 213).map (·.size) = some 3 := by kernel_rfl
set_option maxRecDepth 100000 in
set_option maxHeartbeats 2000000 in
theorem kind_any (f : Nat → Int) (w : World) : Calls Tryz.prog 111 #[commV f] w fun e w' => (∃ r : Int, e = .returned (.int .i64 r) ∧ (r = 7 ↔ f 0 = 6 ∧ f 1 = 6)) ∧ Below w.heap.size w w' := by
  obtain ⟨x, ex⟩ : ∃ x, f 0 = x := ⟨_, rfl⟩
  obtain ⟨y, ey⟩ : ∃ y, f 1 = y := ⟨_, rfl⟩
  unfold commV
  rw [ex, ey]
  clear ex ey
  obtain ⟨C, hC⟩ : ∃ C : Array Value, C = #[.int .u8 x, .int .u8 y, .int .u8 (f 2), .int .u8 (f 3), .int .u8 (f 4), .int .u8 (f 5), .int .u8 (f 6), .int .u8 (f 7)] := ⟨_, rfl⟩
  have B0 : Hid (Below w.heap.size w (w.alloc (.cells C 155))) := (Below.refl _ _).alloc (Nat.le_refl _) _
  have c0 : (w.alloc (.cells C 155)).cell? ⟨w.heap.size, 0, none⟩ = some (.int .u8 x) := by rw [hC]; simp
  have c1 : (w.alloc (.cells C 155)).cell? ⟨w.heap.size, 1, none⟩ = some (.int .u8 y) := by rw [hC]; simp
  have S0 : (w.alloc (.cells C 155)).heap.size = w.heap.size + 1 := by simp
  have HC := Lib.hid hC
  have HW : Hid (∃ W0, W0 = w.alloc (.cells C 155)) := ⟨_, rfl⟩
  obtain ⟨W0, hW0⟩ := HW.out
  rw [← hW0] at B0 c0 c1 S0
  have C0 := Lib.hid c0
  have C1 := Lib.hid c1
  have SS := Lib.hid S0
  have HW0 := Lib.hid hW0
  clear c0 c1 S0 hC hW0 HW
  go_enter Tryz.func111, Tryz.ntmps111
  go_wp2_with (go_at_call 153; fail)
  rw [← HC.out, ← HW0.out]
  refine (show Calls Tryz.prog 153 #[] _ fun e w' => e = .returned (.agg headsA) ∧ Below _ _ w' from heads_any W0).mono ?_
  rintro e w1 ⟨rfl, q1⟩
  have Q1 : Hid (Below (w.heap.size + 1) W0 w1) := q1.mono (by have := SS.out; omega)
  clear q1
  go_wp2_with fail
  go_loopw [6] (fun i wr => ∃ k : Nat, k ≤ 7 ∧ i = .int .i64 k ∧ Hid (Below (w.heap.size + 1) W0 wr) ∧ Hid (∀ j, j < k → ¬ (x = ka j ∧ y = kb j))) (fun i _ => 7 - (intOf i).toNat)
  case atStart => exact ⟨0, by omega, rfl, Q1, fun j hj => by omega⟩
  case round =>
    obtain ⟨k, hk, rfl, hbl, hno⟩ := hrel
    by_cases hlt : k < 7
    · have lt' : (k : Int) < 7 := by omega
      have sz : w.heap.size + 1 ≤ wr.heap.size := by have := hbl.out.size; have := SS.out; omega
      obtain ⟨p, hp⟩ : ∃ p, ka k = p := ⟨_, rfl⟩
      obtain ⟨q, hq⟩ : ∃ q, kb k = q := ⟨_, rfl⟩
      have IX := Lib.hid (fun W => index_heads k hlt W)
      have CF : Hid (∀ W2, W2 = wr.alloc (.cells (headL k).toArray 213) → W2.cell? ⟨w.heap.size, 0, none⟩ = some (.int .u8 x) ∧ W2.cell? ⟨w.heap.size, 1, none⟩ = some (.int .u8 y) ∧ W2.cell? ⟨wr.heap.size, 0, none⟩ = some (.int .i64 ((k : Int) + 1)) ∧ W2.cell? ⟨wr.heap.size, 1, none⟩ = some (.int .u8 p) ∧ W2.cell? ⟨wr.heap.size, 2, none⟩ = some (.int .u8 q) ∧ Below (w.heap.size + 1) W0 W2) := by
        rintro W2 rfl
        have g := range_new wr (headL k) 213
        have hb2 : Below (w.heap.size + 1) W0 (wr.alloc (.cells (headL k).toArray 213)) := hbl.out.alloc sz _
        exact ⟨(hb2.cell (by show w.heap.size < _; omega)).trans C0.out, (hb2.cell (by show w.heap.size < _; omega)).trans C1.out, g 0 _ rfl, by rw [← hp]; exact g 1 _ rfl, by rw [← hq]; exact g 2 _ rfl, hb2⟩
      have P := Lib.hid hp
      have Q := Lib.hid hq
      clear hp hq
      have RR : Hid (∀ W, Below (w.heap.size + 1) W0 W → Below w.heap.size w W) := fun W h => B0.out.trans (h.mono (by omega))
      by_cases a1 : x = p
      · have b1 : (x == p) = true := by simp [a1]
        by_cases a2 : y = q
        · have b2 : (y == q) = true := by simp [a2]
          have R : Hid ((x = 6 ∧ y = 6) ↔ k = 6) := by
            show _ ↔ _
            rw [a1, a2, ← P.out, ← Q.out]; exact k66 k hlt
          clear a1 a2
          go_wp2_with ((with_reducible show wpList _ _ _ _ _ _); first
            | (refine wpList_index rfl 214 (.tmp 5) (.tmp 6) rfl (.agg headsA) (.int .i64 k) _ rfl rfl (IX.out _) ?_)
            | (refine wpList_store_new rfl rfl 213 (.tmp 4) (.tmp 8) rfl _ _ (headL k) rfl rfl rfl rfl info213w headL_one ?_
               obtain ⟨d0, d1, e0, e1, e2, b3⟩ := CF.out _ rfl
               generalize hW2 : wr.alloc (.cells (headL k).toArray 213) = W2 at d0 d1 e0 e1 e2 b3 ⊢
               replace b3 := Lib.hid b3
               clear hW2))
          go_ret
          exact ⟨⟨_, rfl, by rw [R.out]; omega⟩, RR.out _ b3.out⟩
        · have b2 : (y == q) = false := by simp [a2]
          have A2 := Lib.hid a2
          clear a1 a2
          go_wp2_with ((with_reducible show wpList _ _ _ _ _ _); first
            | (refine wpList_index rfl 214 (.tmp 5) (.tmp 6) rfl (.agg headsA) (.int .i64 k) _ rfl rfl (IX.out _) ?_)
            | (refine wpList_store_new rfl rfl 213 (.tmp 4) (.tmp 8) rfl _ _ (headL k) rfl rfl rfl rfl info213w headL_one ?_
               obtain ⟨d0, d1, e0, e1, e2, b3⟩ := CF.out _ rfl
               generalize hW2 : wr.alloc (.cells (headL k).toArray 213) = W2 at d0 d1 e0 e1 e2 b3 ⊢
               replace b3 := Lib.hid b3
               clear hW2))
          go_roundw
          case rel => exact ⟨k + 1, by omega, by go_num, b3, fun j hj => by
            rcases Nat.lt_or_ge j k with h | h
            · exact hno.out j h
            · obtain rfl : j = k := by omega
              rw [P.out, Q.out]; exact fun h => A2.out h.2⟩
          case measure => simp [intOf]; omega
      · have b1 : (x == p) = false := by simp [a1]
        have A1 := Lib.hid a1
        clear a1
        go_wp2_with ((with_reducible show wpList _ _ _ _ _ _); first
          | (refine wpList_index rfl 214 (.tmp 5) (.tmp 6) rfl (.agg headsA) (.int .i64 k) _ rfl rfl (IX.out _) ?_)
          | (refine wpList_store_new rfl rfl 213 (.tmp 4) (.tmp 8) rfl _ _ (headL k) rfl rfl rfl rfl info213w headL_one ?_
             obtain ⟨d0, d1, e0, e1, e2, b3⟩ := CF.out _ rfl
             generalize hW2 : wr.alloc (.cells (headL k).toArray 213) = W2 at d0 d1 e0 e1 e2 b3 ⊢
             replace b3 := Lib.hid b3
             clear hW2))
        go_roundw
        case rel => exact ⟨k + 1, by omega, by go_num, b3, fun j hj => by
          rcases Nat.lt_or_ge j k with h | h
          · exact hno.out j h
          · obtain rfl : j = k := by omega
            rw [P.out, Q.out]; exact fun h => A1.out h.1⟩
        case measure => simp [intOf]; omega
    · obtain rfl : k = 7 := by omega
      go_wp2_with fail
      go_ret
      exact ⟨⟨0, rfl, ⟨fun h => by omega, fun h => absurd h (hno.out 6 (by omega))⟩⟩, B0.out.trans (hbl.out.mono (by omega))⟩
end Go.Proofs.YtiellonfgcmaaaaGreat

/- The number in a community. -/
namespace Go.Proofs.YtiellonfgcmaaaaGreat
open Go.RowKit Go.ChangeShapes

/-- The number of the first k bytes. -/
def numN (f : Nat → Int) : Nat → Int
  | 0 => 0
  | k + 1 => numN f k * 256 + f k
theorem numN_range (f : Nat → Int) (hf : ∀ j, 0 ≤ f j ∧ f j ≤ 255) (k : Nat) : 0 ≤ numN f k ∧ numN f k + 1 ≤ 256 ^ k := by
  induction k with
  | zero => simp [numN]
  | succ k ih =>
    have := hf k
    simp only [numN, Int.pow_succ]
    omega
theorem numN_or (n x : Int) (h0 : 0 ≤ n) (h1 : n < 72057594037927936) (h2 : 0 ≤ x) (h3 : x ≤ 255) : bits .or .u64 (n * 256) x = n * 256 + x := by
  obtain ⟨a, rfl⟩ : ∃ a : Nat, n = a := ⟨n.toNat, (Int.toNat_of_nonneg h0).symm⟩
  obtain ⟨b, rfl⟩ : ∃ b : Nat, x = b := ⟨x.toNat, (Int.toNat_of_nonneg h2).symm⟩
  have h := bits_or_u64_nat (a * 256) b (by omega) (by omega)
  rw [show ((a : Int) * 256) = ((a * 256 : Nat) : Int) by omega, h]
  have := Nat.two_pow_add_eq_or_of_lt (i := 8) (b := b) (by omega) a
  rw [show a * 256 = 2 ^ 8 * a by omega, ← this]
  omega
set_option maxRecDepth 100000 in
set_option maxHeartbeats 2000000 in
theorem number8 (b off : Nat) (f : Nat → Int) (hf : ∀ j, 0 ≤ f j ∧ f j ≤ 255) (w : World) (hc : ∀ j, j < 8 → w.cell? ⟨b, off + j, none⟩ = some (.int .u8 (f j))) :
    Calls Tryz.prog 196 #[.slice (some ⟨b, off, none⟩) 8 8] w fun e w' => e = .returned (.int .u64 (numN f 8)) ∧ w' = w := by
  have HC := Lib.hid hc
  have HF := Lib.hid hf
  clear hc hf
  go_enter Tryz.func196, Tryz.ntmps196
  go_wp2
  go_loopw [3, 8] (fun nv iv wr => ∃ k : Nat, k ≤ 8 ∧ iv = .int .i64 k ∧ nv = .int .u64 (numN f k) ∧ wr = w) (fun _ i _ => 8 - (intOf i).toNat)
  case atStart => exact ⟨0, by omega, rfl, rfl, rfl⟩
  case round =>
    obtain ⟨k, hk, rfl, rfl, rfl⟩ := hrel
    by_cases hlt : k < 8
    · have c0 := HC.out k hlt
      obtain ⟨h0, h1⟩ := numN_range f HF.out k
      obtain ⟨h2, h3⟩ := HF.out k
      have hk' : (256 : Int) ^ k ≤ 72057594037927936 := by
        rcases (show k = 0 ∨ k = 1 ∨ k = 2 ∨ k = 3 ∨ k = 4 ∨ k = 5 ∨ k = 6 ∨ k = 7 by omega) with rfl | rfl | rfl | rfl | rfl | rfl | rfl | rfl <;> decide
      obtain ⟨m, hm⟩ : ∃ m, numN f k = m := ⟨_, rfl⟩
      obtain ⟨x, hx⟩ : ∃ x, f k = x := ⟨_, rfl⟩
      rw [hm] at h0 h1
      rw [hx] at c0 h2 h3
      have h4 : m < 72057594037927936 := by omega
      have OR := numN_or m x h0 h4 h2 h3
      have NX : Hid (numN f (k + 1) = m * 256 + x) := by show numN f k * 256 + f k = _; rw [hm, hx]
      rw [hm]
      have lt' : (k : Int) < 8 := by omega
      clear hm hx h1 hk'
      go_wp2
      exact ⟨⟨k + 1, by omega, by go_num, by rw [NX.out], trivial⟩, by simp [intOf]; omega⟩
    · obtain rfl : k = 8 := by omega
      go_wp2
      go_ret
      exact ⟨rfl, rfl⟩
theorem num6_low (f : Nat → Int) (hf : ∀ j, 0 ≤ f j ∧ f j ≤ 255) : bits .and .u64 (numN f 8) 281474976710655 = num6 f := by
  obtain ⟨h0, h1⟩ := numN_range f hf 8
  have e : numN f 8 = (f 0 * 256 + f 1) * 281474976710656 + num6 f := by simp only [numN, num6]; omega
  have h2 := hf 2; have h3 := hf 3; have h4 := hf 4; have h5 := hf 5; have h6 := hf 6; have h7 := hf 7
  have hr : 0 ≤ num6 f ∧ num6 f < 281474976710656 := by unfold num6; omega
  obtain ⟨a, ha⟩ : ∃ a : Nat, numN f 8 = a := ⟨(numN f 8).toNat, (Int.toNat_of_nonneg h0).symm⟩
  have hlt : a < 18446744073709551616 := by
    have : (256 : Int) ^ 8 = 18446744073709551616 := by decide
    omega
  have h := bits_and_u64_nat a 281474976710655 hlt (by omega)
  rw [ha, show (281474976710655 : Int) = ((281474976710655 : Nat) : Int) from rfl, h]
  have h8 := Nat.and_two_pow_sub_one_eq_mod a 48
  rw [show 2 ^ 48 - 1 = 281474976710655 from rfl] at h8
  rw [h8]
  have h9 : (a : Int) % 281474976710656 = num6 f := by rw [← ha, e]; omega
  rw [← h9]
  rfl
set_option maxRecDepth 100000 in
set_option maxHeartbeats 2000000 in
theorem get64_any (b off : Nat) (f : Nat → Int) (hf : ∀ j, 0 ≤ f j ∧ f j ≤ 255) (w : World) (hc : ∀ j, j < 8 → w.cell? ⟨b, off + j, none⟩ = some (.int .u8 (f j))) :
    Calls Tryz.prog 154 #[.slice (some ⟨b, off, none⟩) 8 8] w fun e w' => e = .returned (.int .u64 (numN f 8)) ∧ w' = w := by
  have N8 := Lib.hid (number8 b off f hf w hc)
  obtain ⟨h0, h1⟩ := numN_range f hf 8
  rw [show (256 : Int) ^ 8 = 18446744073709551616 from by decide] at h1
  generalize numN f 8 = m at N8 h0 h1 ⊢
  clear hc hf
  go_enter Tryz.func154, Tryz.ntmps154
  go_wp2_with (go_at_call 196; refine Calls.mono N8.out ?_; rintro e w' ⟨rfl, rfl⟩)
  go_ret
  exact ⟨rfl, rfl⟩
set_option maxRecDepth 100000 in
set_option maxHeartbeats 2000000 in
theorem low_any (f : Nat → Int) (hf : ∀ j, 0 ≤ f j ∧ f j ≤ 255) (w : World) : Calls Tryz.prog 112 #[commV f] w fun e w' => e = .returned (.int .u64 (num6 f)) ∧ Below w.heap.size w w' := by
  have L := num6_low f hf
  have G : Hid (∀ W, (∀ j, j < 8 → W.cell? ⟨w.heap.size, 0 + j, none⟩ = some (.int .u8 (f j))) → Calls Tryz.prog 154 #[.slice (some ⟨w.heap.size, 0, none⟩) 8 8] W fun e w' => e = .returned (.int .u64 (numN f 8)) ∧ w' = W) := fun W hW => get64_any _ _ f hf W hW
  have C8 : Hid (∀ j, j < 8 → (w.alloc (.cells #[.int .u8 (f 0), .int .u8 (f 1), .int .u8 (f 2), .int .u8 (f 3), .int .u8 (f 4), .int .u8 (f 5), .int .u8 (f 6), .int .u8 (f 7)] 155)).cell? ⟨w.heap.size, 0 + j, none⟩ = some (.int .u8 (f j))) := by
    intro j hj
    rcases (show j = 0 ∨ j = 1 ∨ j = 2 ∨ j = 3 ∨ j = 4 ∨ j = 5 ∨ j = 6 ∨ j = 7 by omega) with rfl | rfl | rfl | rfl | rfl | rfl | rfl | rfl <;> simp
  generalize numN f 8 = m at G L
  clear hf
  unfold commV
  go_enter Tryz.func112, Tryz.ntmps112
  go_wp2_with (go_at_call 154; refine (G.out _ C8.out).mono ?_; rintro e w' ⟨rfl, rfl⟩)
  go_ret
  exact ⟨rfl, (Below.refl _ _).alloc (Nat.le_refl _) _⟩
theorem same_id (n : Int) (w : World) : Calls Tryz.prog 75 #[.int .u64 n] w fun e w' => e = .returned (.int .u64 n) ∧ w' = w := by
  go_enter Tryz.func75, Tryz.ntmps75
  go_wp2
  go_ret
  exact ⟨rfl, rfl⟩
end Go.Proofs.YtiellonfgcmaaaaGreat

/- The program's election community. -/
namespace Go.Proofs.YtiellonfgcmaaaaGreat
open Go.RowKit Go.ChangeShapes

def comm8 (f : Nat → Int) : List Value := [.int .u8 (f 0), .int .u8 (f 1), .int .u8 (f 2), .int .u8 (f 3), .int .u8 (f 4), .int .u8 (f 5), .int .u8 (f 6), .int .u8 (f 7)]
theorem comm8_V (f : Nat → Int) : commV f = .agg (comm8 f).toArray := rfl
theorem info155s : (Tryz.prog.info? 155).map (·.size) = some 8 := by kernel_rfl
set_option maxRecDepth 100000 in
set_option maxHeartbeats 2000000 in
theorem closure110 (f : Nat → Int) (B : Nat) (w : World) (hB : B < w.heap.size) (hc : w.cell? ⟨B, 0, none⟩ = some (.int .i64 7)) :
    Calls Tryz.prog 110 #[.agg (comm8 f).toArray, .pointer (some ⟨B, 0, none⟩)] w fun e w' => e = .returned (.bool (decide (f 0 = 6 ∧ f 1 = 6))) ∧ Below w.heap.size w w' := by
  have RC : (w.alloc (.cells (comm8 f).toArray 155)).rangeAt w.heap.size 0 (comm8 f) := range_new w (comm8 f) 155
  have HB : (w.alloc (.cells (comm8 f).toArray 155)).cell? ⟨B, 0, none⟩ = some (.int .i64 7) := by rw [World.cell?_alloc_past _ _ _ hB]; exact hc
  go_enter Tryz.func110, Tryz.ntmps110
  go_wp2_with fail
  refine wp_region_held_drew (S := fun W => W.rangeAt w.heap.size 0 (comm8 f) ∧ W.cell? ⟨B, 0, none⟩ = some (.int .i64 7)) (by kernel_rfl) ⟨RC, HB⟩ (fun hS => ?_)
  refine wpAnyH_take (i := 0) (oi := { dst := some 4, op := Op.load 155 (Operand.tmp 2), type := 155, pos := "comm.go:128", after := #[], guard := none }) (v := .agg (comm8 f).toArray) rfl (by kernel_rfl) (by kernel_rfl) (by kernel_rfl) (fun _ _ _ h => h) ?_ hS ?_
  · exact yieldsIf_load_mid (by rfl) 155 (.tmp 2) rfl w.heap.size 0 rfl (comm8 f) _ (fun W hW => hW.1) Tryz.underlying155 rfl info155s
  (try simp only [Act.put, List.setIfInBounds_toArray, List.set_cons_zero, List.set_cons_succ])
  refine wpAnyH_take (i := 2) (oi := { dst := some 6, op := Op.load 3 (Operand.tmp 1), type := 3, pos := "comm.go:128", after := #[], guard := none }) (v := ?_) rfl (by kernel_rfl) (by kernel_rfl) (by kernel_rfl) (fun _ _ _ h => h) (Or.inl ⟨by rfl, ?_⟩) hS ?_
  rotate_left
  · intro W hSw; obtain ⟨_, hk⟩ := hSw; go_simp; (try with_reducible rfl)
  (try simp only [Act.put, List.setIfInBounds_toArray, List.set_cons_zero, List.set_cons_succ])
  refine wpAnyH_ready (rs := [1]) (by kernel_rfl) (by simp) (AllReadyH.cons (o := { dst := some 5, op := Op.call { callee := Callee.value (Operand.func 111), args := #[Operand.tmp 4], argTypes := #[155] }, type := 3, pos := "comm.go:128", after := #[{ on := 0, ground := Ground.data }], guard := none }) rfl (fun K hK => ?_) AllReadyH.nil)
  go_simp
  refine (kind_any f _).mono ?_
  rintro e w1 ⟨⟨r, rfl, hr⟩, q1⟩
  have hS : w1.rangeAt w.heap.size 0 (comm8 f) ∧ w1.cell? ⟨B, 0, none⟩ = some (.int .i64 7) := ⟨rangeAt_below hS.1 (by simp) q1, (q1.cell (by show B < _; simp; omega)).trans hS.2⟩
  have Q1 := Lib.hid (((Below.refl w.heap.size w).alloc (Nat.le_refl _) (.cells (comm8 f).toArray 155)).drew.trans (q1.mono (by simp)))
  replace hr := Lib.hid hr
  clear q1
  go_simp
  refine hK.out _ _ hS (fun _ => ?_)
  clear hK K
  (try simp only [Act.put, List.setIfInBounds_toArray, List.set_cons_zero, List.set_cons_succ])
  refine wpAnyH_take (i := 3) (oi := { dst := some 7, op := Op.binOp BinOp.eql 3 (Operand.tmp 5) (Operand.tmp 6) 3, type := 4, pos := "comm.go:128", after := #[{ on := 1, ground := Ground.data }, { on := 2, ground := Ground.data }], guard := none }) (v := ?_) rfl (by kernel_rfl) (by kernel_rfl) (by kernel_rfl) (fun _ _ _ h => h) (Or.inl ⟨by rfl, ?_⟩) hS ?_
  rotate_left
  · intro W hSw; obtain ⟨_, hk⟩ := hSw; go_simp; (try with_reducible rfl)
  (try simp only [Act.put, List.setIfInBounds_toArray, List.set_cons_zero, List.set_cons_succ])
  refine wpAnyH_take (i := 4) (oi := { dst := some 3, op := Op.assign (Operand.tmp 7), type := 4, pos := "comm.go:128", after := #[{ on := 3, ground := Ground.data }, { on := 1, ground := Ground.chain }, { on := 0, ground := Ground.phase }, { on := 1, ground := Ground.phase }, { on := 2, ground := Ground.phase }, { on := 3, ground := Ground.phase }], guard := none }) (v := ?_) rfl (by kernel_rfl) (by kernel_rfl) (by kernel_rfl) (fun _ _ _ h => h) (Or.inl ⟨by rfl, ?_⟩) hS ?_
  rotate_left
  · intro W hSw; obtain ⟨_, hk⟩ := hSw; go_simp; (try with_reducible rfl)
  (try simp only [Act.put, List.setIfInBounds_toArray, List.set_cons_zero, List.set_cons_succ])
  refine wpAnyH_done (by kernel_rfl) ?_ _
  go_wp2_with fail
  go_ret
  refine ⟨?_, Q1.out⟩
  show Ending.returned (.bool (r == 7)) = _
  have := hr.out
  congr 2
  rw [Bool.eq_iff_iff]
  simpa using this
def idxE : Option Nat → Int
  | some k => k
  | none => -1
set_option maxRecDepth 100000 in
set_option maxHeartbeats 2000000 in
theorem index_some (b off n c B : Nat) (f : Nat → Nat → Int) (w : World) (hn : n ≤ 100) (hb : b < w.heap.size) (hB : B < w.heap.size) (h7 : w.cell? ⟨B, 0, none⟩ = some (.int .i64 7))
    (hc : ∀ i, i < n → w.rangeAt b (off + i * 8) (comm8 (f i))) :
    Calls Tryz.prog 109 #[.slice (some ⟨b, off, none⟩) n c, .func (.func 110) #[] #[.pointer (some ⟨B, 0, none⟩)]] w fun e w' => e = .returned (.int .i64 (idxE (firstE n f))) ∧ Below w.heap.size w w' := by
  have KC := Lib.hid hc
  have HB := Lib.hid hB
  have HBB := Lib.hid hb
  have H7 := Lib.hid h7
  clear hc hb hB h7
  go_enter Tryz.func109, Tryz.ntmps109
  go_wp2_with fail
  go_loopw [8] (fun i wr => ∃ k : Nat, k ≤ n ∧ i = .int .i64 k ∧ Hid (Below w.heap.size w wr) ∧ Hid (∀ j, j < k → ¬ (f j 0 = 6 ∧ f j 1 = 6))) (fun i _ => n - (intOf i).toNat)
  case atStart => exact ⟨0, Nat.zero_le _, rfl, Below.refl _ _, fun j hj => by omega⟩
  case round =>
    obtain ⟨k, hk, rfl, hbl, hno⟩ := hrel
    by_cases hlt : k < n
    · have RG : wr.rangeAt b (off + k * 8) (comm8 (f k)) := rangeAt_below (KC.out k hlt) HBB.out hbl.out
      have CL := Lib.hid (closure110 (f k) B wr (Nat.lt_of_lt_of_le HB.out hbl.out.size) ((hbl.out.cell (by exact HB.out)).trans H7.out))
      have lt' : (k : Int) < n := by omega
      have h0' : (0 : Int) ≤ k := by omega
      by_cases h66 : f k 0 = 6 ∧ f k 1 = 6
      · rw [decide_eq_true h66] at CL
        have E1 := Lib.hid (firstE_some hlt h66 hno.out)
        clear h66
        go_wp2_with (first
          | ((with_reducible show wpList _ _ _ _ _ _); (refine wpList_load_mid rfl 155 (.tmp 14) rfl b (off + k * 8) rfl (comm8 (f k)) _ RG Tryz.underlying155 rfl info155s ?_))
          | (go_at_call 110; refine Calls.mono CL.out ?_; rintro e w1 ⟨rfl, q1⟩; replace q1 := Lib.hid q1))
        go_ret
        exact ⟨by rw [E1.out]; rfl, hbl.out.trans (q1.out.mono hbl.out.size)⟩
      · rw [decide_eq_false h66] at CL
        have E1 := Lib.hid h66
        clear h66
        go_wp2_with (first
          | ((with_reducible show wpList _ _ _ _ _ _); (refine wpList_load_mid rfl 155 (.tmp 14) rfl b (off + k * 8) rfl (comm8 (f k)) _ RG Tryz.underlying155 rfl info155s ?_))
          | (go_at_call 110; refine Calls.mono CL.out ?_; rintro e w1 ⟨rfl, q1⟩; replace q1 := Lib.hid q1))
        go_roundw
        case rel =>
          refine ⟨k + 1, by omega, by go_num, hbl.out.trans (q1.out.mono hbl.out.size), fun j hj => ?_⟩
          rcases Nat.lt_or_ge j k with h | h
          · exact hno.out j h
          · obtain rfl : j = k := by omega
            exact E1.out
        case measure => simp [intOf]; omega
    · obtain rfl : k = n := by omega
      have E1 := Lib.hid (firstE_none hno.out)
      go_wp2_with fail
      go_ret
      exact ⟨by rw [E1.out]; rfl, hbl.out⟩
set_option maxRecDepth 100000 in
theorem index_none (A : Option Addr) (c : Nat) (F : Value) (f : Nat → Nat → Int) (w : World) :
    Calls Tryz.prog 109 #[.slice A 0 c, F] w fun e w' => e = .returned (.int .i64 (idxE (firstE 0 f))) ∧ w' = w := by
  rw [firstE_none (n := 0) (f := f) (fun j hj => by omega)]
  go_enter Tryz.func109, Tryz.ntmps109
  go_wp2
  refine wp_loop_rounds 1 ?_
  rw [rounds_succ]
  go_wp2
  go_ret
  exact ⟨rfl, rfl⟩
/-- Communities that a slice reads as. -/
def Comms (w : World) (A : Option Addr) (n : Nat) (f : Nat → Nat → Int) : Prop := n = 0 ∨ ∃ b off, A = some ⟨b, off, none⟩ ∧ b < w.heap.size ∧ ∀ i, i < n → w.rangeAt b (off + i * 8) (comm8 (f i))
theorem comms_of_row {w : World} {A : Option Addr} {n c : Nat} {f : Nat → Nat → Int} (h : Row w A n c 8 (comms n f)) : Comms w A n f := by
  rcases h with ⟨h1, h2⟩ | ⟨b, off, rfl, h2, h3, h4, h5⟩
  · exact .inl h1
  · refine .inr ⟨b, off, rfl, h2, fun i hi j v hj => ?_⟩
    have hj8 : j < 8 := (List.getElem?_eq_some_iff.1 hj).1
    rw [Nat.add_assoc]
    refine h5 (i * 8 + j) v ?_
    rw [comms_get hi j hj8]
    rcases (show j = 0 ∨ j = 1 ∨ j = 2 ∨ j = 3 ∨ j = 4 ∨ j = 5 ∨ j = 6 ∨ j = 7 by omega) with rfl | rfl | rfl | rfl | rfl | rfl | rfl | rfl <;> exact hj
theorem index_any (A : Option Addr) (n c B : Nat) (f : Nat → Nat → Int) (w : World) (hn : n ≤ 100) (hB : B < w.heap.size) (h7 : w.cell? ⟨B, 0, none⟩ = some (.int .i64 7)) (hc : Comms w A n f) :
    Calls Tryz.prog 109 #[.slice A n c, .func (.func 110) #[] #[.pointer (some ⟨B, 0, none⟩)]] w fun e w' => e = .returned (.int .i64 (idxE (firstE n f))) ∧ Below w.heap.size w w' := by
  rcases hc with rfl | ⟨b, off, rfl, hb, hc⟩
  · exact (index_none A c _ f w).mono fun e w' ⟨h1, h2⟩ => ⟨h1, by rw [h2]; exact Below.refl _ _⟩
  · exact index_some b off n c B f w hn hb hB h7 hc
theorem firstE_lt {n k : Nat} {f : Nat → Nat → Int} (h : firstE n f = some k) : k < n := by
  have := List.mem_of_find?_eq_some h
  simpa using this
set_option maxRecDepth 100000 in
set_option maxHeartbeats 2000000 in
theorem first_any (A : Option Addr) (n c : Nat) (f : Nat → Nat → Int) (w : World) (hn : n ≤ 100) (hf : ∀ i j, 0 ≤ f i j ∧ f i j ≤ 255) (hc : Comms w A n f) (_hnc : n ≤ c) :
    Calls Tryz.prog 74 #[.slice A n c, .int .i64 7, .func (.func 75) #[] #[]] w fun e w' => e = .returned (.tuple #[.int .u64 (firstV n f), .bool (firstE n f).isSome]) ∧ Below w.heap.size w w' := by
  have hW : (w.alloc (.cells #[.int .i64 7] 3)).cell? ⟨w.heap.size, 0, none⟩ = some (.int .i64 7) := by simp
  have B0 : Below w.heap.size w (w.alloc (.cells #[.int .i64 7] 3)) := (Below.refl _ _).alloc (Nat.le_refl _) _
  have hC2 : Comms (w.alloc (.cells #[.int .i64 7] 3)) A n f := by
    rcases hc with h | ⟨b, off, h1, h2, h3⟩
    · exact .inl h
    · exact .inr ⟨b, off, h1, by simp; omega, fun i hi => rangeAt_below (h3 i hi) h2 B0⟩
  have IX := Lib.hid (index_any A n c w.heap.size f (w.alloc (.cells #[.int .i64 7] 3)) hn (by simp) hW hC2)
  have HB0 := Lib.hid B0
  clear hW B0 hC2
  cases he : firstE n f with
  | none =>
    have e2 : firstV n f = 0 := by unfold firstV; rw [he]
    rw [he] at IX
    rw [e2]
    have IX' : Hid (Calls Tryz.prog 109 #[.slice A n c, .func (.func 110) #[] #[.pointer (some ⟨w.heap.size, 0, none⟩)]] (w.alloc (.cells #[.int .i64 7] 3)) fun e w' => e = .returned (.int .i64 (-1)) ∧ Below (w.alloc (.cells #[.int .i64 7] 3)).heap.size (w.alloc (.cells #[.int .i64 7] 3)) w') := IX.out
    clear IX e2 he hf hc
    go_enter Tryz.func74, Tryz.ntmps74
    go_wp2_with (go_at_call 109; refine Calls.mono IX'.out ?_; rintro e w1 ⟨rfl, q1⟩; replace q1 := Lib.hid q1)
    go_ret2
    exact ⟨rfl, HB0.out.trans (q1.out.mono HB0.out.size)⟩
  | some k =>
    have hkn := firstE_lt he
    have e2 : firstV n f = num6 (f k) := by unfold firstV; rw [he]
    rw [he] at IX
    rw [e2]
    have IX' : Hid (Calls Tryz.prog 109 #[.slice A n c, .func (.func 110) #[] #[.pointer (some ⟨w.heap.size, 0, none⟩)]] (w.alloc (.cells #[.int .i64 7] 3)) fun e w' => e = .returned (.int .i64 k) ∧ Below (w.alloc (.cells #[.int .i64 7] 3)).heap.size (w.alloc (.cells #[.int .i64 7] 3)) w') := IX.out
    rcases hc with h0 | ⟨b, off, rfl, hb, hc⟩
    · omega
    have HC := Lib.hid (hc k hkn)
    have LO := Lib.hid (fun W => low_any (f k) (hf k) W)
    generalize num6 (f k) = m at LO ⊢
    have k0 : (0 : Int) ≤ k := by omega
    have k1 : (k : Int) < n := by omega
    have k2 : ¬ (k : Int) < 0 := by omega
    have HBB := Lib.hid hb
    clear IX e2 he hf hc hb
    go_enter Tryz.func74, Tryz.ntmps74
    go_wp2_with (first
      | (go_at_call 109; refine Calls.mono IX'.out ?_; rintro e w1 ⟨rfl, q1⟩
         have b1 : Below w.heap.size w w1 := HB0.out.trans (q1.mono HB0.out.size)
         have RG : w1.rangeAt b (off + k * 8) (comm8 (f k)) := rangeAt_below HC.out HBB.out b1
         replace q1 := Lib.hid q1
         replace b1 := Lib.hid b1)
      | ((with_reducible show wpList _ _ _ _ _ _); (refine wpList_load_mid rfl 155 (.tmp 18) rfl b (off + k * 8) rfl (comm8 (f k)) _ RG Tryz.underlying155 rfl info155s ?_))
      | (go_at_call 112; refine (LO.out _).mono ?_; rintro e w2 ⟨rfl, q2⟩; replace q2 := Lib.hid q2)
      | (go_at_call 75; refine (same_id _ _).mono ?_; rintro e w3 ⟨rfl, rfl⟩))
    go_ret2
    exact ⟨rfl, b1.out.trans (q2.out.mono b1.out.size)⟩
set_option maxHeartbeats 4000000 in
theorem election_any (A : Option Addr) (n c : Nat) (f : Nat → Nat → Int) (w : World) (hn : n ≤ 100) (hf : ∀ i j, 0 ≤ f i j ∧ f i j ≤ 255) (hc : Comms w A n f) (hnc : n ≤ c) :
    Calls Tryz.prog 42 #[.slice A n c] w fun e w' => e = .returned (.tuple #[.int .i64 (algV (firstV n f)), .int .i64 (prefV (firstV n f)), .bool (firstE n f).isSome]) ∧ Below w.heap.size w w' := by
  have F := Lib.hid (first_any A n c f w hn hf hc hnc)
  obtain ⟨hva, hvb⟩ := firstV_range n f hf
  generalize firstV n f = v at F hva hvb ⊢
  generalize (firstE n f).isSome = s at F ⊢
  clear hc
  go_enter Tryz.func42, Tryz.ntmps42
  go_wp2_with (go_at_call 74; refine Calls.mono F.out ?_; rintro e w1 ⟨rfl, hb1⟩)
  exact bodyPost_ret (v := .tuple #[.int .i64 (algV v), .int .i64 (prefV v), .bool s]) (by simp [results, Tryz.results42, go_sem, algV, prefV]) rfl ⟨rfl, hb1⟩
end Go.Proofs.YtiellonfgcmaaaaGreat

/- The program's candidates: the parts. -/
namespace Go.Proofs.YtiellonfgcmaaaaGreat
open Go.RowKit Go.ChangeShapes

set_option maxRecDepth 100000 in
/-- slices.SortFunc at no candidate. -/
theorem sortCands_none (o : Option Addr) (cap : Nat) (F : Value) (w : World) : Calls Tryz.prog 45 #[.slice o 0 cap, F] w fun e w' => e = .returned (.tuple #[]) ∧ w' = w := by
  have L : ∀ w, Calls Tryz.prog 78 #[.int .u64 0] w fun e w' => e = .returned (.int .i64 0) ∧ w' = w := fun w => by
    have h := Tryz.bits_Len 0 w (by omega) (by omega)
    have e : ((Lib.bitLen (0 : Int).toNat : Nat) : Int) = 0 := by decide
    rwa [e] at h
  have I : ∀ w, Calls Tryz.prog 113 #[.slice o 0 cap, .int .i64 0, .int .i64 0, F] w fun e w' => e = .returned (.tuple #[]) ∧ w' = w := fun w => by
    go_enter Tryz.func113, Tryz.ntmps113
    go_wp2
    go_loopw [8] (fun v wr => v = .int .i64 1 ∧ wr = w) (fun _ _ => 0)
    case atStart => exact ⟨rfl, rfl⟩
    case round =>
      obtain ⟨rfl, rfl⟩ := hrel
      go_wp2
      go_end0
      exact ⟨rfl, rfl⟩
  have P : ∀ w, Calls Tryz.prog 77 #[.slice o 0 cap, .int .i64 0, .int .i64 0, .int .i64 0, F] w fun e w' => e = .returned (.tuple #[]) ∧ w' = w := fun w => by
    go_enter Tryz.func77, Tryz.ntmps77
    go_wp2
    go_loopg [1, 2, 3, 10, 11] 0 (fun k s1 s2 s3 s8 s9 wr => s1 = .int .i64 0 ∧ s2 = .int .i64 0 ∧ s3 = .int .i64 0 ∧ s8 = .bool true ∧ s9 = .bool true ∧ wr = w)
    case atStart => exact ⟨rfl, rfl, rfl, rfl, rfl, rfl⟩
    case round =>
      obtain ⟨rfl, rfl, rfl, rfl, rfl, rfl⟩ := hrel
      go_wp2_with (go_at_call 113; refine (I _).mono ?_; rintro e w1 ⟨rfl, rfl⟩)
      (try simp only [Exit.inBlock, Exit.then]); refine bodyPost_ret (results_none rfl _ _ _) rfl ?_
      exact ⟨rfl, rfl⟩
  go_enter Tryz.func45, Tryz.ntmps45
  go_wp2_with (first
    | (go_at_call 78; refine (L _).mono ?_; rintro e w' ⟨rfl, rfl⟩)
    | (go_at_call 77; refine (P _).mono ?_; rintro e w' ⟨rfl, rfl⟩))
  go_end0
  exact ⟨rfl, rfl⟩
/-- The closure that compares a candidate's address with the route's next. -/
theorem closure44 (p q y : Int) (B : Nat) (w : World) (hB : B < w.heap.size) (hc : w.cell? ⟨B, 23, none⟩ = some (.int .u32 y)) :
    Calls Tryz.prog 44 #[.agg #[.int .u32 p, .int .i64 q], .pointer (some ⟨B, 0, none⟩)] w fun e w' => e = .returned (.bool (p == y)) ∧ Below w.heap.size w w' := by
  go_enter Tryz.func44, Tryz.ntmps44
  go_wp2
  go_ret
  exact ⟨rfl, (Below.refl _ _).alloc (Nat.le_refl _) _⟩
set_option maxRecDepth 100000 in
set_option maxHeartbeats 2000000 in
theorem index76_some (g off c B : Nat) (l : List (Int × Int)) (y : Int) (w : World) (hn : l.length ≤ 60) (hg : g < w.heap.size) (hB : B < w.heap.size) (h23 : w.cell? ⟨B, 23, none⟩ = some (.int .u32 y))
    (hc : ∀ j u, (candL l)[j]? = some u → w.cell? ⟨g, off + j, none⟩ = some u) :
    Calls Tryz.prog 76 #[.slice (some ⟨g, off, none⟩) l.length c, .func (.func 44) #[] #[.pointer (some ⟨B, 0, none⟩)]] w fun e w' => (∃ r : Int, e = .returned (.int .i64 r) ∧ (0 ≤ r ↔ ∃ c ∈ l, c.1 = y)) ∧ Below w.heap.size w w' := by
  obtain ⟨n, hnl⟩ : ∃ n, n = l.length := ⟨_, rfl⟩
  have NL := Lib.hid hnl
  have KC := Lib.hid hc
  have HB := Lib.hid hB
  have HG := Lib.hid hg
  have H23 := Lib.hid h23
  rw [← hnl] at hn ⊢
  clear hc hg hB h23 hnl
  go_enter Tryz.func76, Tryz.ntmps76
  go_wp2_with fail
  go_loopw [8] (fun i wr => ∃ k : Nat, k ≤ n ∧ i = .int .i64 k ∧ Hid (Below w.heap.size w wr) ∧ Hid (∀ j c, j < k → l[j]? = some c → c.1 ≠ y)) (fun i _ => n - (intOf i).toNat)
  case atStart => exact ⟨0, Nat.zero_le _, rfl, Below.refl _ _, fun j c hj => by omega⟩
  case round =>
    obtain ⟨k, hk, rfl, hbl, hno⟩ := hrel
    by_cases hlt : k < n
    · obtain ⟨⟨p, q⟩, hx⟩ : ∃ x, l[k]? = some x := ⟨_, List.getElem?_eq_getElem (by rw [← NL.out]; exact hlt)⟩
      have e0 : wr.cell? ⟨g, off + k * 2, none⟩ = some (.int .u32 p) := (hbl.out.cell (by exact HG.out)).trans (KC.out (k * 2) _ (candL_get hx).1)
      have e1 : wr.cell? ⟨g, off + k * 2 + 1, none⟩ = some (.int .i64 q) := (hbl.out.cell (by exact HG.out)).trans (KC.out (k * 2 + 1) _ (candL_get hx).2)
      have CL := Lib.hid (closure44 p q y B wr (Nat.lt_of_lt_of_le HB.out hbl.out.size) ((hbl.out.cell (by exact HB.out)).trans H23.out))
      have HX := Lib.hid hx
      have lt' : (k : Int) < n := by omega
      have h0' : (0 : Int) ≤ k := by omega
      clear hx
      by_cases h : p = y
      · rw [show (p == y) = true by simp [h]] at CL
        have HP := Lib.hid h
        clear h
        go_wp2_with (go_at_call 44; refine Calls.mono CL.out ?_; rintro e w1 ⟨rfl, q1⟩; replace q1 := Lib.hid q1)
        go_ret
        exact ⟨⟨_, rfl, ⟨fun _ => ⟨_, List.mem_of_getElem? HX.out, HP.out⟩, fun _ => by omega⟩⟩, hbl.out.trans (q1.out.mono hbl.out.size)⟩
      · rw [show (p == y) = false by simp [h]] at CL
        have HP := Lib.hid h
        clear h
        go_wp2_with (go_at_call 44; refine Calls.mono CL.out ?_; rintro e w1 ⟨rfl, q1⟩; replace q1 := Lib.hid q1)
        go_roundw
        case rel =>
          refine ⟨k + 1, by omega, by go_num, hbl.out.trans (q1.out.mono hbl.out.size), fun j c hj hc => ?_⟩
          rcases Nat.lt_or_ge j k with h | h
          · exact hno.out j c h hc
          · obtain rfl : j = k := by omega
            rw [HX.out] at hc
            cases hc
            exact HP.out
        case measure => simp [intOf]; omega
    · obtain rfl : k = n := by omega
      go_wp2_with fail
      go_ret
      refine ⟨⟨-1, rfl, ⟨fun h => by omega, fun ⟨c, hc, he⟩ => ?_⟩⟩, hbl.out⟩
      obtain ⟨j, hj⟩ := List.mem_iff_getElem?.1 hc
      exact absurd he (hno.out j c (by rw [NL.out]; exact (List.getElem?_eq_some_iff.1 hj).1) hj)
set_option maxRecDepth 100000 in
theorem index76_none (A : Option Addr) (c : Nat) (F : Value) (w : World) : Calls Tryz.prog 76 #[.slice A 0 c, F] w fun e w' => e = .returned (.int .i64 (-1)) ∧ w' = w := by
  go_enter Tryz.func76, Tryz.ntmps76
  go_wp2
  refine wp_loop_rounds 1 ?_
  rw [rounds_succ]
  go_wp2
  go_ret
  exact ⟨rfl, rfl⟩
/-- slices.ContainsFunc: is there a candidate with the address? -/
theorem contains43 (v : Value) (m B base : Nat) (l : List (Int × Int)) (y : Int) (w : World) (hn : l.length ≤ 60) (hv : w.ownsRow base 35 2 v m (candL l)) (hB : B < w.heap.size) (h23 : w.cell? ⟨B, 23, none⟩ = some (.int .u32 y)) :
    Calls Tryz.prog 43 #[v, .func (.func 44) #[] #[.pointer (some ⟨B, 0, none⟩)]] w fun e w' => e = .returned (.bool (l.any fun c => c.1 == y)) ∧ Below w.heap.size w w' := by
  have hm : m = l.length := by have := hv.1; rw [candL_len] at this; omega
  have IX : Calls Tryz.prog 76 #[v, .func (.func 44) #[] #[.pointer (some ⟨B, 0, none⟩)]] w fun e w' => (∃ r : Int, e = .returned (.int .i64 r) ∧ (0 ≤ r ↔ ∃ c ∈ l, c.1 = y)) ∧ Below w.heap.size w w' := by
    rcases hv.2 with ⟨rfl, hz⟩ | ⟨g, cap, cur, rfl, hg, hh, hnc, _⟩
    · have e0 : l = [] := List.eq_nil_of_length_eq_zero (by omega)
      refine (index76_none none 0 _ w).mono ?_
      rintro e w' ⟨rfl, rfl⟩
      exact ⟨⟨-1, rfl, by simp [e0]⟩, Below.refl _ _⟩
    · rw [hm]
      refine index76_some g 0 cap B l y w hn (hv.lt g rfl).2 hB h23 (fun j u hj => ?_)
      have hjl : j < l.length * 2 := by have := (List.getElem?_eq_some_iff.1 hj).1; rwa [candL_len] at this
      rw [hm] at hv
      rw [Nat.zero_add, hv.cellAt j hjl]; exact hj
  have IX := Lib.hid IX
  have sl : ∃ A n c, v = .slice A n c := by
    rcases hv.2 with ⟨rfl, hz⟩ | ⟨g, cap, cur, rfl, _⟩
    · exact ⟨_, _, _, rfl⟩
    · exact ⟨_, _, _, rfl⟩
  obtain ⟨A, n, c, rfl⟩ := sl
  have EB : Hid (∀ r : Int, (0 ≤ r ↔ ∃ c ∈ l, c.1 = y) → (l.any fun c => c.1 == y) = decide (0 ≤ r)) := fun r hr => by
    rw [Bool.eq_iff_iff, List.any_eq_true, decide_eq_true_eq, hr]
    simp
  generalize (l.any fun c => c.1 == y) = z at EB ⊢
  clear hv hm h23
  go_enter Tryz.func43, Tryz.ntmps43
  go_wp2_with (go_at_call 76; refine Calls.mono IX.out ?_; rintro e w1 ⟨⟨r, rfl, hr⟩, q1⟩; replace hr := Lib.hid hr; replace q1 := Lib.hid q1)
  go_ret
  refine ⟨?_, q1.out⟩
  rw [EB.out r hr.out]
  rfl
end Go.Proofs.YtiellonfgcmaaaaGreat

/- The program's candidates. -/
namespace Go.Proofs.YtiellonfgcmaaaaGreat
open Go.RowKit Go.ChangeShapes

theorem pelection_any (r : RT) (w : World) (hf : r.fine) (hl : r.lists w) :
    Calls Tryz.prog 42 #[.slice r.ma r.ml r.mc] w fun e w' => e = .returned (.tuple #[.int .i64 (rAlg r), .int .i64 (rPref r), .bool (rIs r)]) ∧ Below w.heap.size w w' :=
  election_any r.ma r.ml r.mc r.mx w (by have := hf.1.2.2; omega) hf.2.2.2.2 (comms_of_row hl.2.2) (by
    rcases hl.2.2 with ⟨h1, _⟩ | ⟨b, off, _, _, h3, _⟩
    · omega
    · exact h3)
theorem rPref_none {r : RT} (h : rIs r = false) : rPref r = 0 := by
  unfold rPref firstV
  unfold rIs at h
  cases he : firstE r.ml r.mx with
  | none => show prefV 0 = 0; decide +kernel
  | some k => rw [he] at h; cases h
/-- No two candidates with one address. -/
def Apart (l : List (Int × Int)) : Prop := l.Pairwise fun x y => x.1 ≠ y.1
theorem apart_snoc {l : List (Int × Int)} {x : Int × Int} (h : Apart l) (hx : ∀ c ∈ l, c.1 ≠ x.1) : Apart (l ++ [x]) :=
  List.pairwise_append.2 ⟨h, List.pairwise_cons.2 ⟨(fun _ h => by cases h), .nil⟩, fun a ha b hb => by rw [List.mem_singleton.1 hb]; exact hx a ha⟩
/-- What stands after some rounds. -/
def PIn (fs : List RT) (l : List (Int × Int)) (alg : Int) (agree : Bool) (k m : Nat) : Prop := Apart l ∧ Firsts l (pairs fs) ∧ AlgP (elecs fs) alg agree ∧ m = l.length ∧ m ≤ k
theorem pin_old {fs : List RT} {l : List (Int × Int)} {alg : Int} {agree : Bool} {k m : Nat} {r : RT} {a p : Int} {u : Bool} (h : PIn fs l alg agree k m) (ha : rAlg r = a) (hp : rPref r = p) (hu : rIs r = u) (h0 : 0 ≤ a)
    (hz : (l.any fun c => c.1 == r.g 23) = true) {alg' : Int} {agree' : Bool} (e1 : alg' = if alg = -1 then a else alg) (e2 : agree' = (agree && u && decide (a = if alg = -1 then a else alg))) : PIn (fs ++ [r]) l alg' agree' (k + 1) m := by
  obtain ⟨h1, h2, h3, h4, h5⟩ := h
  subst e1 e2
  have f1 : pairs (fs ++ [r]) = pairs fs ++ [(r.g 23, p)] := by simp [pairs, hp]
  have f2 : elecs (fs ++ [r]) = elecs fs ++ [(a, u)] := by simp [elecs, ha, hu]
  obtain ⟨c, hc, hce⟩ := List.any_eq_true.1 hz
  exact ⟨h1, by rw [f1]; exact firsts_old h2 _ ⟨c, hc, by simpa using hce⟩, by rw [f2]; exact algP_step h3 a u h0, h4, by omega⟩
theorem pin_new {fs : List RT} {l : List (Int × Int)} {alg : Int} {agree : Bool} {k m : Nat} {r : RT} {a p : Int} {u : Bool} (h : PIn fs l alg agree k m) (ha : rAlg r = a) (hp : rPref r = p) (hu : rIs r = u) (h0 : 0 ≤ a)
    (hz : (l.any fun c => c.1 == r.g 23) = false) {alg' : Int} {agree' : Bool} (e1 : alg' = if alg = -1 then a else alg) (e2 : agree' = (agree && u && decide (a = if alg = -1 then a else alg))) : PIn (fs ++ [r]) (l ++ [(r.g 23, p)]) alg' agree' (k + 1) (m + 1) := by
  obtain ⟨h1, h2, h3, h4, h5⟩ := h
  subst e1 e2
  have f1 : pairs (fs ++ [r]) = pairs fs ++ [(r.g 23, p)] := by simp [pairs, hp]
  have f2 : elecs (fs ++ [r]) = elecs fs ++ [(a, u)] := by simp [elecs, ha, hu]
  have hne : ∀ c ∈ l, c.1 ≠ r.g 23 := fun c hc => by have := List.any_eq_false.1 hz c hc; simpa using this
  exact ⟨apart_snoc h1 hne, by rw [f1]; exact firsts_new h2 _ hne (fun c => by simp), by rw [f2]; exact algP_step h3 a u h0, by simp [h4], by omega⟩

theorem holds_own {w : World} {base g cap : Nat} {l : List (Int × Int)} (h : w.ownsRow base 35 2 (.slice (some ⟨g, 0, none⟩) l.length cap) l.length (candL l)) : Sort.HoldsK encC 2 w g 0 l.toArray := fun t ht => by
  have ht' : t < l.length * 2 := by simpa using ht
  refine ⟨?_, by rw [Nat.zero_add]; exact h.frozenAt t⟩
  rw [Nat.zero_add, h.cellAt t ht']
  have hq : t / 2 < l.length := by omega
  have h1 := flat_at (i := t / 2) (j := t % 2) 2 (c := encC) (fun _ => rfl) (List.getElem?_eq_getElem hq) (by omega)
  rw [show t / 2 * 2 + t % 2 = t by omega] at h1
  rw [candL, h1, show id (Sort.flatK encC 2 l.toArray)[t]! = (Sort.flatK encC 2 l.toArray)[t]! from rfl, Sort.get_flatK _ _ _ t (by simpa using ht'), List.getElem!_toArray, getElem!_pos l (t / 2) hq]
  rcases (show t % 2 = 0 ∨ t % 2 = 1 by omega) with e | e <;> rw [e] <;> rfl
theorem row_holds {w : World} {g cap : Nat} {l : List (Int × Int)} (h : Sort.HoldsK encC 2 w g 0 l.toArray) (hg : g < w.heap.size) (hc : l.length ≤ cap) : Row w (some ⟨g, 0, none⟩) l.length cap 2 (candL l) := by
  refine .inr ⟨g, 0, rfl, hg, hc, candL_len l, fun t u hu => ?_⟩
  have ht' : t < l.length * 2 := by have := (List.getElem?_eq_some_iff.1 hu).1; rwa [candL_len] at this
  have hq : t / 2 < l.length := by omega
  have h1 := flat_at (i := t / 2) (j := t % 2) 2 (c := encC) (fun _ => rfl) (List.getElem?_eq_getElem hq) (by omega)
  rw [show t / 2 * 2 + t % 2 = t by omega] at h1
  rw [candL, h1] at hu
  have h2 := (h.cell (i := t / 2) (c := t % 2) (by simpa using hq) (by omega)).1
  rw [List.getElem!_toArray, getElem!_pos l (t / 2) hq, show 0 + t / 2 * 2 + t % 2 = 0 + t by omega] at h2
  rw [h2, ← hu]
  rcases (show t % 2 = 0 ∨ t % 2 = 1 by omega) with e | e <;> rw [e] <;> rfl
/-- The sorted candidates: the same ones, strictly ascending. -/
theorem sorted_cands {l : List (Int × Int)} {d : Array (Int × Int)} (hp : Sort.PermIn 0 l.toArray.size l.toArray d) (hs : Sort.SortedIn (Go.Proofs.ltOf fun x y : Int × Int => cmpI x.1 y.1) 0 l.toArray.size d) (ha : Apart l) : AscC d.toList ∧ (∀ c, c ∈ d.toList ↔ c ∈ l) ∧ d.toList.length = l.length := by
  have hsz : d.size = l.length := by simpa using hp.1
  have hperm : d.toList.Perm l := by
    have := hp.2.2
    simp only [List.size_toArray] at this
    rw [← hsz] at this
    simp at this
    rwa [hsz, List.take_length] at this
  refine ⟨?_, fun c => hperm.mem_iff, by simpa using hsz⟩
  have hap : d.toList.Pairwise fun x y => x.1 ≠ y.1 := hperm.symm.pairwise ha (fun h => Ne.symm h)
  refine List.pairwise_iff_getElem.2 fun i j hi hj hij => ?_
  have h1 := List.pairwise_iff_getElem.1 hap i j hi hj hij
  have h2 := hs i j (Nat.zero_le _) hij (by simp at hj ⊢; omega)
  rw [ltC, decide_eq_false_iff_not, getElem!_pos d i (by simpa using hi), getElem!_pos d j (by simpa using hj)] at h2
  simp only [Array.getElem_toList] at h1 ⊢
  omega
/-- Candidates that a value reads as, at no more than that. -/
def CandW (w : World) (v : Value) (l : List (Int × Int)) : Prop := ∃ A c, v = .slice A l.length c ∧ Row w A l.length c 2 (candL l)
theorem CandV.weak {w : World} {v : Value} {l : List (Int × Int)} (h : CandV w v l) : CandW w v l := by
  rcases h with ⟨rfl, rfl⟩ | ⟨g, off, c, rfl, _, h⟩
  · exact ⟨none, 0, rfl, .inl ⟨rfl, rfl⟩⟩
  · exact ⟨_, _, rfl, h⟩
theorem CandW.below {w w' : World} {v : Value} {l : List (Int × Int)} (h : CandW w v l) (hb : Below w.heap.size w w') : CandW w' v l := by
  obtain ⟨A, c, h1, h2⟩ := h
  exact ⟨A, c, h1, h2.below hb⟩
def PCandPost (w : World) (fs : List RT) (e : Ending) (w' : World) : Prop := ∃ v l alg agree, e = .returned (.tuple #[v, .int .i64 (algOf alg agree)]) ∧ CandW w' v l ∧ AscC l ∧ Firsts l (pairs fs) ∧ AlgP (elecs fs) alg agree ∧ l.length ≤ 60 ∧ Below w.heap.size w w'
set_option maxRecDepth 100000 in
set_option maxHeartbeats 4000000 in
theorem pcand_any (A : Option Addr) (c : Nat) (rs : List RT) (s : Nat → Int) (w : World) (hn : rs.length ≤ 60) (hf : ∀ r ∈ rs, r.fine ∧ r.lists w) (h : Routes w A rs) :
    Calls Tryz.prog 12 #[.slice A rs.length c, .agg (esiL s).toArray] w (PCandPost w (rs.filter (selR s))) := by
  obtain ⟨i0, hi, hz0, hz1, hz2⟩ := info_parts info35
  have RT0 := Lib.hid h
  have B0 : Hid (Below w.heap.size w (w.alloc (.cells (esiL s).toArray 24))) := (Below.refl _ _).alloc (Nat.le_refl _) _
  have BOX : (w.alloc (.cells (esiL s).toArray 24)).rangeAt w.heap.size 0 (esiL s) := range_new w (esiL s) 24
  have FL : (rs.filter (selR s)).length ≤ 60 := Nat.le_trans (List.length_filter_le _ _) hn
  obtain ⟨fs, hfs⟩ : ∃ fs, fs = rs.filter (selR s) := ⟨_, rfl⟩
  have HF : Hid (∀ r ∈ fs, r.fine ∧ r.lists w) := fun r hr => hf r (by rw [hfs] at hr; exact (List.mem_filter.1 hr).1)
  have OF := Lib.hid (fun W hR => of_any A c rs s W hn hR)
  rw [← hfs] at OF FL ⊢
  clear hfs h hf
  obtain ⟨n0, hnn⟩ : ∃ n, n = rs.length := ⟨_, rfl⟩
  rw [← hnn] at OF hn ⊢
  clear hnn
  go_enter Tryz.func12, Tryz.ntmps12
  go_wp2_with (first
    | ((with_reducible show wpList _ _ _ _ _ _); (refine wpList_load_mid rfl 24 (.tmp 3) rfl w.heap.size 0 rfl (esiL s) _ BOX Tryz.underlying24 rfl info24w ?_))
    | (go_at_call 41; fail))
  refine (OF.out _ (RT0.out.below B0.out)).mono ?_
  rintro e w1 ⟨v, rfl, hv, q1⟩
  obtain ⟨A1, c1, rfl, hR1⟩ := routes_of_row hv
  have b1 : Below w.heap.size w w1 := B0.out.trans (q1.mono B0.out.size)
  obtain ⟨n, hnl⟩ : ∃ n, n = fs.length := ⟨_, rfl⟩
  rw [← hnl] at FL ⊢
  have NL := Lib.hid hnl
  have B1 := Lib.hid b1
  have R1 := Lib.hid hR1
  have LS1 : Hid (∀ r ∈ fs, r.fine ∧ r.lists w1) := fun r hr => ⟨(HF.out r hr).1, (HF.out r hr).2.below b1⟩
  clear hv q1 hnl b1 hR1 BOX
  go_wp2_with fail
  go_loopw [6, 7, 8, 18] (fun v av bv iv wr => ∃ (k m : Nat) (l : List (Int × Int)) (alg : Int) (agree : Bool), k ≤ n ∧ iv = .int .i64 k ∧ av = .int .i64 alg ∧ bv = .bool agree ∧ Hid (wr.ownsRow w1.heap.size 35 2 v m (candL l)) ∧ Hid (PIn (fs.take k) l alg agree k m) ∧ Hid (Below w1.heap.size w1 wr)) (fun _ _ _ i _ => n - (intOf i).toNat)
  case atStart => exact ⟨0, 0, [], -1, true, Nat.zero_le _, rfl, rfl, rfl, World.ownsRow_nil _ _ _ _, ⟨.nil, firsts_nil, .inl ⟨rfl, rfl, rfl⟩, rfl, Nat.le_refl _⟩, Below.refl _ _⟩
  case round =>
    obtain ⟨k, m, l, alg, agree, hk, rfl, rfl, rfl, hown, hin, hbl⟩ := hrel
    by_cases hlt : k < n
    · obtain ⟨r, hr⟩ : ∃ r, fs[k]? = some r := ⟨_, List.getElem?_eq_getElem (by rw [← NL.out]; exact hlt)⟩
      have TS : Hid (fs.take (k + 1) = fs.take k ++ [r]) := take_snoc hr
      rcases R1.out with h0 | ⟨b, off, rfl, hl⟩
      · rw [h0] at hr; cases hr
      have hlt' : (k : Int) < n := by omega
      have h0' : (0 : Int) ≤ k := by omega
      have RG : wr.rangeAt b (off + k * 38) r.cells := fun j v hj => (hbl.out.cell (by exact hl.1)).trans (hl.2 k j r v hr hj)
      have FI := Lib.hid (LS1.out r (List.mem_of_getElem? hr)).1
      have LI := Lib.hid ((LS1.out r (List.mem_of_getElem? hr)).2.below hbl.out)
      have hm60 : m ≤ 60 := by have := hin.out.2.2.2.2; omega
      have hl60 : Hid (l.length ≤ 60) := by show _ ≤ _; rw [← hin.out.2.2.2.1]; exact hm60
      have m1 : m + 1 ≤ maxLen := by unfold maxLen; omega
      have m2 : (m + 1) * 16 ≤ 140737488355328 := by omega
      have sz := Lib.hid hbl.out.size
      obtain ⟨a, hA⟩ : ∃ a, rAlg r = a := ⟨_, rfl⟩
      obtain ⟨p, hP⟩ : ∃ p, rPref r = p := ⟨_, rfl⟩
      obtain ⟨u, hU⟩ : ∃ u, rIs r = u := ⟨_, rfl⟩
      have hP0 : Hid (u = false → p = 0) := fun h => by rw [← hP]; exact rPref_none (by rw [hU, h])
      obtain ⟨y, hY⟩ : ∃ y, r.g 23 = y := ⟨_, rfl⟩
      have ha0 : 0 ≤ a := by rw [← hA]; exact rAlg_nonneg FI.out
      have REL : Hid (∀ W, r.lists W → Calls Tryz.prog 42 #[.slice r.ma r.ml r.mc] W fun e w' => e = .returned (.tuple #[.int .i64 a, .int .i64 p, .bool u]) ∧ Below W.heap.size W w') := fun W hW => by
        rw [← hA, ← hP, ← hU]; exact pelection_any r W FI.out hW
      have HA := Lib.hid hA
      have HP := Lib.hid hP
      have HU := Lib.hid hU
      have HY := Lib.hid hY
      have CC : Hid (∀ W2, W2 = wr.alloc (.cells r.cells.toArray 58) → W2.cell? ⟨wr.heap.size, 23, none⟩ = some (.int .u32 y) ∧ W2.cell? ⟨wr.heap.size, 31, none⟩ = some (.slice r.ma r.ml r.mc) ∧ Below wr.heap.size wr W2 ∧ W2.heap.size = wr.heap.size + 1) := by
        rintro W2 rfl
        have g := range_new wr r.cells 58
        exact ⟨by rw [← hY]; exact g 23 _ rfl, g 31 _ rfl, (Below.refl _ _).alloc (Nat.le_refl _) _, by simp⟩
      have CON : Hid (∀ z, (l.any fun c => c.1 == y) = z → ∀ W, Below wr.heap.size wr W → wr.heap.size < W.heap.size → W.cell? ⟨wr.heap.size, 23, none⟩ = some (.int .u32 y) → Calls Tryz.prog 43 #[u6, .func (.func 44) #[] #[.pointer (some ⟨wr.heap.size, 0, none⟩)]] W fun e w' => e = .returned (.bool z) ∧ Below W.heap.size W w') := fun z hz W hW h1 h2 => by
        rw [← hz]; exact contains43 u6 m wr.heap.size w1.heap.size l y W hl60.out (ownsRow_below hown.out hW) h1 h2
      clear hA hP hU hr hl hY
      by_cases hal : alg = -1
      · subst hal
        cases u with
        | false =>
          cases agree with
          | false =>
            cases hz' : l.any fun c => c.1 == y with
            | true =>
              have hz := Lib.hid hz'
              clear hz'
              go_wp2_with (first
                | ((with_reducible show wpList _ _ _ _ _ _); first
                    | (refine wpList_load_mid rfl 58 (.tmp 20) rfl b (off + k * 38) rfl r.cells _ RG Tryz.underlying58 rfl info58w ?_)
                    | (refine wpList_store_new rfl rfl 58 (.tmp 10) (.tmp 21) rfl _ _ r.cells rfl rfl rfl rfl info58w r.one ?_
                       obtain ⟨c23, c31, b2, s2⟩ := CC.out _ rfl
                       generalize hW2 : wr.alloc (.cells r.cells.toArray 58) = W2 at c23 c31 b2 s2 ⊢
                       replace s2 := Lib.hid s2
                       clear hW2))
                | (go_at_call 42; refine (REL.out _ (LI.out.below b2)).mono ?_; rintro e w3 ⟨rfl, b3⟩
                   have b23 : Below wr.heap.size wr w3 := b2.trans (b3.mono b2.size)
                   have c23' : w3.cell? ⟨wr.heap.size, 23, none⟩ = some (.int .u32 y) := (b3.cell (by show wr.heap.size < _; rw [s2.out]; omega)).trans c23
                   have s3 : Hid (wr.heap.size < w3.heap.size) := by show _ < _; have := b3.size; have := s2.out; omega
                   replace b3 := Lib.hid b3
                   clear c23 c31)
                | (go_at_call 43; refine (CON.out true hz.out _ b23 s3.out c23').mono ?_; rintro e w4 ⟨rfl, b4⟩
                   have c23'' : w4.cell? ⟨wr.heap.size, 23, none⟩ = some (.int .u32 y) := (b4.cell (by exact s3.out)).trans c23'
                   have b24 : Below wr.heap.size wr w4 := b23.trans (b4.mono b23.size)
                   replace b4 := Lib.hid b4))
              exact ⟨⟨k + 1, m, l, a, _, by omega, by go_num, rfl, rfl, ownsRow_below hown.out b24, by show PIn _ _ _ _ _ _; rw [TS.out]; exact pin_old hin.out HA.out HP.out HU.out ha0 (by rw [HY.out]; exact hz.out) (by simp) (by simp), hbl.out.trans (b24.mono sz.out)⟩, by simp [intOf]; omega⟩
            | false =>
              have hz := Lib.hid hz'
              clear hz'
              go_wp2_with (first
                | ((with_reducible show wpList _ _ _ _ _ _); first
                    | (refine wpList_load_mid rfl 58 (.tmp 20) rfl b (off + k * 38) rfl r.cells _ RG Tryz.underlying58 rfl info58w ?_)
                    | (refine wpList_store_new rfl rfl 58 (.tmp 10) (.tmp 21) rfl _ _ r.cells rfl rfl rfl rfl info58w r.one ?_
                       obtain ⟨c23, c31, b2, s2⟩ := CC.out _ rfl
                       generalize hW2 : wr.alloc (.cells r.cells.toArray 58) = W2 at c23 c31 b2 s2 ⊢
                       replace s2 := Lib.hid s2
                       clear hW2)
                    | (at_builtin; refine wpList_append_own _ rfl (.tmp 48) (.tmp 54) 28 rfl w1.heap.size 35 i0 _ 2 16 Tryz.underlying28 hi hz0 hz1 hz2 rfl (by decide) u6 m _ rfl hown2 ⟨w4.heap.size, 0, none⟩ 1 1 [.int .u32 y, .int .i64 0] rfl rfl hnews two_one m1 m2 m4 ?_; intro v' w5 hown3 hgrow hnil))
                | (go_at_call 42; refine (REL.out _ (LI.out.below b2)).mono ?_; rintro e w3 ⟨rfl, b3⟩
                   have b23 : Below wr.heap.size wr w3 := b2.trans (b3.mono b2.size)
                   have c23' : w3.cell? ⟨wr.heap.size, 23, none⟩ = some (.int .u32 y) := (b3.cell (by show wr.heap.size < _; rw [s2.out]; omega)).trans c23
                   have s3 : Hid (wr.heap.size < w3.heap.size) := by show _ < _; have := b3.size; have := s2.out; omega
                   replace b3 := Lib.hid b3
                   clear c23 c31)
                | (go_at_call 43; refine (CON.out false hz.out _ b23 s3.out c23').mono ?_; rintro e w4 ⟨rfl, b4⟩
                   have c23'' : w4.cell? ⟨wr.heap.size, 23, none⟩ = some (.int .u32 y) := (b4.cell (by exact s3.out)).trans c23'
                   have b24 : Below wr.heap.size wr w4 := b23.trans (b4.mono b23.size)
                   have hown2 : (w4.alloc (.cells #[.int .u32 y, .int .i64 0] 35)).ownsRow w1.heap.size 35 2 u6 m (candL l) := (ownsRow_below hown.out b24).alloc _
                   have hnews : ∀ j u, ([.int .u32 y, .int .i64 0] : List Value)[j]? = some u → (w4.alloc (.cells #[.int .u32 y, .int .i64 0] 35)).cell? ((⟨w4.heap.size, 0, none⟩ : Addr).add j) = some u := fun j u hj => by rw [addr_add']; exact range_new w4 [.int .u32 y, .int .i64 0] 35 j u hj
                   have m4 : w1.heap.size ≤ (w4.alloc (.cells #[.int .u32 y, .int .i64 0] 35)).heap.size := by have := b24.size; have := sz.out; simp; omega
                   replace b4 := Lib.hid b4))
              have hp0 : p = 0 := by first | exact hP0.out rfl | exact hP0.out trivial
              exact ⟨⟨k + 1, m + 1, l ++ [(y, 0)], a, _, by omega, by go_num, rfl, rfl, by show World.ownsRow _ _ _ _ _ _ _; simpa [candL, encC] using hown3, by show PIn _ _ _ _ _ _; rw [TS.out, ← HY.out, ← hp0]; exact pin_new hin.out HA.out HP.out HU.out ha0 (by rw [HY.out]; exact hz.out) (by simp) (by simp), ((hbl.out.trans (b24.mono sz.out)).alloc (by have := b24.size; have := sz.out; omega) _).grown hgrow m4 (fun g hg => (hown.out.lt g hg).1)⟩, by simp [intOf]; omega⟩
          | true =>
            cases hz' : l.any fun c => c.1 == y with
            | true =>
              have hz := Lib.hid hz'
              clear hz'
              go_wp2_with (first
                | ((with_reducible show wpList _ _ _ _ _ _); first
                    | (refine wpList_load_mid rfl 58 (.tmp 20) rfl b (off + k * 38) rfl r.cells _ RG Tryz.underlying58 rfl info58w ?_)
                    | (refine wpList_store_new rfl rfl 58 (.tmp 10) (.tmp 21) rfl _ _ r.cells rfl rfl rfl rfl info58w r.one ?_
                       obtain ⟨c23, c31, b2, s2⟩ := CC.out _ rfl
                       generalize hW2 : wr.alloc (.cells r.cells.toArray 58) = W2 at c23 c31 b2 s2 ⊢
                       replace s2 := Lib.hid s2
                       clear hW2))
                | (go_at_call 42; refine (REL.out _ (LI.out.below b2)).mono ?_; rintro e w3 ⟨rfl, b3⟩
                   have b23 : Below wr.heap.size wr w3 := b2.trans (b3.mono b2.size)
                   have c23' : w3.cell? ⟨wr.heap.size, 23, none⟩ = some (.int .u32 y) := (b3.cell (by show wr.heap.size < _; rw [s2.out]; omega)).trans c23
                   have s3 : Hid (wr.heap.size < w3.heap.size) := by show _ < _; have := b3.size; have := s2.out; omega
                   replace b3 := Lib.hid b3
                   clear c23 c31)
                | (go_at_call 43; refine (CON.out true hz.out _ b23 s3.out c23').mono ?_; rintro e w4 ⟨rfl, b4⟩
                   have c23'' : w4.cell? ⟨wr.heap.size, 23, none⟩ = some (.int .u32 y) := (b4.cell (by exact s3.out)).trans c23'
                   have b24 : Below wr.heap.size wr w4 := b23.trans (b4.mono b23.size)
                   replace b4 := Lib.hid b4))
              exact ⟨⟨k + 1, m, l, a, _, by omega, by go_num, rfl, rfl, ownsRow_below hown.out b24, by show PIn _ _ _ _ _ _; rw [TS.out]; exact pin_old hin.out HA.out HP.out HU.out ha0 (by rw [HY.out]; exact hz.out) (by simp) (by simp), hbl.out.trans (b24.mono sz.out)⟩, by simp [intOf]; omega⟩
            | false =>
              have hz := Lib.hid hz'
              clear hz'
              go_wp2_with (first
                | ((with_reducible show wpList _ _ _ _ _ _); first
                    | (refine wpList_load_mid rfl 58 (.tmp 20) rfl b (off + k * 38) rfl r.cells _ RG Tryz.underlying58 rfl info58w ?_)
                    | (refine wpList_store_new rfl rfl 58 (.tmp 10) (.tmp 21) rfl _ _ r.cells rfl rfl rfl rfl info58w r.one ?_
                       obtain ⟨c23, c31, b2, s2⟩ := CC.out _ rfl
                       generalize hW2 : wr.alloc (.cells r.cells.toArray 58) = W2 at c23 c31 b2 s2 ⊢
                       replace s2 := Lib.hid s2
                       clear hW2)
                    | (at_builtin; refine wpList_append_own _ rfl (.tmp 48) (.tmp 54) 28 rfl w1.heap.size 35 i0 _ 2 16 Tryz.underlying28 hi hz0 hz1 hz2 rfl (by decide) u6 m _ rfl hown2 ⟨w4.heap.size, 0, none⟩ 1 1 [.int .u32 y, .int .i64 0] rfl rfl hnews two_one m1 m2 m4 ?_; intro v' w5 hown3 hgrow hnil))
                | (go_at_call 42; refine (REL.out _ (LI.out.below b2)).mono ?_; rintro e w3 ⟨rfl, b3⟩
                   have b23 : Below wr.heap.size wr w3 := b2.trans (b3.mono b2.size)
                   have c23' : w3.cell? ⟨wr.heap.size, 23, none⟩ = some (.int .u32 y) := (b3.cell (by show wr.heap.size < _; rw [s2.out]; omega)).trans c23
                   have s3 : Hid (wr.heap.size < w3.heap.size) := by show _ < _; have := b3.size; have := s2.out; omega
                   replace b3 := Lib.hid b3
                   clear c23 c31)
                | (go_at_call 43; refine (CON.out false hz.out _ b23 s3.out c23').mono ?_; rintro e w4 ⟨rfl, b4⟩
                   have c23'' : w4.cell? ⟨wr.heap.size, 23, none⟩ = some (.int .u32 y) := (b4.cell (by exact s3.out)).trans c23'
                   have b24 : Below wr.heap.size wr w4 := b23.trans (b4.mono b23.size)
                   have hown2 : (w4.alloc (.cells #[.int .u32 y, .int .i64 0] 35)).ownsRow w1.heap.size 35 2 u6 m (candL l) := (ownsRow_below hown.out b24).alloc _
                   have hnews : ∀ j u, ([.int .u32 y, .int .i64 0] : List Value)[j]? = some u → (w4.alloc (.cells #[.int .u32 y, .int .i64 0] 35)).cell? ((⟨w4.heap.size, 0, none⟩ : Addr).add j) = some u := fun j u hj => by rw [addr_add']; exact range_new w4 [.int .u32 y, .int .i64 0] 35 j u hj
                   have m4 : w1.heap.size ≤ (w4.alloc (.cells #[.int .u32 y, .int .i64 0] 35)).heap.size := by have := b24.size; have := sz.out; simp; omega
                   replace b4 := Lib.hid b4))
              have hp0 : p = 0 := by first | exact hP0.out rfl | exact hP0.out trivial
              exact ⟨⟨k + 1, m + 1, l ++ [(y, 0)], a, _, by omega, by go_num, rfl, rfl, by show World.ownsRow _ _ _ _ _ _ _; simpa [candL, encC] using hown3, by show PIn _ _ _ _ _ _; rw [TS.out, ← HY.out, ← hp0]; exact pin_new hin.out HA.out HP.out HU.out ha0 (by rw [HY.out]; exact hz.out) (by simp) (by simp), ((hbl.out.trans (b24.mono sz.out)).alloc (by have := b24.size; have := sz.out; omega) _).grown hgrow m4 (fun g hg => (hown.out.lt g hg).1)⟩, by simp [intOf]; omega⟩
        | true =>
          cases agree with
          | false =>
            cases hz' : l.any fun c => c.1 == y with
            | true =>
              have hz := Lib.hid hz'
              clear hz'
              go_wp2_with (first
                | ((with_reducible show wpList _ _ _ _ _ _); first
                    | (refine wpList_load_mid rfl 58 (.tmp 20) rfl b (off + k * 38) rfl r.cells _ RG Tryz.underlying58 rfl info58w ?_)
                    | (refine wpList_store_new rfl rfl 58 (.tmp 10) (.tmp 21) rfl _ _ r.cells rfl rfl rfl rfl info58w r.one ?_
                       obtain ⟨c23, c31, b2, s2⟩ := CC.out _ rfl
                       generalize hW2 : wr.alloc (.cells r.cells.toArray 58) = W2 at c23 c31 b2 s2 ⊢
                       replace s2 := Lib.hid s2
                       clear hW2))
                | (go_at_call 42; refine (REL.out _ (LI.out.below b2)).mono ?_; rintro e w3 ⟨rfl, b3⟩
                   have b23 : Below wr.heap.size wr w3 := b2.trans (b3.mono b2.size)
                   have c23' : w3.cell? ⟨wr.heap.size, 23, none⟩ = some (.int .u32 y) := (b3.cell (by show wr.heap.size < _; rw [s2.out]; omega)).trans c23
                   have s3 : Hid (wr.heap.size < w3.heap.size) := by show _ < _; have := b3.size; have := s2.out; omega
                   replace b3 := Lib.hid b3
                   clear c23 c31)
                | (go_at_call 43; refine (CON.out true hz.out _ b23 s3.out c23').mono ?_; rintro e w4 ⟨rfl, b4⟩
                   have c23'' : w4.cell? ⟨wr.heap.size, 23, none⟩ = some (.int .u32 y) := (b4.cell (by exact s3.out)).trans c23'
                   have b24 : Below wr.heap.size wr w4 := b23.trans (b4.mono b23.size)
                   replace b4 := Lib.hid b4))
              exact ⟨⟨k + 1, m, l, a, _, by omega, by go_num, rfl, rfl, ownsRow_below hown.out b24, by show PIn _ _ _ _ _ _; rw [TS.out]; exact pin_old hin.out HA.out HP.out HU.out ha0 (by rw [HY.out]; exact hz.out) (by simp) (by simp), hbl.out.trans (b24.mono sz.out)⟩, by simp [intOf]; omega⟩
            | false =>
              have hz := Lib.hid hz'
              clear hz'
              go_wp2_with (first
                | ((with_reducible show wpList _ _ _ _ _ _); first
                    | (refine wpList_load_mid rfl 58 (.tmp 20) rfl b (off + k * 38) rfl r.cells _ RG Tryz.underlying58 rfl info58w ?_)
                    | (refine wpList_store_new rfl rfl 58 (.tmp 10) (.tmp 21) rfl _ _ r.cells rfl rfl rfl rfl info58w r.one ?_
                       obtain ⟨c23, c31, b2, s2⟩ := CC.out _ rfl
                       generalize hW2 : wr.alloc (.cells r.cells.toArray 58) = W2 at c23 c31 b2 s2 ⊢
                       replace s2 := Lib.hid s2
                       clear hW2)
                    | (at_builtin; refine wpList_append_own _ rfl (.tmp 48) (.tmp 54) 28 rfl w1.heap.size 35 i0 _ 2 16 Tryz.underlying28 hi hz0 hz1 hz2 rfl (by decide) u6 m _ rfl hown2 ⟨w4.heap.size, 0, none⟩ 1 1 [.int .u32 y, .int .i64 p] rfl rfl hnews two_one m1 m2 m4 ?_; intro v' w5 hown3 hgrow hnil))
                | (go_at_call 42; refine (REL.out _ (LI.out.below b2)).mono ?_; rintro e w3 ⟨rfl, b3⟩
                   have b23 : Below wr.heap.size wr w3 := b2.trans (b3.mono b2.size)
                   have c23' : w3.cell? ⟨wr.heap.size, 23, none⟩ = some (.int .u32 y) := (b3.cell (by show wr.heap.size < _; rw [s2.out]; omega)).trans c23
                   have s3 : Hid (wr.heap.size < w3.heap.size) := by show _ < _; have := b3.size; have := s2.out; omega
                   replace b3 := Lib.hid b3
                   clear c23 c31)
                | (go_at_call 43; refine (CON.out false hz.out _ b23 s3.out c23').mono ?_; rintro e w4 ⟨rfl, b4⟩
                   have c23'' : w4.cell? ⟨wr.heap.size, 23, none⟩ = some (.int .u32 y) := (b4.cell (by exact s3.out)).trans c23'
                   have b24 : Below wr.heap.size wr w4 := b23.trans (b4.mono b23.size)
                   have hown2 : (w4.alloc (.cells #[.int .u32 y, .int .i64 p] 35)).ownsRow w1.heap.size 35 2 u6 m (candL l) := (ownsRow_below hown.out b24).alloc _
                   have hnews : ∀ j u, ([.int .u32 y, .int .i64 p] : List Value)[j]? = some u → (w4.alloc (.cells #[.int .u32 y, .int .i64 p] 35)).cell? ((⟨w4.heap.size, 0, none⟩ : Addr).add j) = some u := fun j u hj => by rw [addr_add']; exact range_new w4 [.int .u32 y, .int .i64 p] 35 j u hj
                   have m4 : w1.heap.size ≤ (w4.alloc (.cells #[.int .u32 y, .int .i64 p] 35)).heap.size := by have := b24.size; have := sz.out; simp; omega
                   replace b4 := Lib.hid b4))
              exact ⟨⟨k + 1, m + 1, l ++ [(y, p)], a, _, by omega, by go_num, rfl, rfl, by show World.ownsRow _ _ _ _ _ _ _; simpa [candL, encC] using hown3, by show PIn _ _ _ _ _ _; rw [TS.out, ← HY.out]; exact pin_new hin.out HA.out HP.out HU.out ha0 (by rw [HY.out]; exact hz.out) (by simp) (by simp), ((hbl.out.trans (b24.mono sz.out)).alloc (by have := b24.size; have := sz.out; omega) _).grown hgrow m4 (fun g hg => (hown.out.lt g hg).1)⟩, by simp [intOf]; omega⟩
          | true =>
            cases hz' : l.any fun c => c.1 == y with
            | true =>
              have hz := Lib.hid hz'
              clear hz'
              go_wp2_with (first
                | ((with_reducible show wpList _ _ _ _ _ _); first
                    | (refine wpList_load_mid rfl 58 (.tmp 20) rfl b (off + k * 38) rfl r.cells _ RG Tryz.underlying58 rfl info58w ?_)
                    | (refine wpList_store_new rfl rfl 58 (.tmp 10) (.tmp 21) rfl _ _ r.cells rfl rfl rfl rfl info58w r.one ?_
                       obtain ⟨c23, c31, b2, s2⟩ := CC.out _ rfl
                       generalize hW2 : wr.alloc (.cells r.cells.toArray 58) = W2 at c23 c31 b2 s2 ⊢
                       replace s2 := Lib.hid s2
                       clear hW2))
                | (go_at_call 42; refine (REL.out _ (LI.out.below b2)).mono ?_; rintro e w3 ⟨rfl, b3⟩
                   have b23 : Below wr.heap.size wr w3 := b2.trans (b3.mono b2.size)
                   have c23' : w3.cell? ⟨wr.heap.size, 23, none⟩ = some (.int .u32 y) := (b3.cell (by show wr.heap.size < _; rw [s2.out]; omega)).trans c23
                   have s3 : Hid (wr.heap.size < w3.heap.size) := by show _ < _; have := b3.size; have := s2.out; omega
                   replace b3 := Lib.hid b3
                   clear c23 c31)
                | (go_at_call 43; refine (CON.out true hz.out _ b23 s3.out c23').mono ?_; rintro e w4 ⟨rfl, b4⟩
                   have c23'' : w4.cell? ⟨wr.heap.size, 23, none⟩ = some (.int .u32 y) := (b4.cell (by exact s3.out)).trans c23'
                   have b24 : Below wr.heap.size wr w4 := b23.trans (b4.mono b23.size)
                   replace b4 := Lib.hid b4))
              exact ⟨⟨k + 1, m, l, a, _, by omega, by go_num, rfl, rfl, ownsRow_below hown.out b24, by show PIn _ _ _ _ _ _; rw [TS.out]; exact pin_old hin.out HA.out HP.out HU.out ha0 (by rw [HY.out]; exact hz.out) (by simp) (by simp), hbl.out.trans (b24.mono sz.out)⟩, by simp [intOf]; omega⟩
            | false =>
              have hz := Lib.hid hz'
              clear hz'
              go_wp2_with (first
                | ((with_reducible show wpList _ _ _ _ _ _); first
                    | (refine wpList_load_mid rfl 58 (.tmp 20) rfl b (off + k * 38) rfl r.cells _ RG Tryz.underlying58 rfl info58w ?_)
                    | (refine wpList_store_new rfl rfl 58 (.tmp 10) (.tmp 21) rfl _ _ r.cells rfl rfl rfl rfl info58w r.one ?_
                       obtain ⟨c23, c31, b2, s2⟩ := CC.out _ rfl
                       generalize hW2 : wr.alloc (.cells r.cells.toArray 58) = W2 at c23 c31 b2 s2 ⊢
                       replace s2 := Lib.hid s2
                       clear hW2)
                    | (at_builtin; refine wpList_append_own _ rfl (.tmp 48) (.tmp 54) 28 rfl w1.heap.size 35 i0 _ 2 16 Tryz.underlying28 hi hz0 hz1 hz2 rfl (by decide) u6 m _ rfl hown2 ⟨w4.heap.size, 0, none⟩ 1 1 [.int .u32 y, .int .i64 p] rfl rfl hnews two_one m1 m2 m4 ?_; intro v' w5 hown3 hgrow hnil))
                | (go_at_call 42; refine (REL.out _ (LI.out.below b2)).mono ?_; rintro e w3 ⟨rfl, b3⟩
                   have b23 : Below wr.heap.size wr w3 := b2.trans (b3.mono b2.size)
                   have c23' : w3.cell? ⟨wr.heap.size, 23, none⟩ = some (.int .u32 y) := (b3.cell (by show wr.heap.size < _; rw [s2.out]; omega)).trans c23
                   have s3 : Hid (wr.heap.size < w3.heap.size) := by show _ < _; have := b3.size; have := s2.out; omega
                   replace b3 := Lib.hid b3
                   clear c23 c31)
                | (go_at_call 43; refine (CON.out false hz.out _ b23 s3.out c23').mono ?_; rintro e w4 ⟨rfl, b4⟩
                   have c23'' : w4.cell? ⟨wr.heap.size, 23, none⟩ = some (.int .u32 y) := (b4.cell (by exact s3.out)).trans c23'
                   have b24 : Below wr.heap.size wr w4 := b23.trans (b4.mono b23.size)
                   have hown2 : (w4.alloc (.cells #[.int .u32 y, .int .i64 p] 35)).ownsRow w1.heap.size 35 2 u6 m (candL l) := (ownsRow_below hown.out b24).alloc _
                   have hnews : ∀ j u, ([.int .u32 y, .int .i64 p] : List Value)[j]? = some u → (w4.alloc (.cells #[.int .u32 y, .int .i64 p] 35)).cell? ((⟨w4.heap.size, 0, none⟩ : Addr).add j) = some u := fun j u hj => by rw [addr_add']; exact range_new w4 [.int .u32 y, .int .i64 p] 35 j u hj
                   have m4 : w1.heap.size ≤ (w4.alloc (.cells #[.int .u32 y, .int .i64 p] 35)).heap.size := by have := b24.size; have := sz.out; simp; omega
                   replace b4 := Lib.hid b4))
              exact ⟨⟨k + 1, m + 1, l ++ [(y, p)], a, _, by omega, by go_num, rfl, rfl, by show World.ownsRow _ _ _ _ _ _ _; simpa [candL, encC] using hown3, by show PIn _ _ _ _ _ _; rw [TS.out, ← HY.out]; exact pin_new hin.out HA.out HP.out HU.out ha0 (by rw [HY.out]; exact hz.out) (by simp) (by simp), ((hbl.out.trans (b24.mono sz.out)).alloc (by have := b24.size; have := sz.out; omega) _).grown hgrow m4 (fun g hg => (hown.out.lt g hg).1)⟩, by simp [intOf]; omega⟩
      · have hal' : (alg == -1) = false := by simpa using hal
        have HAL := Lib.hid hal
        clear hal
        cases u with
        | false =>
          cases agree with
          | false =>
            cases hz' : l.any fun c => c.1 == y with
            | true =>
              have hz := Lib.hid hz'
              clear hz'
              go_wp2_with (first
                | ((with_reducible show wpList _ _ _ _ _ _); first
                    | (refine wpList_load_mid rfl 58 (.tmp 20) rfl b (off + k * 38) rfl r.cells _ RG Tryz.underlying58 rfl info58w ?_)
                    | (refine wpList_store_new rfl rfl 58 (.tmp 10) (.tmp 21) rfl _ _ r.cells rfl rfl rfl rfl info58w r.one ?_
                       obtain ⟨c23, c31, b2, s2⟩ := CC.out _ rfl
                       generalize hW2 : wr.alloc (.cells r.cells.toArray 58) = W2 at c23 c31 b2 s2 ⊢
                       replace s2 := Lib.hid s2
                       clear hW2))
                | (go_at_call 42; refine (REL.out _ (LI.out.below b2)).mono ?_; rintro e w3 ⟨rfl, b3⟩
                   have b23 : Below wr.heap.size wr w3 := b2.trans (b3.mono b2.size)
                   have c23' : w3.cell? ⟨wr.heap.size, 23, none⟩ = some (.int .u32 y) := (b3.cell (by show wr.heap.size < _; rw [s2.out]; omega)).trans c23
                   have s3 : Hid (wr.heap.size < w3.heap.size) := by show _ < _; have := b3.size; have := s2.out; omega
                   replace b3 := Lib.hid b3
                   clear c23 c31)
                | (go_at_call 43; refine (CON.out true hz.out _ b23 s3.out c23').mono ?_; rintro e w4 ⟨rfl, b4⟩
                   have c23'' : w4.cell? ⟨wr.heap.size, 23, none⟩ = some (.int .u32 y) := (b4.cell (by exact s3.out)).trans c23'
                   have b24 : Below wr.heap.size wr w4 := b23.trans (b4.mono b23.size)
                   replace b4 := Lib.hid b4))
              exact ⟨⟨k + 1, m, l, alg, _, by omega, by go_num, rfl, rfl, ownsRow_below hown.out b24, by show PIn _ _ _ _ _ _; rw [TS.out]; exact pin_old hin.out HA.out HP.out HU.out ha0 (by rw [HY.out]; exact hz.out) (by rw [if_neg HAL.out]) (by simp), hbl.out.trans (b24.mono sz.out)⟩, by simp [intOf]; omega⟩
            | false =>
              have hz := Lib.hid hz'
              clear hz'
              go_wp2_with (first
                | ((with_reducible show wpList _ _ _ _ _ _); first
                    | (refine wpList_load_mid rfl 58 (.tmp 20) rfl b (off + k * 38) rfl r.cells _ RG Tryz.underlying58 rfl info58w ?_)
                    | (refine wpList_store_new rfl rfl 58 (.tmp 10) (.tmp 21) rfl _ _ r.cells rfl rfl rfl rfl info58w r.one ?_
                       obtain ⟨c23, c31, b2, s2⟩ := CC.out _ rfl
                       generalize hW2 : wr.alloc (.cells r.cells.toArray 58) = W2 at c23 c31 b2 s2 ⊢
                       replace s2 := Lib.hid s2
                       clear hW2)
                    | (at_builtin; refine wpList_append_own _ rfl (.tmp 48) (.tmp 54) 28 rfl w1.heap.size 35 i0 _ 2 16 Tryz.underlying28 hi hz0 hz1 hz2 rfl (by decide) u6 m _ rfl hown2 ⟨w4.heap.size, 0, none⟩ 1 1 [.int .u32 y, .int .i64 0] rfl rfl hnews two_one m1 m2 m4 ?_; intro v' w5 hown3 hgrow hnil))
                | (go_at_call 42; refine (REL.out _ (LI.out.below b2)).mono ?_; rintro e w3 ⟨rfl, b3⟩
                   have b23 : Below wr.heap.size wr w3 := b2.trans (b3.mono b2.size)
                   have c23' : w3.cell? ⟨wr.heap.size, 23, none⟩ = some (.int .u32 y) := (b3.cell (by show wr.heap.size < _; rw [s2.out]; omega)).trans c23
                   have s3 : Hid (wr.heap.size < w3.heap.size) := by show _ < _; have := b3.size; have := s2.out; omega
                   replace b3 := Lib.hid b3
                   clear c23 c31)
                | (go_at_call 43; refine (CON.out false hz.out _ b23 s3.out c23').mono ?_; rintro e w4 ⟨rfl, b4⟩
                   have c23'' : w4.cell? ⟨wr.heap.size, 23, none⟩ = some (.int .u32 y) := (b4.cell (by exact s3.out)).trans c23'
                   have b24 : Below wr.heap.size wr w4 := b23.trans (b4.mono b23.size)
                   have hown2 : (w4.alloc (.cells #[.int .u32 y, .int .i64 0] 35)).ownsRow w1.heap.size 35 2 u6 m (candL l) := (ownsRow_below hown.out b24).alloc _
                   have hnews : ∀ j u, ([.int .u32 y, .int .i64 0] : List Value)[j]? = some u → (w4.alloc (.cells #[.int .u32 y, .int .i64 0] 35)).cell? ((⟨w4.heap.size, 0, none⟩ : Addr).add j) = some u := fun j u hj => by rw [addr_add']; exact range_new w4 [.int .u32 y, .int .i64 0] 35 j u hj
                   have m4 : w1.heap.size ≤ (w4.alloc (.cells #[.int .u32 y, .int .i64 0] 35)).heap.size := by have := b24.size; have := sz.out; simp; omega
                   replace b4 := Lib.hid b4))
              have hp0 : p = 0 := by first | exact hP0.out rfl | exact hP0.out trivial
              exact ⟨⟨k + 1, m + 1, l ++ [(y, 0)], alg, _, by omega, by go_num, rfl, rfl, by show World.ownsRow _ _ _ _ _ _ _; simpa [candL, encC] using hown3, by show PIn _ _ _ _ _ _; rw [TS.out, ← HY.out, ← hp0]; exact pin_new hin.out HA.out HP.out HU.out ha0 (by rw [HY.out]; exact hz.out) (by rw [if_neg HAL.out]) (by simp), ((hbl.out.trans (b24.mono sz.out)).alloc (by have := b24.size; have := sz.out; omega) _).grown hgrow m4 (fun g hg => (hown.out.lt g hg).1)⟩, by simp [intOf]; omega⟩
          | true =>
            cases hz' : l.any fun c => c.1 == y with
            | true =>
              have hz := Lib.hid hz'
              clear hz'
              go_wp2_with (first
                | ((with_reducible show wpList _ _ _ _ _ _); first
                    | (refine wpList_load_mid rfl 58 (.tmp 20) rfl b (off + k * 38) rfl r.cells _ RG Tryz.underlying58 rfl info58w ?_)
                    | (refine wpList_store_new rfl rfl 58 (.tmp 10) (.tmp 21) rfl _ _ r.cells rfl rfl rfl rfl info58w r.one ?_
                       obtain ⟨c23, c31, b2, s2⟩ := CC.out _ rfl
                       generalize hW2 : wr.alloc (.cells r.cells.toArray 58) = W2 at c23 c31 b2 s2 ⊢
                       replace s2 := Lib.hid s2
                       clear hW2))
                | (go_at_call 42; refine (REL.out _ (LI.out.below b2)).mono ?_; rintro e w3 ⟨rfl, b3⟩
                   have b23 : Below wr.heap.size wr w3 := b2.trans (b3.mono b2.size)
                   have c23' : w3.cell? ⟨wr.heap.size, 23, none⟩ = some (.int .u32 y) := (b3.cell (by show wr.heap.size < _; rw [s2.out]; omega)).trans c23
                   have s3 : Hid (wr.heap.size < w3.heap.size) := by show _ < _; have := b3.size; have := s2.out; omega
                   replace b3 := Lib.hid b3
                   clear c23 c31)
                | (go_at_call 43; refine (CON.out true hz.out _ b23 s3.out c23').mono ?_; rintro e w4 ⟨rfl, b4⟩
                   have c23'' : w4.cell? ⟨wr.heap.size, 23, none⟩ = some (.int .u32 y) := (b4.cell (by exact s3.out)).trans c23'
                   have b24 : Below wr.heap.size wr w4 := b23.trans (b4.mono b23.size)
                   replace b4 := Lib.hid b4))
              exact ⟨⟨k + 1, m, l, alg, _, by omega, by go_num, rfl, rfl, ownsRow_below hown.out b24, by show PIn _ _ _ _ _ _; rw [TS.out]; exact pin_old hin.out HA.out HP.out HU.out ha0 (by rw [HY.out]; exact hz.out) (by rw [if_neg HAL.out]) (by simp), hbl.out.trans (b24.mono sz.out)⟩, by simp [intOf]; omega⟩
            | false =>
              have hz := Lib.hid hz'
              clear hz'
              go_wp2_with (first
                | ((with_reducible show wpList _ _ _ _ _ _); first
                    | (refine wpList_load_mid rfl 58 (.tmp 20) rfl b (off + k * 38) rfl r.cells _ RG Tryz.underlying58 rfl info58w ?_)
                    | (refine wpList_store_new rfl rfl 58 (.tmp 10) (.tmp 21) rfl _ _ r.cells rfl rfl rfl rfl info58w r.one ?_
                       obtain ⟨c23, c31, b2, s2⟩ := CC.out _ rfl
                       generalize hW2 : wr.alloc (.cells r.cells.toArray 58) = W2 at c23 c31 b2 s2 ⊢
                       replace s2 := Lib.hid s2
                       clear hW2)
                    | (at_builtin; refine wpList_append_own _ rfl (.tmp 48) (.tmp 54) 28 rfl w1.heap.size 35 i0 _ 2 16 Tryz.underlying28 hi hz0 hz1 hz2 rfl (by decide) u6 m _ rfl hown2 ⟨w4.heap.size, 0, none⟩ 1 1 [.int .u32 y, .int .i64 0] rfl rfl hnews two_one m1 m2 m4 ?_; intro v' w5 hown3 hgrow hnil))
                | (go_at_call 42; refine (REL.out _ (LI.out.below b2)).mono ?_; rintro e w3 ⟨rfl, b3⟩
                   have b23 : Below wr.heap.size wr w3 := b2.trans (b3.mono b2.size)
                   have c23' : w3.cell? ⟨wr.heap.size, 23, none⟩ = some (.int .u32 y) := (b3.cell (by show wr.heap.size < _; rw [s2.out]; omega)).trans c23
                   have s3 : Hid (wr.heap.size < w3.heap.size) := by show _ < _; have := b3.size; have := s2.out; omega
                   replace b3 := Lib.hid b3
                   clear c23 c31)
                | (go_at_call 43; refine (CON.out false hz.out _ b23 s3.out c23').mono ?_; rintro e w4 ⟨rfl, b4⟩
                   have c23'' : w4.cell? ⟨wr.heap.size, 23, none⟩ = some (.int .u32 y) := (b4.cell (by exact s3.out)).trans c23'
                   have b24 : Below wr.heap.size wr w4 := b23.trans (b4.mono b23.size)
                   have hown2 : (w4.alloc (.cells #[.int .u32 y, .int .i64 0] 35)).ownsRow w1.heap.size 35 2 u6 m (candL l) := (ownsRow_below hown.out b24).alloc _
                   have hnews : ∀ j u, ([.int .u32 y, .int .i64 0] : List Value)[j]? = some u → (w4.alloc (.cells #[.int .u32 y, .int .i64 0] 35)).cell? ((⟨w4.heap.size, 0, none⟩ : Addr).add j) = some u := fun j u hj => by rw [addr_add']; exact range_new w4 [.int .u32 y, .int .i64 0] 35 j u hj
                   have m4 : w1.heap.size ≤ (w4.alloc (.cells #[.int .u32 y, .int .i64 0] 35)).heap.size := by have := b24.size; have := sz.out; simp; omega
                   replace b4 := Lib.hid b4))
              have hp0 : p = 0 := by first | exact hP0.out rfl | exact hP0.out trivial
              exact ⟨⟨k + 1, m + 1, l ++ [(y, 0)], alg, _, by omega, by go_num, rfl, rfl, by show World.ownsRow _ _ _ _ _ _ _; simpa [candL, encC] using hown3, by show PIn _ _ _ _ _ _; rw [TS.out, ← HY.out, ← hp0]; exact pin_new hin.out HA.out HP.out HU.out ha0 (by rw [HY.out]; exact hz.out) (by rw [if_neg HAL.out]) (by simp), ((hbl.out.trans (b24.mono sz.out)).alloc (by have := b24.size; have := sz.out; omega) _).grown hgrow m4 (fun g hg => (hown.out.lt g hg).1)⟩, by simp [intOf]; omega⟩
        | true =>
          cases agree with
          | false =>
            cases hz' : l.any fun c => c.1 == y with
            | true =>
              have hz := Lib.hid hz'
              clear hz'
              go_wp2_with (first
                | ((with_reducible show wpList _ _ _ _ _ _); first
                    | (refine wpList_load_mid rfl 58 (.tmp 20) rfl b (off + k * 38) rfl r.cells _ RG Tryz.underlying58 rfl info58w ?_)
                    | (refine wpList_store_new rfl rfl 58 (.tmp 10) (.tmp 21) rfl _ _ r.cells rfl rfl rfl rfl info58w r.one ?_
                       obtain ⟨c23, c31, b2, s2⟩ := CC.out _ rfl
                       generalize hW2 : wr.alloc (.cells r.cells.toArray 58) = W2 at c23 c31 b2 s2 ⊢
                       replace s2 := Lib.hid s2
                       clear hW2))
                | (go_at_call 42; refine (REL.out _ (LI.out.below b2)).mono ?_; rintro e w3 ⟨rfl, b3⟩
                   have b23 : Below wr.heap.size wr w3 := b2.trans (b3.mono b2.size)
                   have c23' : w3.cell? ⟨wr.heap.size, 23, none⟩ = some (.int .u32 y) := (b3.cell (by show wr.heap.size < _; rw [s2.out]; omega)).trans c23
                   have s3 : Hid (wr.heap.size < w3.heap.size) := by show _ < _; have := b3.size; have := s2.out; omega
                   replace b3 := Lib.hid b3
                   clear c23 c31)
                | (go_at_call 43; refine (CON.out true hz.out _ b23 s3.out c23').mono ?_; rintro e w4 ⟨rfl, b4⟩
                   have c23'' : w4.cell? ⟨wr.heap.size, 23, none⟩ = some (.int .u32 y) := (b4.cell (by exact s3.out)).trans c23'
                   have b24 : Below wr.heap.size wr w4 := b23.trans (b4.mono b23.size)
                   replace b4 := Lib.hid b4))
              exact ⟨⟨k + 1, m, l, alg, _, by omega, by go_num, rfl, rfl, ownsRow_below hown.out b24, by show PIn _ _ _ _ _ _; rw [TS.out]; exact pin_old hin.out HA.out HP.out HU.out ha0 (by rw [HY.out]; exact hz.out) (by rw [if_neg HAL.out]) (by simp), hbl.out.trans (b24.mono sz.out)⟩, by simp [intOf]; omega⟩
            | false =>
              have hz := Lib.hid hz'
              clear hz'
              go_wp2_with (first
                | ((with_reducible show wpList _ _ _ _ _ _); first
                    | (refine wpList_load_mid rfl 58 (.tmp 20) rfl b (off + k * 38) rfl r.cells _ RG Tryz.underlying58 rfl info58w ?_)
                    | (refine wpList_store_new rfl rfl 58 (.tmp 10) (.tmp 21) rfl _ _ r.cells rfl rfl rfl rfl info58w r.one ?_
                       obtain ⟨c23, c31, b2, s2⟩ := CC.out _ rfl
                       generalize hW2 : wr.alloc (.cells r.cells.toArray 58) = W2 at c23 c31 b2 s2 ⊢
                       replace s2 := Lib.hid s2
                       clear hW2)
                    | (at_builtin; refine wpList_append_own _ rfl (.tmp 48) (.tmp 54) 28 rfl w1.heap.size 35 i0 _ 2 16 Tryz.underlying28 hi hz0 hz1 hz2 rfl (by decide) u6 m _ rfl hown2 ⟨w4.heap.size, 0, none⟩ 1 1 [.int .u32 y, .int .i64 p] rfl rfl hnews two_one m1 m2 m4 ?_; intro v' w5 hown3 hgrow hnil))
                | (go_at_call 42; refine (REL.out _ (LI.out.below b2)).mono ?_; rintro e w3 ⟨rfl, b3⟩
                   have b23 : Below wr.heap.size wr w3 := b2.trans (b3.mono b2.size)
                   have c23' : w3.cell? ⟨wr.heap.size, 23, none⟩ = some (.int .u32 y) := (b3.cell (by show wr.heap.size < _; rw [s2.out]; omega)).trans c23
                   have s3 : Hid (wr.heap.size < w3.heap.size) := by show _ < _; have := b3.size; have := s2.out; omega
                   replace b3 := Lib.hid b3
                   clear c23 c31)
                | (go_at_call 43; refine (CON.out false hz.out _ b23 s3.out c23').mono ?_; rintro e w4 ⟨rfl, b4⟩
                   have c23'' : w4.cell? ⟨wr.heap.size, 23, none⟩ = some (.int .u32 y) := (b4.cell (by exact s3.out)).trans c23'
                   have b24 : Below wr.heap.size wr w4 := b23.trans (b4.mono b23.size)
                   have hown2 : (w4.alloc (.cells #[.int .u32 y, .int .i64 p] 35)).ownsRow w1.heap.size 35 2 u6 m (candL l) := (ownsRow_below hown.out b24).alloc _
                   have hnews : ∀ j u, ([.int .u32 y, .int .i64 p] : List Value)[j]? = some u → (w4.alloc (.cells #[.int .u32 y, .int .i64 p] 35)).cell? ((⟨w4.heap.size, 0, none⟩ : Addr).add j) = some u := fun j u hj => by rw [addr_add']; exact range_new w4 [.int .u32 y, .int .i64 p] 35 j u hj
                   have m4 : w1.heap.size ≤ (w4.alloc (.cells #[.int .u32 y, .int .i64 p] 35)).heap.size := by have := b24.size; have := sz.out; simp; omega
                   replace b4 := Lib.hid b4))
              exact ⟨⟨k + 1, m + 1, l ++ [(y, p)], alg, _, by omega, by go_num, rfl, rfl, by show World.ownsRow _ _ _ _ _ _ _; simpa [candL, encC] using hown3, by show PIn _ _ _ _ _ _; rw [TS.out, ← HY.out]; exact pin_new hin.out HA.out HP.out HU.out ha0 (by rw [HY.out]; exact hz.out) (by rw [if_neg HAL.out]) (by simp), ((hbl.out.trans (b24.mono sz.out)).alloc (by have := b24.size; have := sz.out; omega) _).grown hgrow m4 (fun g hg => (hown.out.lt g hg).1)⟩, by simp [intOf]; omega⟩
          | true =>
            by_cases hne : a = alg
            · have hne' : (a == alg) = true := by simpa using hne
              have HNE := Lib.hid hne
              clear hne
              cases hz' : l.any fun c => c.1 == y with
              | true =>
                have hz := Lib.hid hz'
                clear hz'
                go_wp2_with (first
                  | ((with_reducible show wpList _ _ _ _ _ _); first
                      | (refine wpList_load_mid rfl 58 (.tmp 20) rfl b (off + k * 38) rfl r.cells _ RG Tryz.underlying58 rfl info58w ?_)
                      | (refine wpList_store_new rfl rfl 58 (.tmp 10) (.tmp 21) rfl _ _ r.cells rfl rfl rfl rfl info58w r.one ?_
                         obtain ⟨c23, c31, b2, s2⟩ := CC.out _ rfl
                         generalize hW2 : wr.alloc (.cells r.cells.toArray 58) = W2 at c23 c31 b2 s2 ⊢
                         replace s2 := Lib.hid s2
                         clear hW2))
                  | (go_at_call 42; refine (REL.out _ (LI.out.below b2)).mono ?_; rintro e w3 ⟨rfl, b3⟩
                     have b23 : Below wr.heap.size wr w3 := b2.trans (b3.mono b2.size)
                     have c23' : w3.cell? ⟨wr.heap.size, 23, none⟩ = some (.int .u32 y) := (b3.cell (by show wr.heap.size < _; rw [s2.out]; omega)).trans c23
                     have s3 : Hid (wr.heap.size < w3.heap.size) := by show _ < _; have := b3.size; have := s2.out; omega
                     replace b3 := Lib.hid b3
                     clear c23 c31)
                  | (go_at_call 43; refine (CON.out true hz.out _ b23 s3.out c23').mono ?_; rintro e w4 ⟨rfl, b4⟩
                     have c23'' : w4.cell? ⟨wr.heap.size, 23, none⟩ = some (.int .u32 y) := (b4.cell (by exact s3.out)).trans c23'
                     have b24 : Below wr.heap.size wr w4 := b23.trans (b4.mono b23.size)
                     replace b4 := Lib.hid b4))
                exact ⟨⟨k + 1, m, l, alg, _, by omega, by go_num, rfl, rfl, ownsRow_below hown.out b24, by show PIn _ _ _ _ _ _; rw [TS.out]; exact pin_old hin.out HA.out HP.out HU.out ha0 (by rw [HY.out]; exact hz.out) (by rw [if_neg HAL.out]) (by rw [if_neg HAL.out]; simp [HNE.out]), hbl.out.trans (b24.mono sz.out)⟩, by simp [intOf]; omega⟩
              | false =>
                have hz := Lib.hid hz'
                clear hz'
                go_wp2_with (first
                  | ((with_reducible show wpList _ _ _ _ _ _); first
                      | (refine wpList_load_mid rfl 58 (.tmp 20) rfl b (off + k * 38) rfl r.cells _ RG Tryz.underlying58 rfl info58w ?_)
                      | (refine wpList_store_new rfl rfl 58 (.tmp 10) (.tmp 21) rfl _ _ r.cells rfl rfl rfl rfl info58w r.one ?_
                         obtain ⟨c23, c31, b2, s2⟩ := CC.out _ rfl
                         generalize hW2 : wr.alloc (.cells r.cells.toArray 58) = W2 at c23 c31 b2 s2 ⊢
                         replace s2 := Lib.hid s2
                         clear hW2)
                      | (at_builtin; refine wpList_append_own _ rfl (.tmp 48) (.tmp 54) 28 rfl w1.heap.size 35 i0 _ 2 16 Tryz.underlying28 hi hz0 hz1 hz2 rfl (by decide) u6 m _ rfl hown2 ⟨w4.heap.size, 0, none⟩ 1 1 [.int .u32 y, .int .i64 p] rfl rfl hnews two_one m1 m2 m4 ?_; intro v' w5 hown3 hgrow hnil))
                  | (go_at_call 42; refine (REL.out _ (LI.out.below b2)).mono ?_; rintro e w3 ⟨rfl, b3⟩
                     have b23 : Below wr.heap.size wr w3 := b2.trans (b3.mono b2.size)
                     have c23' : w3.cell? ⟨wr.heap.size, 23, none⟩ = some (.int .u32 y) := (b3.cell (by show wr.heap.size < _; rw [s2.out]; omega)).trans c23
                     have s3 : Hid (wr.heap.size < w3.heap.size) := by show _ < _; have := b3.size; have := s2.out; omega
                     replace b3 := Lib.hid b3
                     clear c23 c31)
                  | (go_at_call 43; refine (CON.out false hz.out _ b23 s3.out c23').mono ?_; rintro e w4 ⟨rfl, b4⟩
                     have c23'' : w4.cell? ⟨wr.heap.size, 23, none⟩ = some (.int .u32 y) := (b4.cell (by exact s3.out)).trans c23'
                     have b24 : Below wr.heap.size wr w4 := b23.trans (b4.mono b23.size)
                     have hown2 : (w4.alloc (.cells #[.int .u32 y, .int .i64 p] 35)).ownsRow w1.heap.size 35 2 u6 m (candL l) := (ownsRow_below hown.out b24).alloc _
                     have hnews : ∀ j u, ([.int .u32 y, .int .i64 p] : List Value)[j]? = some u → (w4.alloc (.cells #[.int .u32 y, .int .i64 p] 35)).cell? ((⟨w4.heap.size, 0, none⟩ : Addr).add j) = some u := fun j u hj => by rw [addr_add']; exact range_new w4 [.int .u32 y, .int .i64 p] 35 j u hj
                     have m4 : w1.heap.size ≤ (w4.alloc (.cells #[.int .u32 y, .int .i64 p] 35)).heap.size := by have := b24.size; have := sz.out; simp; omega
                     replace b4 := Lib.hid b4))
                exact ⟨⟨k + 1, m + 1, l ++ [(y, p)], alg, _, by omega, by go_num, rfl, rfl, by show World.ownsRow _ _ _ _ _ _ _; simpa [candL, encC] using hown3, by show PIn _ _ _ _ _ _; rw [TS.out, ← HY.out]; exact pin_new hin.out HA.out HP.out HU.out ha0 (by rw [HY.out]; exact hz.out) (by rw [if_neg HAL.out]) (by rw [if_neg HAL.out]; simp [HNE.out]), ((hbl.out.trans (b24.mono sz.out)).alloc (by have := b24.size; have := sz.out; omega) _).grown hgrow m4 (fun g hg => (hown.out.lt g hg).1)⟩, by simp [intOf]; omega⟩
            · have hne' : (a == alg) = false := by simpa using hne
              have HNE := Lib.hid hne
              clear hne
              cases hz' : l.any fun c => c.1 == y with
              | true =>
                have hz := Lib.hid hz'
                clear hz'
                go_wp2_with (first
                  | ((with_reducible show wpList _ _ _ _ _ _); first
                      | (refine wpList_load_mid rfl 58 (.tmp 20) rfl b (off + k * 38) rfl r.cells _ RG Tryz.underlying58 rfl info58w ?_)
                      | (refine wpList_store_new rfl rfl 58 (.tmp 10) (.tmp 21) rfl _ _ r.cells rfl rfl rfl rfl info58w r.one ?_
                         obtain ⟨c23, c31, b2, s2⟩ := CC.out _ rfl
                         generalize hW2 : wr.alloc (.cells r.cells.toArray 58) = W2 at c23 c31 b2 s2 ⊢
                         replace s2 := Lib.hid s2
                         clear hW2))
                  | (go_at_call 42; refine (REL.out _ (LI.out.below b2)).mono ?_; rintro e w3 ⟨rfl, b3⟩
                     have b23 : Below wr.heap.size wr w3 := b2.trans (b3.mono b2.size)
                     have c23' : w3.cell? ⟨wr.heap.size, 23, none⟩ = some (.int .u32 y) := (b3.cell (by show wr.heap.size < _; rw [s2.out]; omega)).trans c23
                     have s3 : Hid (wr.heap.size < w3.heap.size) := by show _ < _; have := b3.size; have := s2.out; omega
                     replace b3 := Lib.hid b3
                     clear c23 c31)
                  | (go_at_call 43; refine (CON.out true hz.out _ b23 s3.out c23').mono ?_; rintro e w4 ⟨rfl, b4⟩
                     have c23'' : w4.cell? ⟨wr.heap.size, 23, none⟩ = some (.int .u32 y) := (b4.cell (by exact s3.out)).trans c23'
                     have b24 : Below wr.heap.size wr w4 := b23.trans (b4.mono b23.size)
                     replace b4 := Lib.hid b4))
                exact ⟨⟨k + 1, m, l, alg, _, by omega, by go_num, rfl, rfl, ownsRow_below hown.out b24, by show PIn _ _ _ _ _ _; rw [TS.out]; exact pin_old hin.out HA.out HP.out HU.out ha0 (by rw [HY.out]; exact hz.out) (by rw [if_neg HAL.out]) (by rw [if_neg HAL.out]; simp [HNE.out]), hbl.out.trans (b24.mono sz.out)⟩, by simp [intOf]; omega⟩
              | false =>
                have hz := Lib.hid hz'
                clear hz'
                go_wp2_with (first
                  | ((with_reducible show wpList _ _ _ _ _ _); first
                      | (refine wpList_load_mid rfl 58 (.tmp 20) rfl b (off + k * 38) rfl r.cells _ RG Tryz.underlying58 rfl info58w ?_)
                      | (refine wpList_store_new rfl rfl 58 (.tmp 10) (.tmp 21) rfl _ _ r.cells rfl rfl rfl rfl info58w r.one ?_
                         obtain ⟨c23, c31, b2, s2⟩ := CC.out _ rfl
                         generalize hW2 : wr.alloc (.cells r.cells.toArray 58) = W2 at c23 c31 b2 s2 ⊢
                         replace s2 := Lib.hid s2
                         clear hW2)
                      | (at_builtin; refine wpList_append_own _ rfl (.tmp 48) (.tmp 54) 28 rfl w1.heap.size 35 i0 _ 2 16 Tryz.underlying28 hi hz0 hz1 hz2 rfl (by decide) u6 m _ rfl hown2 ⟨w4.heap.size, 0, none⟩ 1 1 [.int .u32 y, .int .i64 p] rfl rfl hnews two_one m1 m2 m4 ?_; intro v' w5 hown3 hgrow hnil))
                  | (go_at_call 42; refine (REL.out _ (LI.out.below b2)).mono ?_; rintro e w3 ⟨rfl, b3⟩
                     have b23 : Below wr.heap.size wr w3 := b2.trans (b3.mono b2.size)
                     have c23' : w3.cell? ⟨wr.heap.size, 23, none⟩ = some (.int .u32 y) := (b3.cell (by show wr.heap.size < _; rw [s2.out]; omega)).trans c23
                     have s3 : Hid (wr.heap.size < w3.heap.size) := by show _ < _; have := b3.size; have := s2.out; omega
                     replace b3 := Lib.hid b3
                     clear c23 c31)
                  | (go_at_call 43; refine (CON.out false hz.out _ b23 s3.out c23').mono ?_; rintro e w4 ⟨rfl, b4⟩
                     have c23'' : w4.cell? ⟨wr.heap.size, 23, none⟩ = some (.int .u32 y) := (b4.cell (by exact s3.out)).trans c23'
                     have b24 : Below wr.heap.size wr w4 := b23.trans (b4.mono b23.size)
                     have hown2 : (w4.alloc (.cells #[.int .u32 y, .int .i64 p] 35)).ownsRow w1.heap.size 35 2 u6 m (candL l) := (ownsRow_below hown.out b24).alloc _
                     have hnews : ∀ j u, ([.int .u32 y, .int .i64 p] : List Value)[j]? = some u → (w4.alloc (.cells #[.int .u32 y, .int .i64 p] 35)).cell? ((⟨w4.heap.size, 0, none⟩ : Addr).add j) = some u := fun j u hj => by rw [addr_add']; exact range_new w4 [.int .u32 y, .int .i64 p] 35 j u hj
                     have m4 : w1.heap.size ≤ (w4.alloc (.cells #[.int .u32 y, .int .i64 p] 35)).heap.size := by have := b24.size; have := sz.out; simp; omega
                     replace b4 := Lib.hid b4))
                exact ⟨⟨k + 1, m + 1, l ++ [(y, p)], alg, _, by omega, by go_num, rfl, rfl, by show World.ownsRow _ _ _ _ _ _ _; simpa [candL, encC] using hown3, by show PIn _ _ _ _ _ _; rw [TS.out, ← HY.out]; exact pin_new hin.out HA.out HP.out HU.out ha0 (by rw [HY.out]; exact hz.out) (by rw [if_neg HAL.out]) (by rw [if_neg HAL.out]; simp [HNE.out]), ((hbl.out.trans (b24.mono sz.out)).alloc (by have := b24.size; have := sz.out; omega) _).grown hgrow m4 (fun g hg => (hown.out.lt g hg).1)⟩, by simp [intOf]; omega⟩
    · obtain rfl : k = n := by omega
      have hin' : PIn fs l alg agree k m := by have := hin.out; rwa [NL.out, List.take_length, ← NL.out] at this
      have FIN : Hid (∀ v l' W, CandW W v l' → AscC l' → (∀ c, c ∈ l' ↔ c ∈ l) → l'.length = l.length → Below w1.heap.size w1 W → PCandPost w fs (.returned (.tuple #[v, .int .i64 (algOf alg agree)])) W) := fun v l' W h1 h2 h3 h4 h5 =>
        ⟨v, l', alg, agree, rfl, h1, h2, fun c => (h3 c).trans (hin'.2.1 c), hin'.2.2.1, by have := hin'.2.2.2; omega, B1.out.trans (h5.mono B1.out.size)⟩
      have HIN := Lib.hid hin'
      clear hin hin'
      rcases hown.out.2 with ⟨rfl, hz⟩ | ⟨g, cap, cur, rfl, hg, hh, hnc, _⟩
      · have e0 : l = [] := List.eq_nil_of_length_eq_zero (by have := HIN.out.2.2.2.1; omega)
        subst e0
        have DONE : Hid (PCandPost w fs (.returned (.tuple #[.slice none 0 0, .int .i64 (algOf alg agree)])) wr) := FIN.out _ [] wr ⟨none, 0, rfl, .inl ⟨rfl, rfl⟩⟩ .nil (fun c => Iff.rfl) rfl hbl.out
        cases agree with
        | false =>
          have e : algOf alg false = 0 := by simp [algOf]
          rw [e] at DONE
          go_wp2_with (go_at_call 45; refine (sortCands_none _ _ _ _).mono ?_; rintro e w2 ⟨rfl, rfl⟩)
          go_ret2
          exact DONE.out
        | true =>
          by_cases g0 : alg < 0
          · have e : algOf alg true = 0 := by simp [algOf, g0]
            rw [e] at DONE
            go_wp2_with (go_at_call 45; refine (sortCands_none _ _ _ _).mono ?_; rintro e w2 ⟨rfl, rfl⟩)
            go_ret2
            exact DONE.out
          · by_cases g2 : 2 < alg
            · have e : algOf alg true = 0 := by simp [algOf, g2]
              rw [e] at DONE
              go_wp2_with (go_at_call 45; refine (sortCands_none _ _ _ _).mono ?_; rintro e w2 ⟨rfl, rfl⟩)
              go_ret2
              exact DONE.out
            · have e : algOf alg true = alg := by simp [algOf, g0, g2]
              rw [e] at DONE
              go_wp2_with (go_at_call 45; refine (sortCands_none _ _ _ _).mono ?_; rintro e w2 ⟨rfl, rfl⟩)
              go_ret2
              exact DONE.out
      · have hml : m = l.length := HIN.out.2.2.2.1
        have hgl := (hown.out.lt g rfl).2
        have HO2 := hown.out
        rw [hml] at HO2
        have SO := sortCands g 0 cap l.toArray wr (holds_own HO2) hgl (by have := HIN.out.2.2.2; simp; omega)
        rw [show l.toArray.size = m by simp [hml]] at SO
        have SO' : Hid (Calls Tryz.prog 45 #[.slice (some ⟨g, 0, none⟩) m cap, .func (.func 46) #[] #[]] wr fun e w' => e = .returned (.tuple #[]) ∧ PCandPost w fs (.returned (.tuple #[.slice (some ⟨g, 0, none⟩) m cap, .int .i64 (algOf alg agree)])) w') := by
          refine SO.mono ?_
          rintro e w' ⟨rfl, d', q, os, hp, hs, rfl⟩
          refine ⟨rfl, ?_⟩
          rw [show m = l.toArray.size by simp [hml]] at hp hs
          obtain ⟨s1, s2, s3⟩ := sorted_cands hp hs HIN.out.1
          have hh2 := Go.Proofs.holdsK_sortWorldK encC 2 wr g 0 q l.toArray d' os hgl (holds_own HO2) hp.1
          have hb2 : Below w1.heap.size w1 (Go.Proofs.sortWorldK encC 2 wr g 0 q d' os) := below_at hbl.out hg hgl
          have hgl2 : g < (Go.Proofs.sortWorldK encC 2 wr g 0 q d' os).heap.size := Go.Proofs.lt_sortWorldK encC 2 wr g 0 q d' os hgl
          have hrow := row_holds (cap := cap) (l := d'.toList) (by simpa using hh2) hgl2 (by omega)
          have := FIN.out (.slice (some ⟨g, 0, none⟩) d'.toList.length cap) d'.toList _ ⟨_, cap, rfl, hrow⟩ s1 s2 s3 hb2
          rw [show d'.toList.length = m by omega] at this
          exact this
        clear SO HO2 hml hh FIN
        cases agree with
        | false =>
          have e : algOf alg false = 0 := by simp [algOf]
          rw [e] at SO'
          go_wp2_with (go_at_call 45; refine Calls.mono SO'.out ?_; rintro e w2 ⟨rfl, hd⟩; replace hd := Lib.hid hd)
          go_ret2
          exact hd.out
        | true =>
          by_cases g0 : alg < 0
          · have e : algOf alg true = 0 := by simp [algOf, g0]
            rw [e] at SO'
            go_wp2_with (go_at_call 45; refine Calls.mono SO'.out ?_; rintro e w2 ⟨rfl, hd⟩; replace hd := Lib.hid hd)
            go_ret2
            exact hd.out
          · by_cases g2 : 2 < alg
            · have e : algOf alg true = 0 := by simp [algOf, g2]
              rw [e] at SO'
              go_wp2_with (go_at_call 45; refine Calls.mono SO'.out ?_; rintro e w2 ⟨rfl, hd⟩; replace hd := Lib.hid hd)
              go_ret2
              exact hd.out
            · have e : algOf alg true = alg := by simp [algOf, g0, g2]
              rw [e] at SO'
              go_wp2_with (go_at_call 45; refine Calls.mono SO'.out ?_; rintro e w2 ⟨rfl, hd⟩; replace hd := Lib.hid hd)
              go_ret2
              exact hd.out
end Go.Proofs.YtiellonfgcmaaaaGreat
