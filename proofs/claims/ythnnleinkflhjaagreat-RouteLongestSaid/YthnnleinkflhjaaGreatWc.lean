/- The walks of 'Lookup': the fold and the whole. -/
import Derived.Test.YthnnleinkflhjaaGreatWb
namespace Go.Proofs.YthnnleinkflhjaaGreat
open Go.RowKit Go.ChangeShapes

def mt (h : Hp) (ten ip : Int) : Bool := h.T == ten && con h.P h.L ip
/-- Which of the first k hops is found. -/
def lk (h : Nat → Hp) (ten ip : Int) : Nat → Option Nat
  | 0 => none
  | k + 1 => if mt (h k) ten ip = true then (match lk h ten ip k with | none => some k | some j => if (h j).L < (h k).L then some k else some j) else lk h ten ip k

def BestAt (w : World) (v : Value) (h : Nat → Hp) : Option Nat → Prop
  | none => v = .slice none 0 0
  | some j => ∃ g c, v = .slice (some ⟨g, 0, none⟩) 1 c ∧ g < w.heap.size ∧ HopAt w g 0 (h j)
theorem BestAt.below {w w' : World} {v : Value} {h : Nat → Hp} {o : Option Nat} (hv : BestAt w v h o) (hb : Below w.heap.size w w') : BestAt w' v h o := by
  cases o with
  | none => exact hv
  | some j =>
    obtain ⟨g, c, h1, h2, h3⟩ := hv
    exact ⟨g, c, h1, Nat.lt_of_lt_of_le h2 hb.size, h3.below hb h2⟩

theorem lk_other {h : Nat → Hp} {ten ip : Int} {k : Nat} (hm : mt (h k) ten ip = false) : lk h ten ip (k + 1) = lk h ten ip k := by simp [lk, hm]
theorem lk_first {h : Nat → Hp} {ten ip : Int} {k : Nat} (hm : mt (h k) ten ip = true) (hl : lk h ten ip k = none) : lk h ten ip (k + 1) = some k := by simp [lk, hm, hl]
theorem lk_longer {h : Nat → Hp} {ten ip : Int} {k j : Nat} (hm : mt (h k) ten ip = true) (hl : lk h ten ip k = some j) (hlt : (h j).L < (h k).L) : lk h ten ip (k + 1) = some k := by simp [lk, hm, hl, hlt]
theorem lk_keep {h : Nat → Hp} {ten ip : Int} {k j : Nat} (hm : mt (h k) ten ip = true) (hl : lk h ten ip k = some j) (hlt : ¬ (h j).L < (h k).L) : lk h ten ip (k + 1) = some j := by simp [lk, hm, hl, hlt]

def StepPost (w : World) (h : Nat → Hp) (o : Option Nat) (e : Ending) (w' : World) : Prop := ∃ v, e = .returned v ∧ BestAt w' v h o ∧ Below w.heap.size w w'
/-- One step of the fold. -/
theorem step_any (v : Value) (bT bI : Nat) (ten ip : Int) (h : Nat → Hp) (k : Nat) (w : World) (hbT : bT < w.heap.size) (hbI : bI < w.heap.size) (hT : w.cell? ⟨bT, 0, none⟩ = some (.int .i64 ten)) (hI : w.cell? ⟨bI, 0, none⟩ = some (.int .u32 ip))
    (hv : BestAt w v h (lk h ten ip k)) :
    Calls Tryz.prog 13 #[v, .agg #[.int .i64 (h k).T, .int .u32 (h k).P, .int .i64 (h k).L, .int .i64 (h k).D, .int .u32 (h k).X, .int .u32 (h k).V, .int .u64 (h k).M, .int .u64 (h k).R], .pointer (some ⟨bT, 0, none⟩), .pointer (some ⟨bI, 0, none⟩)] w
      (StepPost w h (lk h ten ip (k + 1))) := by
  by_cases ht : ((h k).T == ten) = true
  · by_cases hc : con (h k).P (h k).L ip = true
    · have hm : mt (h k) ten ip = true := by unfold mt; rw [ht, hc]; rfl
      rcases hl : lk h ten ip k with _ | j
      · rw [hl] at hv
        obtain rfl : v = .slice none 0 0 := hv
        rw [lk_first hm hl]
        exact (pick_first bT bI ten ip (h k) w hbT hbI hT hI ht hc).mono fun e w' ⟨g, c, he, hg, hh, hb⟩ => ⟨_, he, ⟨g, c, rfl, hg, hh⟩, hb⟩
      · rw [hl] at hv
        obtain ⟨g, c, rfl, hg, hh⟩ := hv
        have hG : w.cell? ⟨g, 2, none⟩ = some (.int .i64 (h j).L) := by have := hh.2.2.1; rwa [Nat.zero_add] at this
        by_cases hlt : (h j).L < (h k).L
        · rw [lk_longer hm hl hlt]
          exact (pick_longer g c (h j).L bT bI ten ip (h k) w hbT hbI hT hI hg hG hlt ht hc).mono fun e w' ⟨g, c, he, hg, hh, hb⟩ => ⟨_, he, ⟨g, c, rfl, hg, hh⟩, hb⟩
        · rw [lk_keep hm hl hlt]
          exact (pick_keep g c (h j).L bT bI ten ip (h k) w hbT hbI hT hI hg hG hlt ht hc).mono fun e w' ⟨he, hb⟩ => ⟨_, he, BestAt.below (o := some j) ⟨g, c, rfl, hg, hh⟩ hb, hb⟩
    · have hc' : con (h k).P (h k).L ip = false := by simpa using hc
      rw [lk_other (by unfold mt; rw [hc', Bool.and_false])]
      exact (pick_no v bT bI ten ip (h k) w hbT hbI hT hI ht hc').mono fun e w' ⟨he, hb⟩ => ⟨_, he, hv.below hb, hb⟩
  · have ht' : ((h k).T == ten) = false := by simpa using ht
    rw [lk_other (by unfold mt; rw [ht', Bool.false_and])]
    exact (pick_other v bT bI ten ip (h k) w hbT hbI hT hI ht').mono fun e w' ⟨he, hb⟩ => ⟨_, he, hv.below hb, hb⟩

def FoldPost (w : World) (h : Nat → Hp) (o : Option Nat) (e : Ending) (w' : World) : Prop := ∃ v, e = .returned v ∧ BestAt w' v h o ∧ Below w.heap.size w w'
set_option maxRecDepth 100000 in
set_option maxHeartbeats 8000000 in
theorem fold_any (b off n c bT bI : Nat) (ten ip : Int) (h : Nat → Hp) (w : World) (hn : n ≤ 60) (hb : b < w.heap.size) (hbT : bT < w.heap.size) (hbI : bI < w.heap.size) (hT : w.cell? ⟨bT, 0, none⟩ = some (.int .i64 ten)) (hI : w.cell? ⟨bI, 0, none⟩ = some (.int .u32 ip))
    (hc : ∀ i, i < n → HopAt w b (off + i * 8) (h i)) :
    Calls Tryz.prog 12 #[.slice (some ⟨b, off, none⟩) n c, .slice none 0 0, .func (.func 13) #[] #[.pointer (some ⟨bT, 0, none⟩), .pointer (some ⟨bI, 0, none⟩)]] w (FoldPost w h (lk h ten ip n)) := by
  have HC := Lib.hid hc
  clear hc
  go_enter Tryz.func12, Tryz.ntmps12
  go_wp2
  go_loopw [1, 11] (fun v i wr => ∃ k : Nat, k ≤ n ∧ i = .int .i64 k ∧ Hid (BestAt wr v h (lk h ten ip k)) ∧ Below w.heap.size w wr) (fun _ i _ => n - (intOf i).toNat)
  case atStart => exact ⟨0, Nat.zero_le _, rfl, rfl, Below.refl _ _⟩
  case round =>
    obtain ⟨k, hk, rfl, hv, hbl⟩ := hrel
    by_cases hlt : k < n
    · have hlt' : (k : Int) < n := by omega
      have h0' : (0 : Int) ≤ k := by omega
      obtain ⟨e0, e1, e2, e3, e4, e5, e6, e7⟩ := (HC.out k hlt).below hbl hb
      have cT := (hbl.cell (p := ⟨bT, 0, none⟩) hbT).trans hT
      have cI := (hbl.cell (p := ⟨bI, 0, none⟩) hbI).trans hI
      have hbT' : bT < wr.heap.size := Nat.lt_of_lt_of_le hbT hbl.size
      have hbI' : bI < wr.heap.size := Nat.lt_of_lt_of_le hbI hbl.size
      have HS := Lib.hid (fun (W : World) (hw : Below wr.heap.size wr W) => step_any u1 bT bI ten ip h k W (Nat.lt_of_lt_of_le hbT' hw.size) (Nat.lt_of_lt_of_le hbI' hw.size) ((hw.cell (p := ⟨bT, 0, none⟩) hbT').trans cT) ((hw.cell (p := ⟨bI, 0, none⟩) hbI').trans cI) (hv.out.below hw))
      go_wp2_with fail
      refine (HS.out _ ((Below.refl _ _).alloc (Nat.le_refl _) _)).mono ?_
      rintro e w1 ⟨v', rfl, hv', hb'⟩
      have hV := Lib.hid hv'
      have h1 : Below wr.heap.size wr w1 := ((Below.refl _ _).alloc (Nat.le_refl _) _).trans (hb'.mono (by simp))
      clear hv'
      go_wp2_with fail
      go_roundw
      case rel => exact ⟨k + 1, by omega, by go_num, hV.out, hbl.trans (h1.mono hbl.size)⟩
      case measure => simp [intOf]; omega
    · have hkn : k = n := by omega
      subst hkn
      have hge : ¬ (k : Int) < k := by omega
      go_wp2
      go_ret
      exact ⟨_, rfl, hv.out, hbl⟩

def LookPost (w : World) (h : Nat → Hp) (o : Option Nat) (e : Ending) (w' : World) : Prop :=
  (match o with
   | none => e = .returned (.tuple #[.agg #[.int .i64 0, .int .u32 0, .int .i64 0, .int .i64 0, .int .u32 0, .int .u32 0, .int .u64 0, .int .u64 0], .bool false])
   | some j => e = .returned (.tuple #[.agg #[.int .i64 (h j).T, .int .u32 (h j).P, .int .i64 (h j).L, .int .i64 (h j).D, .int .u32 (h j).X, .int .u32 (h j).V, .int .u64 (h j).M, .int .u64 (h j).R], .bool true])) ∧ Below w.heap.size w w'
set_option maxRecDepth 100000 in
set_option maxHeartbeats 8000000 in
theorem look_any (b off n c : Nat) (ten ip : Int) (h : Nat → Hp) (w : World) (hn : n ≤ 60) (hb : b < w.heap.size) (hc : ∀ i, i < n → HopAt w b (off + i * 8) (h i)) :
    Calls Tryz.prog 5 #[.slice (some ⟨b, off, none⟩) n c, .int .i64 ten, .int .u32 ip] w (LookPost w h (lk h ten ip n)) := by
  have hmf : ∀ (fn : Fn) (first cap : Array Value) (w : World), (Instr.makeFunc fn first cap).run Tryz.prog w = .ok (.func fn first cap) w := fun _ _ _ _ => rfl
  have nn : ∀ (W : World) (a : Option Addr) (n c : Nat), (binOp .eql 22 (.slice a n c) (.slice none 0 0)).run Tryz.prog W = .ok (.bool a.isNone) W := fun W a n c => Lib.run_eql_slice_nil (P := Tryz.prog) W 22 31 a n c 0 0 Tryz.underlying22
  have HF := Lib.hid (fun (W : World) (bT bI : Nat) (hw : Below w.heap.size w W) (h1 : bT < W.heap.size) (h2 : bI < W.heap.size) (h3 : W.cell? ⟨bT, 0, none⟩ = some (.int .i64 ten)) (h4 : W.cell? ⟨bI, 0, none⟩ = some (.int .u32 ip)) =>
    fold_any b off n c bT bI ten ip h W hn (Nat.lt_of_lt_of_le hb hw.size) h1 h2 h3 h4 (fun i hi => (hc i hi).below hw hb))
  clear hc
  have hW3 : Below w.heap.size w (((w.alloc (.cells #[.int .i64 ten] 3)).alloc (.cells #[.int .u32 ip] 24)).alloc (.cells #[.int .i64 0, .int .u32 0, .int .i64 0, .int .i64 0, .int .u32 0, .int .u32 0, .int .u64 0, .int .u64 0] 31)) := (((Below.refl _ _).alloc (Nat.le_refl _) _).alloc (by simp) _).alloc (by simp; omega) _
  have z0 : (((w.alloc (.cells #[.int .i64 ten] 3)).alloc (.cells #[.int .u32 ip] 24)).alloc (.cells #[.int .i64 0, .int .u32 0, .int .i64 0, .int .i64 0, .int .u32 0, .int .u32 0, .int .u64 0, .int .u64 0] 31)).cell? ⟨w.heap.size + 2, 0, none⟩ = some (.int .i64 0) := by go_simp
  have f0 : (((w.alloc (.cells #[.int .i64 ten] 3)).alloc (.cells #[.int .u32 ip] 24)).alloc (.cells #[.int .i64 0, .int .u32 0, .int .i64 0, .int .i64 0, .int .u32 0, .int .u32 0, .int .u64 0, .int .u64 0] 31)).frozen? ⟨w.heap.size + 2, 0, none⟩ = false := by go_simp
  have z1 : (((w.alloc (.cells #[.int .i64 ten] 3)).alloc (.cells #[.int .u32 ip] 24)).alloc (.cells #[.int .i64 0, .int .u32 0, .int .i64 0, .int .i64 0, .int .u32 0, .int .u32 0, .int .u64 0, .int .u64 0] 31)).cell? ⟨w.heap.size + 2, 1, none⟩ = some (.int .u32 0) := by go_simp
  have f1 : (((w.alloc (.cells #[.int .i64 ten] 3)).alloc (.cells #[.int .u32 ip] 24)).alloc (.cells #[.int .i64 0, .int .u32 0, .int .i64 0, .int .i64 0, .int .u32 0, .int .u32 0, .int .u64 0, .int .u64 0] 31)).frozen? ⟨w.heap.size + 2, 1, none⟩ = false := by go_simp
  have z2 : (((w.alloc (.cells #[.int .i64 ten] 3)).alloc (.cells #[.int .u32 ip] 24)).alloc (.cells #[.int .i64 0, .int .u32 0, .int .i64 0, .int .i64 0, .int .u32 0, .int .u32 0, .int .u64 0, .int .u64 0] 31)).cell? ⟨w.heap.size + 2, 2, none⟩ = some (.int .i64 0) := by go_simp
  have f2 : (((w.alloc (.cells #[.int .i64 ten] 3)).alloc (.cells #[.int .u32 ip] 24)).alloc (.cells #[.int .i64 0, .int .u32 0, .int .i64 0, .int .i64 0, .int .u32 0, .int .u32 0, .int .u64 0, .int .u64 0] 31)).frozen? ⟨w.heap.size + 2, 2, none⟩ = false := by go_simp
  have z3 : (((w.alloc (.cells #[.int .i64 ten] 3)).alloc (.cells #[.int .u32 ip] 24)).alloc (.cells #[.int .i64 0, .int .u32 0, .int .i64 0, .int .i64 0, .int .u32 0, .int .u32 0, .int .u64 0, .int .u64 0] 31)).cell? ⟨w.heap.size + 2, 3, none⟩ = some (.int .i64 0) := by go_simp
  have f3 : (((w.alloc (.cells #[.int .i64 ten] 3)).alloc (.cells #[.int .u32 ip] 24)).alloc (.cells #[.int .i64 0, .int .u32 0, .int .i64 0, .int .i64 0, .int .u32 0, .int .u32 0, .int .u64 0, .int .u64 0] 31)).frozen? ⟨w.heap.size + 2, 3, none⟩ = false := by go_simp
  have z4 : (((w.alloc (.cells #[.int .i64 ten] 3)).alloc (.cells #[.int .u32 ip] 24)).alloc (.cells #[.int .i64 0, .int .u32 0, .int .i64 0, .int .i64 0, .int .u32 0, .int .u32 0, .int .u64 0, .int .u64 0] 31)).cell? ⟨w.heap.size + 2, 4, none⟩ = some (.int .u32 0) := by go_simp
  have f4 : (((w.alloc (.cells #[.int .i64 ten] 3)).alloc (.cells #[.int .u32 ip] 24)).alloc (.cells #[.int .i64 0, .int .u32 0, .int .i64 0, .int .i64 0, .int .u32 0, .int .u32 0, .int .u64 0, .int .u64 0] 31)).frozen? ⟨w.heap.size + 2, 4, none⟩ = false := by go_simp
  have z5 : (((w.alloc (.cells #[.int .i64 ten] 3)).alloc (.cells #[.int .u32 ip] 24)).alloc (.cells #[.int .i64 0, .int .u32 0, .int .i64 0, .int .i64 0, .int .u32 0, .int .u32 0, .int .u64 0, .int .u64 0] 31)).cell? ⟨w.heap.size + 2, 5, none⟩ = some (.int .u32 0) := by go_simp
  have f5 : (((w.alloc (.cells #[.int .i64 ten] 3)).alloc (.cells #[.int .u32 ip] 24)).alloc (.cells #[.int .i64 0, .int .u32 0, .int .i64 0, .int .i64 0, .int .u32 0, .int .u32 0, .int .u64 0, .int .u64 0] 31)).frozen? ⟨w.heap.size + 2, 5, none⟩ = false := by go_simp
  have z6 : (((w.alloc (.cells #[.int .i64 ten] 3)).alloc (.cells #[.int .u32 ip] 24)).alloc (.cells #[.int .i64 0, .int .u32 0, .int .i64 0, .int .i64 0, .int .u32 0, .int .u32 0, .int .u64 0, .int .u64 0] 31)).cell? ⟨w.heap.size + 2, 6, none⟩ = some (.int .u64 0) := by go_simp
  have f6 : (((w.alloc (.cells #[.int .i64 ten] 3)).alloc (.cells #[.int .u32 ip] 24)).alloc (.cells #[.int .i64 0, .int .u32 0, .int .i64 0, .int .i64 0, .int .u32 0, .int .u32 0, .int .u64 0, .int .u64 0] 31)).frozen? ⟨w.heap.size + 2, 6, none⟩ = false := by go_simp
  have z7 : (((w.alloc (.cells #[.int .i64 ten] 3)).alloc (.cells #[.int .u32 ip] 24)).alloc (.cells #[.int .i64 0, .int .u32 0, .int .i64 0, .int .i64 0, .int .u32 0, .int .u32 0, .int .u64 0, .int .u64 0] 31)).cell? ⟨w.heap.size + 2, 7, none⟩ = some (.int .u64 0) := by go_simp
  have f7 : (((w.alloc (.cells #[.int .i64 ten] 3)).alloc (.cells #[.int .u32 ip] 24)).alloc (.cells #[.int .i64 0, .int .u32 0, .int .i64 0, .int .i64 0, .int .u32 0, .int .u32 0, .int .u64 0, .int .u64 0] 31)).frozen? ⟨w.heap.size + 2, 7, none⟩ = false := by go_simp
  have zT : (((w.alloc (.cells #[.int .i64 ten] 3)).alloc (.cells #[.int .u32 ip] 24)).alloc (.cells #[.int .i64 0, .int .u32 0, .int .i64 0, .int .i64 0, .int .u32 0, .int .u32 0, .int .u64 0, .int .u64 0] 31)).cell? ⟨w.heap.size, 0, none⟩ = some (.int .i64 ten) := by go_simp
  have zI : (((w.alloc (.cells #[.int .i64 ten] 3)).alloc (.cells #[.int .u32 ip] 24)).alloc (.cells #[.int .i64 0, .int .u32 0, .int .i64 0, .int .i64 0, .int .u32 0, .int .u32 0, .int .u64 0, .int .u64 0] 31)).cell? ⟨w.heap.size + 1, 0, none⟩ = some (.int .u32 ip) := by go_simp
  go_enter Tryz.func5, Tryz.ntmps5
  go_wp2_with fail
  refine (HF.out _ _ _ hW3 (by simp; omega) (by simp) zT zI).mono ?_
  rintro e w1 ⟨v, rfl, hv, hb'⟩
  have hs2 : w.heap.size + 2 < (((w.alloc (.cells #[.int .i64 ten] 3)).alloc (.cells #[.int .u32 ip] 24)).alloc (.cells #[.int .i64 0, .int .u32 0, .int .i64 0, .int .i64 0, .int .u32 0, .int .u32 0, .int .u64 0, .int .u64 0] 31)).heap.size := by simp
  have y0 := (hb'.cell (p := ⟨w.heap.size + 2, 0, none⟩) hs2).trans z0
  have g0 := (hb'.frozen (p := ⟨w.heap.size + 2, 0, none⟩) hs2).trans f0
  have y1 := (hb'.cell (p := ⟨w.heap.size + 2, 1, none⟩) hs2).trans z1
  have g1 := (hb'.frozen (p := ⟨w.heap.size + 2, 1, none⟩) hs2).trans f1
  have y2 := (hb'.cell (p := ⟨w.heap.size + 2, 2, none⟩) hs2).trans z2
  have g2 := (hb'.frozen (p := ⟨w.heap.size + 2, 2, none⟩) hs2).trans f2
  have y3 := (hb'.cell (p := ⟨w.heap.size + 2, 3, none⟩) hs2).trans z3
  have g3 := (hb'.frozen (p := ⟨w.heap.size + 2, 3, none⟩) hs2).trans f3
  have y4 := (hb'.cell (p := ⟨w.heap.size + 2, 4, none⟩) hs2).trans z4
  have g4 := (hb'.frozen (p := ⟨w.heap.size + 2, 4, none⟩) hs2).trans f4
  have y5 := (hb'.cell (p := ⟨w.heap.size + 2, 5, none⟩) hs2).trans z5
  have g5 := (hb'.frozen (p := ⟨w.heap.size + 2, 5, none⟩) hs2).trans f5
  have y6 := (hb'.cell (p := ⟨w.heap.size + 2, 6, none⟩) hs2).trans z6
  have g6 := (hb'.frozen (p := ⟨w.heap.size + 2, 6, none⟩) hs2).trans f6
  have y7 := (hb'.cell (p := ⟨w.heap.size + 2, 7, none⟩) hs2).trans z7
  have g7 := (hb'.frozen (p := ⟨w.heap.size + 2, 7, none⟩) hs2).trans f7
  have hb1 := hW3.trans (hb'.mono hW3.size)
  rcases ho : lk h ten ip n with _ | j
  · rw [ho] at hv
    obtain rfl : v = .slice none 0 0 := hv
    go_wp2_with fail
    refine bodyPost_ret (v := .tuple #[.agg #[.int .i64 0, .int .u32 0, .int .i64 0, .int .i64 0, .int .u32 0, .int .u32 0, .int .u64 0, .int .u64 0], .bool false]) (by simp [results, Tryz.results5, go_sem, *]) rfl ⟨by rw [ho], ?_⟩
    repeat (refine Below.setCell ?_ (by show w.heap.size ≤ w.heap.size + 1 + 1; omega) _)
    exact hb1
  · rw [ho] at hv
    obtain ⟨g, c', rfl, hg, e0, e1, e2, e3, e4, e5, e6, e7⟩ := hv
    simp only [Nat.zero_add] at e1 e2 e3 e4 e5 e6 e7
    go_wp2_with fail
    refine bodyPost_ret (v := .tuple #[.agg #[.int .i64 (h j).T, .int .u32 (h j).P, .int .i64 (h j).L, .int .i64 (h j).D, .int .u32 (h j).X, .int .u32 (h j).V, .int .u64 (h j).M, .int .u64 (h j).R], .bool true]) (by simp [results, Tryz.results5, go_sem, *]) rfl ⟨by rw [ho], ?_⟩
    repeat (refine Below.setCell ?_ (by show w.heap.size ≤ w.heap.size + 1 + 1; omega) _)
    exact hb1
theorem fold_zero (A : Option Addr) (c : Nat) (f : Value) (w : World) : Calls Tryz.prog 12 #[.slice A 0 c, .slice none 0 0, f] w fun e w' => e = .returned (.slice none 0 0) ∧ w' = w := by
  go_enter Tryz.func12, Tryz.ntmps12
  go_wp2
  refine wp_loop_rounds 1 ?_
  rw [rounds_succ]
  go_wp2
  go_ret
  exact ⟨rfl, rfl⟩

set_option maxRecDepth 100000 in
set_option maxHeartbeats 8000000 in
/-- No hops at all. -/
theorem look_zero (A : Option Addr) (c : Nat) (ten ip : Int) (h : Nat → Hp) (w : World) :
    Calls Tryz.prog 5 #[.slice A 0 c, .int .i64 ten, .int .u32 ip] w (LookPost w h none) := by
  have hmf : ∀ (fn : Fn) (first cap : Array Value) (w : World), (Instr.makeFunc fn first cap).run Tryz.prog w = .ok (.func fn first cap) w := fun _ _ _ _ => rfl
  have nn : ∀ (W : World) (a : Option Addr) (n c : Nat), (binOp .eql 22 (.slice a n c) (.slice none 0 0)).run Tryz.prog W = .ok (.bool a.isNone) W := fun W a n c => Lib.run_eql_slice_nil (P := Tryz.prog) W 22 31 a n c 0 0 Tryz.underlying22
  have hW3 : Below w.heap.size w (((w.alloc (.cells #[.int .i64 ten] 3)).alloc (.cells #[.int .u32 ip] 24)).alloc (.cells #[.int .i64 0, .int .u32 0, .int .i64 0, .int .i64 0, .int .u32 0, .int .u32 0, .int .u64 0, .int .u64 0] 31)) := (((Below.refl _ _).alloc (Nat.le_refl _) _).alloc (by simp) _).alloc (by simp; omega) _
  go_enter Tryz.func5, Tryz.ntmps5
  go_wp2_with (go_at_call 12; refine (fold_zero _ _ _ _).mono ?_; rintro e w1 ⟨rfl, rfl⟩)
  refine bodyPost_ret (v := .tuple #[.agg #[.int .i64 0, .int .u32 0, .int .i64 0, .int .i64 0, .int .u32 0, .int .u32 0, .int .u64 0, .int .u64 0], .bool false]) (by simp [results, Tryz.results5, go_sem, *]) rfl ⟨rfl, ?_⟩
  repeat (refine Below.setCell ?_ (by show w.heap.size ≤ w.heap.size + 1 + 1; omega) _)
  exact hW3

/-! ### What is found -/
theorem lk_none {h : Nat → Hp} {ten ip : Int} : ∀ (n : Nat), lk h ten ip n = none → ∀ j, j < n → mt (h j) ten ip = false
  | 0, _, j, hj => absurd hj (by omega)
  | n + 1, hn, j, hj => by
    by_cases hm : mt (h n) ten ip = true
    · simp only [lk, hm, if_true] at hn
      split at hn
      · cases hn
      · split at hn <;> cases hn
    · have hm' : mt (h n) ten ip = false := by simpa using hm
      rw [lk_other hm'] at hn
      by_cases e : j = n
      · subst e; exact hm'
      · exact lk_none n hn j (by omega)
theorem lk_some {h : Nat → Hp} {ten ip : Int} : ∀ (n j0 : Nat), lk h ten ip n = some j0 → j0 < n ∧ mt (h j0) ten ip = true ∧ (∀ j, j < n → mt (h j) ten ip = true → (h j).L ≤ (h j0).L) ∧ (∀ j, j < j0 → mt (h j) ten ip = true → (h j).L < (h j0).L)
  | 0, _, hn => by cases hn
  | n + 1, j0, hn => by
    by_cases hm : mt (h n) ten ip = true
    · rcases hl : lk h ten ip n with _ | j
      · rw [lk_first hm hl] at hn
        obtain rfl : n = j0 := by injection hn
        have hno := lk_none n hl
        refine ⟨by omega, hm, fun j hj hmj => ?_, fun j hj hmj => ?_⟩
        · by_cases e : j = n
          · subst e; omega
          · rw [hno j (by omega)] at hmj; cases hmj
        · rw [hno j hj] at hmj; cases hmj
      · obtain ⟨h1, h2, h3, h4⟩ := lk_some n j hl
        by_cases hlt : (h j).L < (h n).L
        · rw [lk_longer hm hl hlt] at hn
          obtain rfl : n = j0 := by injection hn
          refine ⟨by omega, hm, fun i hi hmi => ?_, fun i hi hmi => ?_⟩
          · by_cases e : i = n
            · subst e; omega
            · have := h3 i (by omega) hmi; omega
          · have := h3 i hi hmi; omega
        · rw [lk_keep hm hl hlt] at hn
          obtain rfl : j = j0 := by injection hn
          refine ⟨by omega, h2, fun i hi hmi => ?_, h4⟩
          by_cases e : i = n
          · subst e; omega
          · exact h3 i (by omega) hmi
    · have hm' : mt (h n) ten ip = false := by simpa using hm
      rw [lk_other hm'] at hn
      obtain ⟨h1, h2, h3, h4⟩ := lk_some n j0 hn
      refine ⟨by omega, h2, fun i hi hmi => ?_, h4⟩
      by_cases e : i = n
      · subst e; rw [hm'] at hmi; cases hmi
      · exact h3 i (by omega) hmi
/-- None of the first k is as long as L. -/
def fr (h : Nat → Hp) (ten ip L : Int) : Nat → Bool
  | 0 => true
  | k + 1 => fr h ten ip L k && !(mt (h k) ten ip && (h k).L == L)
theorem fr_iff {h : Nat → Hp} {ten ip L : Int} : ∀ (k : Nat), fr h ten ip L k = true → ∀ j, j < k → mt (h j) ten ip = true → (h j).L ≠ L
  | 0, _, j, hj, _ => absurd hj (by omega)
  | k + 1, hk, j, hj, hm => by
    simp only [fr, Bool.and_eq_true, Bool.not_eq_true'] at hk
    by_cases e : j = k
    · subst e
      have := hk.2
      rw [hm, Bool.true_and] at this
      simpa using this
    · exact fr_iff k hk.1 j (by omega) hm
theorem fr_false {h : Nat → Hp} {ten ip L : Int} (j : Nat) (hm : mt (h j) ten ip = true) (hL : (h j).L = L) : ∀ (k : Nat), j < k → fr h ten ip L k = false
  | 0, hj => absurd hj (by omega)
  | k + 1, hj => by
    by_cases e : j = k
    · subst e; simp [fr, hm, hL]
    · simp [fr, fr_false j hm hL k (by omega)]
theorem found_here {h : Nat → Hp} {ten ip : Int} {n j0 k : Nat} (ho : lk h ten ip n = some j0) (hk : k < n) (hm : mt (h k) ten ip = true) (hf : fr h ten ip (h j0).L k = true) (hL : (h k).L = (h j0).L) : k = j0 := by
  obtain ⟨h1, h2, h3, h4⟩ := lk_some n j0 ho
  rcases Nat.lt_trichotomy k j0 with hlt | rfl | hgt
  · have := h4 k hlt hm; omega
  · rfl
  · exact absurd rfl (fr_iff k hf j0 hgt h2)

end Go.Proofs.YthnnleinkflhjaaGreat
