/- The walk of the law: 'SegmentSteady' returns true at whatever preferences. -/
import Derived.Test.YtiellonfgcmaaaaGreatWe
import Derived.Test.YtiellonfgcmaaaaGreatAw
import Derived.Deep.AppendLies
namespace Go.Proofs.YtiellonfgcmaaaaGreat
open Go.RowKit Go.ChangeShapes

theorem cand_slice {w w' : World} {p : Nat → Int} {n : Nat} {e : Ending} (h : CandPost w p n e w') : (∃ A' c', e = .returned (.slice A' n c')) ∧ Below w.heap.size w w' := by
  obtain ⟨v, rfl, hown, hb⟩ := h
  rcases hown.2 with ⟨rfl, rfl⟩ | ⟨g, cap, cur, rfl, _⟩
  · exact ⟨⟨_, _, rfl⟩, hb⟩
  · exact ⟨⟨_, _, rfl⟩, hb⟩
/-- Fewer than two candidates. -/
theorem steady_few (A : Value) (which bd : Int) (n : Nat) (hn : n < 2) (w : World) (h30 : ∀ W, Below w.heap.size w W → Calls Tryz.prog 30 #[A] W fun e w' => (∃ A' c', e = .returned (.slice A' n c')) ∧ Below W.heap.size W w') :
    Calls Tryz.prog 7 #[A, .int .i64 which, .int .i64 bd] w fun e w' => e = .returned (.bool true) ∧ Below w.heap.size w w' := by
  have H30 := Lib.hid h30
  clear h30
  go_enter Tryz.func7, Tryz.ntmps7
  go_wp2_with fail
  refine (awake_any _).mono ?_
  rintro e w1 ⟨rfl, b1⟩
  go_wp2_with fail
  refine (H30.out _ b1).mono ?_
  rintro e w2 ⟨⟨A', c', rfl⟩, b2⟩
  go_wp2_with fail
  go_ret
  exact ⟨rfl, b1.trans (b2.mono b1.size)⟩

/-- An append, at a step of a region that draws its order. -/
theorem step_append_own {P : Program} {w : World} {ops : Array Oper} {o : Oper} {a : Act} {K : Act → World → Prop} {Q : Exit → Act → World → Prop} {E : Prop} (hgd : o.guard = none) (s x : Operand) (t : TypeId)
    (ho : o.op = .call { callee := .builtin .append, args := #[s, x], argTypes := #[t, t] })
    (base : Nat) (e : TypeId) (i : TypeInfo) (z : Value) (size bytes : Nat) (ht : P.underlying t = some (.slice e)) (hi : P.info? e = some i) (hz : i.zero = some z)
    (hsize : i.size = size) (hby : i.bytes = bytes) (hzs : z.cells.size = size) (hsz : 0 < size)
    (v : Value) (n : Nat) (xs : List Value) (hs : a.eval s = v) (hown : w.ownsRow base e size v n xs)
    (ad : Addr) (m c : Nat) (news : List Value) (hx : a.eval x = .slice (some ad) m c) (hl : news.length = m * size) (hnews : ∀ j u, news[j]? = some u → w.cell? (ad.add j) = some u) (h1 : ∀ u ∈ news, u.oneCell' = true)
    (h63 : n + m ≤ maxLen) (hbytes : (n + m) * bytes ≤ 140737488355328) (hbase : base ≤ w.heap.size)
    (h : ∀ v' w', w'.ownsRow base e size v' (n + m) (xs ++ news) → w.grownBy w' v.ownBlock → (v' = .slice none 0 0 ↔ v = .slice none 0 0 ∧ m = 0) → K (a.put o.dst v') w') :
    if Region.wanted o (yielded ops a.tmps) = true then Oper.wp P o a w K Q else E := by
  have hw : Region.wanted o (yielded ops a.tmps) = true := by simp [Region.wanted, hgd]
  rw [if_pos hw]
  exact wp_append_own w s x t ho base e i z size bytes ht hi hz hsize hby hzs hsz v n xs hs hown ad m c news hx hl hnews h1 h63 hbytes hbase h

set_option maxRecDepth 100000 in
set_option maxHeartbeats 16000000 in
theorem steady_any (A : Value) (which bd : Int) (p : Nat → Int) (n : Nat) (hn0 : 2 ≤ n) (hn : n ≤ 20) (w : World) (h30 : ∀ W, Below w.heap.size w W → Calls Tryz.prog 30 #[A] W (CandPost W p n)) :
    Calls Tryz.prog 7 #[A, .int .i64 which, .int .i64 bd] w fun e w' => e = .returned (.bool true) ∧ Below w.heap.size w w' := by
  obtain ⟨i0, hi, hz0, hz1, hz2⟩ := info_parts info35
  have H30 := Lib.hid h30
  have HP := Lib.hid (fun w => pick_any bd 1048576 (by omega) (by omega) w)
  have HQ := Lib.hid (fun w => pick_any which n (by omega) (by omega) w)
  have hf0 := Int.emod_nonneg bd (by omega : (1048576 : Int) ≠ 0)
  have hf1 := Int.emod_lt_of_pos bd (by omega : (0 : Int) < 1048576)
  obtain ⟨f, hf⟩ : ∃ f, f = bd % 1048576 := ⟨_, rfl⟩
  rw [← hf] at HP hf0 hf1
  obtain ⟨t, ht⟩ : ∃ t : Nat, (t : Int) = which % n := ⟨(which % n).toNat, Int.toNat_of_nonneg (Int.emod_nonneg _ (by omega))⟩
  have htn : t < n := by have := Int.emod_lt_of_pos which (by omega : (0 : Int) < n); omega
  rw [← ht] at HQ
  clear hf ht h30
  go_enter Tryz.func7, Tryz.ntmps7
  go_wp2_with fail
  refine (awake_any _).mono ?_
  rintro e w1 ⟨rfl, b1⟩
  go_wp2_with fail
  refine (H30.out _ b1).mono ?_
  rintro e w2 ⟨v, rfl, hown, b2⟩
  rcases hown.2 with ⟨rfl, hz⟩ | ⟨g, cap, cur, rfl, hg, hh, hnc, _⟩
  · omega
  have hgl := (hown.lt g rfl).2
  have HC0 := Lib.hid (fun i (hi : i < n) => (hown.cellAt (i * 2) (by omega)).trans (flat_get lb (prf p) n i hi).1)
  have HC1 := Lib.hid (fun i (hi : i < n) => (hown.cellAt (i * 2 + 1) (by omega)).trans (flat_get lb (prf p) n i hi).2)
  have b12 := b1.trans (b2.mono b1.size)
  have HO := Lib.hid hown
  clear hown
  have hn2 : ¬ (n : Int) < 2 := by omega
  go_wp2_with fail
  refine (HQ.out _).mono ?_
  rintro e w3 ⟨rfl, hw3⟩
  subst hw3
  go_wp2_with fail
  refine (HP.out _).mono ?_
  rintro e w4 ⟨rfl, hw4⟩
  subst hw4
  have t0 : (0 : Int) ≤ t := by omega
  have t1 : (t : Int) < n := by omega
  have t2 : (t : Int) ≤ cap := by omega
  have t3 : ((t : Int) + 1) ≤ n := by omega
  have hlit : (w4.drew.alloc (.cells #[] 35)).ownsRow w4.heap.size 35 2 (.slice (some ⟨w4.heap.size, 0, none⟩) 0 0) 0 [] := World.ownsRow_lit w4.drew #[] 0 (Nat.le_refl _) (Nat.zero_le _) rfl
  have hnews1 : ∀ j u, (flat lb (prf p) t)[j]? = some u → (w4.drew.alloc (.cells #[] 35)).cell? ((⟨g, 0, none⟩ : Addr).add j) = some u := by
    intro j u hj
    rw [addr_add, World.cell?_alloc_past (w := w4.drew) _ _ _ hgl]
    obtain ⟨i, hi, ⟨rfl, rfl⟩ | ⟨rfl, rfl⟩⟩ := flat_inv _ _ _ j u hj
    · rw [Nat.zero_add]; exact HC0.out i (by omega)
    · rw [Nat.zero_add]; exact HC1.out i (by omega)
  have t4 : (0 : Int) ≤ (t : Int) + 1 := by omega
  have m1 : 0 + t ≤ maxLen := by unfold maxLen; omega
  have m2 : (0 + t) * 16 ≤ 140737488355328 := by omega
  have m3 : w4.heap.size ≤ (w4.drew.alloc (.cells #[] 35)).heap.size := by simp
  have m4 : (0 + t) + (n - (t + 1)) ≤ maxLen := by unfold maxLen; omega
  have m5 : ((0 + t) + (n - (t + 1))) * 16 ≤ 140737488355328 := by omega
  have HN2 : Hid (∀ W, Below w4.heap.size w4 W → ∀ j u, (flat (fun i => lb (t + 1 + i)) (fun i => prf p (t + 1 + i)) (n - (t + 1)))[j]? = some u → W.cell? ((⟨g, (if cap = t + 1 then 0 else (t + 1) * 2), none⟩ : Addr).add j) = some u) := by
    intro W hW j u hj
    obtain ⟨i, hi, ⟨rfl, rfl⟩ | ⟨rfl, rfl⟩⟩ := flat_inv _ _ _ j u hj
    · rw [if_neg (by omega), addr_add]
      have := (hW.cell (p := ⟨g, (t + 1 + i) * 2, none⟩) hgl).trans (HC0.out (t + 1 + i) (by omega))
      rwa [show (t + 1 + i) * 2 = (t + 1) * 2 + i * 2 by omega] at this
    · rw [if_neg (by omega), addr_add]
      have := (hW.cell (p := ⟨g, (t + 1 + i) * 2 + 1, none⟩) hgl).trans (HC1.out (t + 1 + i) (by omega))
      rwa [show (t + 1 + i) * 2 + 1 = (t + 1) * 2 + (i * 2 + 1) by omega] at this
  have wr1 : IntKind.i64.wrap ((t : Int) + 1) = (t : Int) + 1 := IntWalk.i64_in _ (by omega)
  have wr2 : ((t : Int) + 1).toNat = t + 1 := by omega
  by_cases hct : cap = t + 1
  · rw [if_pos hct] at HN2
    have hct' : (cap = t + 1) = True := eq_true hct
    clear hct
    go_wp2_with fail
    refine wp_region_held_drew (S := fun _ => True) (by kernel_rfl) trivial (fun hS => ?_)
    refine wpAnyH_take (i := 1) (oi := { dst := some 30, op := Op.move (Operand.tmp 8), type := 28, pos := "outright.go:205", after := #[], guard := none }) (v := ?_) rfl (by kernel_rfl) (by kernel_rfl) (by kernel_rfl) (fun _ _ _ h => h) (Or.inl ⟨by rfl, ?_⟩) hS ?_
    rotate_left
    · intro W hSw; skip; go_simp; (try with_reducible rfl)
    (try simp only [Act.put, List.setIfInBounds_toArray, List.set_cons_zero, List.set_cons_succ])
    refine wpAnyH_take (i := 2) (oi := { dst := some 31, op := Op.move (Operand.tmp 9), type := 3, pos := "outright.go:205", after := #[], guard := none }) (v := ?_) rfl (by kernel_rfl) (by kernel_rfl) (by kernel_rfl) (fun _ _ _ h => h) (Or.inl ⟨by rfl, ?_⟩) hS ?_
    rotate_left
    · intro W hSw; skip; go_simp; (try with_reducible rfl)
    (try simp only [Act.put, List.setIfInBounds_toArray, List.set_cons_zero, List.set_cons_succ])
    refine wpAnyH_take (i := 3) (oi := { dst := some 32, op := Op.slice 28 (Operand.tmp 30) none (some (Operand.tmp 31)) none, type := 28, pos := "outright.go:205", after := #[{ on := 1, ground := Ground.data }, { on := 2, ground := Ground.data }], guard := none }) (v := ?_) rfl (by kernel_rfl) (by kernel_rfl) (by kernel_rfl) (fun _ _ _ h => h) (Or.inl ⟨by rfl, ?_⟩) hS ?_
    rotate_left
    · intro W hSw; skip; go_simp; (try with_reducible rfl)
    (try simp only [Act.put, List.setIfInBounds_toArray, List.set_cons_zero, List.set_cons_succ])
    refine wpAnyH_take (i := 5) (oi := { dst := some 34, op := Op.move (Operand.tmp 8), type := 28, pos := "outright.go:205", after := #[], guard := none }) (v := ?_) rfl (by kernel_rfl) (by kernel_rfl) (by kernel_rfl) (fun _ _ _ h => h) (Or.inl ⟨by rfl, ?_⟩) hS ?_
    rotate_left
    · intro W hSw; skip; go_simp; (try with_reducible rfl)
    (try simp only [Act.put, List.setIfInBounds_toArray, List.set_cons_zero, List.set_cons_succ])
    refine wpAnyH_take (i := 6) (oi := { dst := some 35, op := Op.move (Operand.tmp 9), type := 3, pos := "outright.go:205", after := #[], guard := none }) (v := ?_) rfl (by kernel_rfl) (by kernel_rfl) (by kernel_rfl) (fun _ _ _ h => h) (Or.inl ⟨by rfl, ?_⟩) hS ?_
    rotate_left
    · intro W hSw; skip; go_simp; (try with_reducible rfl)
    (try simp only [Act.put, List.setIfInBounds_toArray, List.set_cons_zero, List.set_cons_succ])
    refine wpAnyH_take (i := 7) (oi := { dst := some 36, op := Op.binOp BinOp.add 3 (Operand.tmp 35) (Operand.const (Value.int IntKind.i64 1)) 3, type := 3, pos := "outright.go:205", after := #[{ on := 6, ground := Ground.data }], guard := none }) (v := ?_) rfl (by kernel_rfl) (by kernel_rfl) (by kernel_rfl) (fun _ _ _ h => h) (Or.inl ⟨by rfl, ?_⟩) hS ?_
    rotate_left
    · intro W hSw; skip; go_simp; (try with_reducible rfl)
    (try simp only [Act.put, List.setIfInBounds_toArray, List.set_cons_zero, List.set_cons_succ])
    refine wpAnyH_take (i := 8) (oi := { dst := some 37, op := Op.slice 28 (Operand.tmp 34) (some (Operand.tmp 36)) none none, type := 28, pos := "outright.go:205", after := #[{ on := 5, ground := Ground.data }, { on := 7, ground := Ground.data }], guard := none }) (v := ?_) rfl (by kernel_rfl) (by kernel_rfl) (by kernel_rfl) (fun _ _ _ h => h) (Or.inl ⟨by rfl, ?_⟩) hS ?_
    rotate_left
    · intro W hSw; skip; go_simp; (try with_reducible rfl)
    (try simp only [Act.put, List.setIfInBounds_toArray, List.set_cons_zero, List.set_cons_succ])
    refine wpAnyH_ready (rs := [0]) (by kernel_rfl) (by simp) (AllReadyH.cons (o := { dst := some 29, op := Op.buildSlice 28 0 #[], type := 28, pos := "outright.go:205", after := #[], guard := none }) rfl (fun K hK => ?_) AllReadyH.nil)
    go_simp
    have hS : True := trivial
    refine hK.out _ _ hS (fun _ => ?_)
    clear hK K
    (try simp only [Act.put, List.setIfInBounds_toArray, List.set_cons_zero, List.set_cons_succ])
    refine wpAnyH_ready (rs := [4]) (by kernel_rfl) (by simp) (AllReadyH.cons (o := { dst := some 33, op := Op.call { callee := Callee.builtin Builtin.append, args := #[Operand.tmp 29, Operand.tmp 32], argTypes := #[28, 28] }, type := 28, pos := "outright.go:205", after := #[{ on := 0, ground := Ground.data }, { on := 3, ground := Ground.data }], guard := none }) rfl (fun K hK => ?_) AllReadyH.nil)
    refine step_append_own (by rfl) (.tmp 29) (.tmp 32) 28 (by rfl) w4.heap.size 35 i0 _ 2 16 Tryz.underlying28 hi hz0 hz1 hz2 rfl Nat.zero_lt_two (.slice (some ⟨w4.heap.size, 0, none⟩) 0 0) 0 [] (by rfl) hlit ⟨g, 0, none⟩ t cap (flat lb (prf p) t) (by rfl) (flat_length _ _ _) hnews1 (flat_one _ _ _) m1 m2 m3 ?_
    intro v1 w5 hown1 hgrow1 hnil1
    have hb5 : Below w4.heap.size w4 w5 := (((Below.refl _ _).drew).alloc (Nat.le_refl _) _).grown hgrow1 m3 (fun q hq => (hlit.lt q hq).1)
    have hnews2 := HN2.out w5 hb5
    have hS : True := trivial
    refine hK.out _ _ hS (fun _ => ?_)
    clear hK K
    (try simp only [Act.put, List.setIfInBounds_toArray, List.set_cons_zero, List.set_cons_succ])
    refine wpAnyH_ready (rs := [9]) (by kernel_rfl) (by simp) (AllReadyH.cons (o := { dst := some 38, op := Op.call { callee := Callee.builtin Builtin.append, args := #[Operand.tmp 33, Operand.tmp 37], argTypes := #[28, 28] }, type := 28, pos := "outright.go:205", after := #[{ on := 4, ground := Ground.data }, { on := 8, ground := Ground.data }, { on := 4, ground := Ground.chain }], guard := none }) rfl (fun K hK => ?_) AllReadyH.nil)
    refine step_append_own (by rfl) (.tmp 33) (.tmp 37) 28 (by rfl) w4.heap.size 35 i0 _ 2 16 Tryz.underlying28 hi hz0 hz1 hz2 rfl Nat.zero_lt_two v1 (0 + t) ([] ++ flat lb (prf p) t) (by rfl) hown1 ⟨g, 0, none⟩ (n - (t + 1)) _ (flat (fun i => lb (t + 1 + i)) (fun i => prf p (t + 1 + i)) (n - (t + 1))) (by rfl) (flat_length _ _ _) hnews2 (flat_one _ _ _) m4 m5 hb5.size ?_
    intro v2 w6 hown2 hgrow2 hnil2
    have hb6 : Below w4.heap.size w4 w6 := hb5.grown hgrow2 hb5.size (fun q hq => (hown1.lt q hq).1)
    have hS : True := trivial
    refine hK.out _ _ hS (fun _ => ?_)
    clear hK K
    (try simp only [Act.put, List.setIfInBounds_toArray, List.set_cons_zero, List.set_cons_succ])
    refine wpAnyH_take (i := 10) (oi := { dst := some 10, op := Op.assign (Operand.tmp 38), type := 28, pos := "outright.go:205", after := #[{ on := 9, ground := Ground.data }, { on := 9, ground := Ground.chain }, { on := 0, ground := Ground.phase }, { on := 1, ground := Ground.phase }, { on := 2, ground := Ground.phase }, { on := 3, ground := Ground.phase }, { on := 4, ground := Ground.phase }, { on := 5, ground := Ground.phase }, { on := 6, ground := Ground.phase }, { on := 7, ground := Ground.phase }, { on := 8, ground := Ground.phase }, { on := 9, ground := Ground.phase }], guard := none }) (v := ?_) rfl (by kernel_rfl) (by kernel_rfl) (by kernel_rfl) (fun _ _ _ h => h) (Or.inl ⟨by rfl, ?_⟩) hS ?_
    rotate_left
    · intro W hSw; skip; go_simp; (try with_reducible rfl)
    (try simp only [Act.put, List.setIfInBounds_toArray, List.set_cons_zero, List.set_cons_succ])
    refine wpAnyH_done (by kernel_rfl) ?_ _
    have hown3 : w6.ownsRow w4.heap.size 35 2 v2 (n - 1) (flat (fun i => lb (sk t i)) (fun i => prf p (sk t i)) (n - 1)) := by
      have := hown2
      rw [List.nil_append, flat_skip (prf p) n t htn, show 0 + t + (n - (t + 1)) = n - 1 by omega] at this
      exact this
    rcases hown3.2 with ⟨rfl, hz⟩ | ⟨g2, cap2, cur2, rfl, hg2, hh2, hnc2, _⟩
    · omega
    have hgl2 := (hown3.lt g2 rfl).2
    have HD0 := Lib.hid (fun i (hi : i < n - 1) => (hown3.cellAt (i * 2) (by omega)).trans (flat_get _ _ (n - 1) i hi).1)
    have HD1 := Lib.hid (fun i (hi : i < n - 1) => (hown3.cellAt (i * 2 + 1) (by omega)).trans (flat_get _ _ (n - 1) i hi).2)
    have HE : ∀ (alg : Int), 1 ≤ alg → alg ≤ 2 → ∃ V U : Int, Hid (∀ W, Below w6.heap.size w6 W → Calls Tryz.prog 31 #[.int .i64 alg, .slice (some ⟨g, 0, none⟩) n cap, .int .i64 f] W fun e w' => e = .returned (.tuple #[.int .u32 V, .bool true]) ∧ Below W.heap.size W w') ∧
        Hid (∀ W, Below w6.heap.size w6 W → Calls Tryz.prog 31 #[.int .i64 alg, .slice (some ⟨g2, 0, none⟩) (n - 1) cap2, .int .i64 f] W fun e w' => e = .returned (.tuple #[.int .u32 U, .bool true]) ∧ Below W.heap.size W w') ∧
        (U == lb t) = false ∧ ((V != lb t) = false ∨ ((V != lb t) = true ∧ (V != U) = false)) := by
      intro alg ha1 ha2
      obtain ⟨s1, s2⟩ := steady_sel alg f n t (prf p) hn0 htn (by omega)
      refine ⟨lb (sel alg f n lb (prf p)), lb (sk t (sel alg f (n - 1) (fun i => lb (sk t i)) (fun i => prf p (sk t i)))), Lib.hid (fun W hW => ?_), Lib.hid (fun W hW => ?_), by simpa using s1, ?_⟩
      · refine (elect_any alg f g 0 n cap lb (prf p) W (by omega) hnc (Nat.lt_of_lt_of_le hgl (Nat.le_trans hb6.size hW.size)) (by omega)
          (fun i hi => by rw [Nat.zero_add]; exact ((hW.cell (p := ⟨g, i * 2, none⟩) (Nat.lt_of_lt_of_le hgl hb6.size)).trans (hb6.cell (p := ⟨g, i * 2, none⟩) hgl)).trans (HC0.out i hi))
          (fun i hi => by rw [Nat.zero_add]; exact ((hW.cell (p := ⟨g, i * 2 + 1, none⟩) (Nat.lt_of_lt_of_le hgl hb6.size)).trans (hb6.cell (p := ⟨g, i * 2 + 1, none⟩) hgl)).trans (HC1.out i hi))).mono ?_
        rintro e w' ⟨he, hb⟩
        exact ⟨he.trans (elR_yes ⟨lb_asc n, by omega, by omega, by omega, by omega⟩ rfl).symm, hb⟩
      · refine (elect_any alg f g2 0 (n - 1) cap2 (fun i => lb (sk t i)) (fun i => prf p (sk t i)) W (by omega) hnc2 (Nat.lt_of_lt_of_le hgl2 hW.size) (by omega)
          (fun i hi => by rw [Nat.zero_add]; exact (hW.cell (p := ⟨g2, i * 2, none⟩) hgl2).trans (HD0.out i hi))
          (fun i hi => by rw [Nat.zero_add]; exact (hW.cell (p := ⟨g2, i * 2 + 1, none⟩) hgl2).trans (HD1.out i hi))).mono ?_
        rintro e w' ⟨he, hb⟩
        exact ⟨he.trans (elR_yes ⟨asc_sk (n - 1) t, by omega, by omega, by omega, by omega⟩ rfl).symm, hb⟩
      · by_cases hv : lb (sel alg f n lb (prf p)) = lb t
        · exact .inl (by simp [hv])
        · exact .inr ⟨by simpa using hv, by rcases s2 with h | h <;> simp_all⟩
    obtain ⟨V1, U1, A1, B1, c1, d1⟩ := HE 1 (by omega) (by omega)
    obtain ⟨V2, U2, A2, B2, c2, d2⟩ := HE 2 (by omega) (by omega)
    have hcT : w6.cell? ⟨g, t * 2, none⟩ = some (.int .u32 (lb t)) := (hb6.cell (p := ⟨g, t * 2, none⟩) hgl).trans (HC0.out t htn)
    have hgl6 := Nat.lt_of_lt_of_le hgl hb6.size
    clear HE hown2 hown3 hown1 hnews1 hnews2 hnil1 hnil2 hgrow1 hgrow2 hlit
    generalize lb t = T0 at *
    rcases d1 with d1 | ⟨d1, d1'⟩ <;> rcases d2 with d2 | ⟨d2, d2'⟩
    all_goals
      go_wp2_with fail
      refine wp_loop_rounds 3 ?_
      rw [rounds_succ]
      go_wp2_with fail
      refine (A1.out _ (Below.refl _ _)).mono ?_
      rintro e w7 ⟨rfl, b7⟩
      go_wp2_with fail
      refine (B1.out _ b7).mono ?_
      rintro e w8 ⟨rfl, b8⟩
      have b68 := b7.trans (b8.mono b7.size)
      have hcT8 := (b68.cell (p := ⟨g, t * 2, none⟩) hgl6).trans hcT
      go_wp2_with fail
      rw [rounds_succ]
      go_wp2_with fail
      refine (A2.out _ b68).mono ?_
      rintro e w9 ⟨rfl, b9⟩
      have b69 := b68.trans (b9.mono b68.size)
      go_wp2_with fail
      refine (B2.out _ b69).mono ?_
      rintro e w10 ⟨rfl, b10⟩
      have b610 := b69.trans (b10.mono b69.size)
      have hcT10 := (b610.cell (p := ⟨g, t * 2, none⟩) hgl6).trans hcT
      go_wp2_with fail
      rw [rounds_succ]
      go_wp2_with fail
      go_ret
      exact ⟨rfl, b12.trans ((hb6.trans (b610.mono hb6.size)).mono b12.size)⟩
  · rw [if_neg hct] at HN2
    go_wp2_with fail
    refine wp_region_held_drew (S := fun _ => True) (by kernel_rfl) trivial (fun hS => ?_)
    refine wpAnyH_take (i := 1) (oi := { dst := some 30, op := Op.move (Operand.tmp 8), type := 28, pos := "outright.go:205", after := #[], guard := none }) (v := ?_) rfl (by kernel_rfl) (by kernel_rfl) (by kernel_rfl) (fun _ _ _ h => h) (Or.inl ⟨by rfl, ?_⟩) hS ?_
    rotate_left
    · intro W hSw; skip; go_simp; (try with_reducible rfl)
    (try simp only [Act.put, List.setIfInBounds_toArray, List.set_cons_zero, List.set_cons_succ])
    refine wpAnyH_take (i := 2) (oi := { dst := some 31, op := Op.move (Operand.tmp 9), type := 3, pos := "outright.go:205", after := #[], guard := none }) (v := ?_) rfl (by kernel_rfl) (by kernel_rfl) (by kernel_rfl) (fun _ _ _ h => h) (Or.inl ⟨by rfl, ?_⟩) hS ?_
    rotate_left
    · intro W hSw; skip; go_simp; (try with_reducible rfl)
    (try simp only [Act.put, List.setIfInBounds_toArray, List.set_cons_zero, List.set_cons_succ])
    refine wpAnyH_take (i := 3) (oi := { dst := some 32, op := Op.slice 28 (Operand.tmp 30) none (some (Operand.tmp 31)) none, type := 28, pos := "outright.go:205", after := #[{ on := 1, ground := Ground.data }, { on := 2, ground := Ground.data }], guard := none }) (v := ?_) rfl (by kernel_rfl) (by kernel_rfl) (by kernel_rfl) (fun _ _ _ h => h) (Or.inl ⟨by rfl, ?_⟩) hS ?_
    rotate_left
    · intro W hSw; skip; go_simp; (try with_reducible rfl)
    (try simp only [Act.put, List.setIfInBounds_toArray, List.set_cons_zero, List.set_cons_succ])
    refine wpAnyH_take (i := 5) (oi := { dst := some 34, op := Op.move (Operand.tmp 8), type := 28, pos := "outright.go:205", after := #[], guard := none }) (v := ?_) rfl (by kernel_rfl) (by kernel_rfl) (by kernel_rfl) (fun _ _ _ h => h) (Or.inl ⟨by rfl, ?_⟩) hS ?_
    rotate_left
    · intro W hSw; skip; go_simp; (try with_reducible rfl)
    (try simp only [Act.put, List.setIfInBounds_toArray, List.set_cons_zero, List.set_cons_succ])
    refine wpAnyH_take (i := 6) (oi := { dst := some 35, op := Op.move (Operand.tmp 9), type := 3, pos := "outright.go:205", after := #[], guard := none }) (v := ?_) rfl (by kernel_rfl) (by kernel_rfl) (by kernel_rfl) (fun _ _ _ h => h) (Or.inl ⟨by rfl, ?_⟩) hS ?_
    rotate_left
    · intro W hSw; skip; go_simp; (try with_reducible rfl)
    (try simp only [Act.put, List.setIfInBounds_toArray, List.set_cons_zero, List.set_cons_succ])
    refine wpAnyH_take (i := 7) (oi := { dst := some 36, op := Op.binOp BinOp.add 3 (Operand.tmp 35) (Operand.const (Value.int IntKind.i64 1)) 3, type := 3, pos := "outright.go:205", after := #[{ on := 6, ground := Ground.data }], guard := none }) (v := ?_) rfl (by kernel_rfl) (by kernel_rfl) (by kernel_rfl) (fun _ _ _ h => h) (Or.inl ⟨by rfl, ?_⟩) hS ?_
    rotate_left
    · intro W hSw; skip; go_simp; (try with_reducible rfl)
    (try simp only [Act.put, List.setIfInBounds_toArray, List.set_cons_zero, List.set_cons_succ])
    refine wpAnyH_take (i := 8) (oi := { dst := some 37, op := Op.slice 28 (Operand.tmp 34) (some (Operand.tmp 36)) none none, type := 28, pos := "outright.go:205", after := #[{ on := 5, ground := Ground.data }, { on := 7, ground := Ground.data }], guard := none }) (v := ?_) rfl (by kernel_rfl) (by kernel_rfl) (by kernel_rfl) (fun _ _ _ h => h) (Or.inl ⟨by rfl, ?_⟩) hS ?_
    rotate_left
    · intro W hSw; skip; go_simp; (try with_reducible rfl)
    (try simp only [Act.put, List.setIfInBounds_toArray, List.set_cons_zero, List.set_cons_succ])
    refine wpAnyH_ready (rs := [0]) (by kernel_rfl) (by simp) (AllReadyH.cons (o := { dst := some 29, op := Op.buildSlice 28 0 #[], type := 28, pos := "outright.go:205", after := #[], guard := none }) rfl (fun K hK => ?_) AllReadyH.nil)
    go_simp
    have hS : True := trivial
    refine hK.out _ _ hS (fun _ => ?_)
    clear hK K
    (try simp only [Act.put, List.setIfInBounds_toArray, List.set_cons_zero, List.set_cons_succ])
    refine wpAnyH_ready (rs := [4]) (by kernel_rfl) (by simp) (AllReadyH.cons (o := { dst := some 33, op := Op.call { callee := Callee.builtin Builtin.append, args := #[Operand.tmp 29, Operand.tmp 32], argTypes := #[28, 28] }, type := 28, pos := "outright.go:205", after := #[{ on := 0, ground := Ground.data }, { on := 3, ground := Ground.data }], guard := none }) rfl (fun K hK => ?_) AllReadyH.nil)
    refine step_append_own (by rfl) (.tmp 29) (.tmp 32) 28 (by rfl) w4.heap.size 35 i0 _ 2 16 Tryz.underlying28 hi hz0 hz1 hz2 rfl Nat.zero_lt_two (.slice (some ⟨w4.heap.size, 0, none⟩) 0 0) 0 [] (by rfl) hlit ⟨g, 0, none⟩ t cap (flat lb (prf p) t) (by rfl) (flat_length _ _ _) hnews1 (flat_one _ _ _) m1 m2 m3 ?_
    intro v1 w5 hown1 hgrow1 hnil1
    have hb5 : Below w4.heap.size w4 w5 := (((Below.refl _ _).drew).alloc (Nat.le_refl _) _).grown hgrow1 m3 (fun q hq => (hlit.lt q hq).1)
    have hnews2 := HN2.out w5 hb5
    have hS : True := trivial
    refine hK.out _ _ hS (fun _ => ?_)
    clear hK K
    (try simp only [Act.put, List.setIfInBounds_toArray, List.set_cons_zero, List.set_cons_succ])
    refine wpAnyH_ready (rs := [9]) (by kernel_rfl) (by simp) (AllReadyH.cons (o := { dst := some 38, op := Op.call { callee := Callee.builtin Builtin.append, args := #[Operand.tmp 33, Operand.tmp 37], argTypes := #[28, 28] }, type := 28, pos := "outright.go:205", after := #[{ on := 4, ground := Ground.data }, { on := 8, ground := Ground.data }, { on := 4, ground := Ground.chain }], guard := none }) rfl (fun K hK => ?_) AllReadyH.nil)
    refine step_append_own (by rfl) (.tmp 33) (.tmp 37) 28 (by rfl) w4.heap.size 35 i0 _ 2 16 Tryz.underlying28 hi hz0 hz1 hz2 rfl Nat.zero_lt_two v1 (0 + t) ([] ++ flat lb (prf p) t) (by rfl) hown1 ⟨g, (t + 1) * 2, none⟩ (n - (t + 1)) _ (flat (fun i => lb (t + 1 + i)) (fun i => prf p (t + 1 + i)) (n - (t + 1))) (by rfl) (flat_length _ _ _) hnews2 (flat_one _ _ _) m4 m5 hb5.size ?_
    intro v2 w6 hown2 hgrow2 hnil2
    have hb6 : Below w4.heap.size w4 w6 := hb5.grown hgrow2 hb5.size (fun q hq => (hown1.lt q hq).1)
    have hS : True := trivial
    refine hK.out _ _ hS (fun _ => ?_)
    clear hK K
    (try simp only [Act.put, List.setIfInBounds_toArray, List.set_cons_zero, List.set_cons_succ])
    refine wpAnyH_take (i := 10) (oi := { dst := some 10, op := Op.assign (Operand.tmp 38), type := 28, pos := "outright.go:205", after := #[{ on := 9, ground := Ground.data }, { on := 9, ground := Ground.chain }, { on := 0, ground := Ground.phase }, { on := 1, ground := Ground.phase }, { on := 2, ground := Ground.phase }, { on := 3, ground := Ground.phase }, { on := 4, ground := Ground.phase }, { on := 5, ground := Ground.phase }, { on := 6, ground := Ground.phase }, { on := 7, ground := Ground.phase }, { on := 8, ground := Ground.phase }, { on := 9, ground := Ground.phase }], guard := none }) (v := ?_) rfl (by kernel_rfl) (by kernel_rfl) (by kernel_rfl) (fun _ _ _ h => h) (Or.inl ⟨by rfl, ?_⟩) hS ?_
    rotate_left
    · intro W hSw; skip; go_simp; (try with_reducible rfl)
    (try simp only [Act.put, List.setIfInBounds_toArray, List.set_cons_zero, List.set_cons_succ])
    refine wpAnyH_done (by kernel_rfl) ?_ _
    have hown3 : w6.ownsRow w4.heap.size 35 2 v2 (n - 1) (flat (fun i => lb (sk t i)) (fun i => prf p (sk t i)) (n - 1)) := by
      have := hown2
      rw [List.nil_append, flat_skip (prf p) n t htn, show 0 + t + (n - (t + 1)) = n - 1 by omega] at this
      exact this
    rcases hown3.2 with ⟨rfl, hz⟩ | ⟨g2, cap2, cur2, rfl, hg2, hh2, hnc2, _⟩
    · omega
    have hgl2 := (hown3.lt g2 rfl).2
    have HD0 := Lib.hid (fun i (hi : i < n - 1) => (hown3.cellAt (i * 2) (by omega)).trans (flat_get _ _ (n - 1) i hi).1)
    have HD1 := Lib.hid (fun i (hi : i < n - 1) => (hown3.cellAt (i * 2 + 1) (by omega)).trans (flat_get _ _ (n - 1) i hi).2)
    have HE : ∀ (alg : Int), 1 ≤ alg → alg ≤ 2 → ∃ V U : Int, Hid (∀ W, Below w6.heap.size w6 W → Calls Tryz.prog 31 #[.int .i64 alg, .slice (some ⟨g, 0, none⟩) n cap, .int .i64 f] W fun e w' => e = .returned (.tuple #[.int .u32 V, .bool true]) ∧ Below W.heap.size W w') ∧
        Hid (∀ W, Below w6.heap.size w6 W → Calls Tryz.prog 31 #[.int .i64 alg, .slice (some ⟨g2, 0, none⟩) (n - 1) cap2, .int .i64 f] W fun e w' => e = .returned (.tuple #[.int .u32 U, .bool true]) ∧ Below W.heap.size W w') ∧
        (U == lb t) = false ∧ ((V != lb t) = false ∨ ((V != lb t) = true ∧ (V != U) = false)) := by
      intro alg ha1 ha2
      obtain ⟨s1, s2⟩ := steady_sel alg f n t (prf p) hn0 htn (by omega)
      refine ⟨lb (sel alg f n lb (prf p)), lb (sk t (sel alg f (n - 1) (fun i => lb (sk t i)) (fun i => prf p (sk t i)))), Lib.hid (fun W hW => ?_), Lib.hid (fun W hW => ?_), by simpa using s1, ?_⟩
      · refine (elect_any alg f g 0 n cap lb (prf p) W (by omega) hnc (Nat.lt_of_lt_of_le hgl (Nat.le_trans hb6.size hW.size)) (by omega)
          (fun i hi => by rw [Nat.zero_add]; exact ((hW.cell (p := ⟨g, i * 2, none⟩) (Nat.lt_of_lt_of_le hgl hb6.size)).trans (hb6.cell (p := ⟨g, i * 2, none⟩) hgl)).trans (HC0.out i hi))
          (fun i hi => by rw [Nat.zero_add]; exact ((hW.cell (p := ⟨g, i * 2 + 1, none⟩) (Nat.lt_of_lt_of_le hgl hb6.size)).trans (hb6.cell (p := ⟨g, i * 2 + 1, none⟩) hgl)).trans (HC1.out i hi))).mono ?_
        rintro e w' ⟨he, hb⟩
        exact ⟨he.trans (elR_yes ⟨lb_asc n, by omega, by omega, by omega, by omega⟩ rfl).symm, hb⟩
      · refine (elect_any alg f g2 0 (n - 1) cap2 (fun i => lb (sk t i)) (fun i => prf p (sk t i)) W (by omega) hnc2 (Nat.lt_of_lt_of_le hgl2 hW.size) (by omega)
          (fun i hi => by rw [Nat.zero_add]; exact (hW.cell (p := ⟨g2, i * 2, none⟩) hgl2).trans (HD0.out i hi))
          (fun i hi => by rw [Nat.zero_add]; exact (hW.cell (p := ⟨g2, i * 2 + 1, none⟩) hgl2).trans (HD1.out i hi))).mono ?_
        rintro e w' ⟨he, hb⟩
        exact ⟨he.trans (elR_yes ⟨asc_sk (n - 1) t, by omega, by omega, by omega, by omega⟩ rfl).symm, hb⟩
      · by_cases hv : lb (sel alg f n lb (prf p)) = lb t
        · exact .inl (by simp [hv])
        · exact .inr ⟨by simpa using hv, by rcases s2 with h | h <;> simp_all⟩
    obtain ⟨V1, U1, A1, B1, c1, d1⟩ := HE 1 (by omega) (by omega)
    obtain ⟨V2, U2, A2, B2, c2, d2⟩ := HE 2 (by omega) (by omega)
    have hcT : w6.cell? ⟨g, t * 2, none⟩ = some (.int .u32 (lb t)) := (hb6.cell (p := ⟨g, t * 2, none⟩) hgl).trans (HC0.out t htn)
    have hgl6 := Nat.lt_of_lt_of_le hgl hb6.size
    clear HE hown2 hown3 hown1 hnews1 hnews2 hnil1 hnil2 hgrow1 hgrow2 hlit
    generalize lb t = T0 at *
    rcases d1 with d1 | ⟨d1, d1'⟩ <;> rcases d2 with d2 | ⟨d2, d2'⟩
    all_goals
      go_wp2_with fail
      refine wp_loop_rounds 3 ?_
      rw [rounds_succ]
      go_wp2_with fail
      refine (A1.out _ (Below.refl _ _)).mono ?_
      rintro e w7 ⟨rfl, b7⟩
      go_wp2_with fail
      refine (B1.out _ b7).mono ?_
      rintro e w8 ⟨rfl, b8⟩
      have b68 := b7.trans (b8.mono b7.size)
      have hcT8 := (b68.cell (p := ⟨g, t * 2, none⟩) hgl6).trans hcT
      go_wp2_with fail
      rw [rounds_succ]
      go_wp2_with fail
      refine (A2.out _ b68).mono ?_
      rintro e w9 ⟨rfl, b9⟩
      have b69 := b68.trans (b9.mono b68.size)
      go_wp2_with fail
      refine (B2.out _ b69).mono ?_
      rintro e w10 ⟨rfl, b10⟩
      have b610 := b69.trans (b10.mono b69.size)
      have hcT10 := (b610.cell (p := ⟨g, t * 2, none⟩) hgl6).trans hcT
      go_wp2_with fail
      rw [rounds_succ]
      go_wp2_with fail
      go_ret
      exact ⟨rfl, b12.trans ((hb6.trans (b610.mono hb6.size)).mono b12.size)⟩
theorem steady_all (A : Value) (which bd : Int) (p : Nat → Int) (n : Nat) (hn : n ≤ 20) (w : World) (h30 : ∀ W, Below w.heap.size w W → Calls Tryz.prog 30 #[A] W (CandPost W p n)) :
    Calls Tryz.prog 7 #[A, .int .i64 which, .int .i64 bd] w fun e w' => e = .returned (.bool true) ∧ Below w.heap.size w w' := by
  by_cases h : n < 2
  · exact steady_few A which bd n h w (fun W hW => (h30 W hW).mono fun e w' hp => cand_slice hp)
  · exact steady_any A which bd p n (by omega) hn w h30
end Go.Proofs.YtiellonfgcmaaaaGreat
