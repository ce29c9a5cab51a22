/- The walk of the law: 'SegmentTurns' returns true at whatever preferences. -/
import Derived.Test.YtiellonfgcmaaaaGreatWc
import Derived.Test.YtiellonfgcmaaaaGreatAw
namespace Go.Proofs.YtiellonfgcmaaaaGreat
open Go.RowKit Go.ChangeShapes

theorem lb_asc (n : Nat) : Asc lb n := fun i _ => by unfold lb; omega
/-- Who is elected in turn j. -/
def trn (f : Int) (n : Nat) (j : Nat) : Int := lb ((f + j) % n).toNat
theorem trn_ne (f : Int) (n j k : Nat) (hk : k < n) (hj : j < k) : trn f n j ≠ trn f n k := by
  unfold trn lb
  have h0 : (0 : Int) < n := by omega
  have e1 := Int.emod_nonneg (f + j) (by omega : (n : Int) ≠ 0)
  have e2 := Int.emod_nonneg (f + k) (by omega : (n : Int) ≠ 0)
  intro h
  have h' : (f + j) % n = (f + k) % n := by omega
  have h2 : ((f + k) - (f + j)) % n = 0 := by rw [Int.sub_emod, h', Int.sub_self]; rfl
  have h3 : (f + k) - (f + j) = ((k - j : Nat) : Int) := by omega
  rw [h3] at h2
  have h4 : ((k - j : Nat) : Int) % n = ((k - j : Nat) : Int) := Int.emod_eq_of_lt (by omega) (by omega)
  omega
theorem trn_all (f : Int) (n i : Nat) (hi : i < n) : ∃ j, j < n ∧ trn f n j = lb i := by
  have h0 : (0 : Int) < n := by omega
  have e1 := Int.emod_nonneg ((i : Int) - f) (by omega : (n : Int) ≠ 0)
  have e2 := Int.emod_lt_of_pos ((i : Int) - f) h0
  refine ⟨(((i : Int) - f) % n).toNat, by omega, ?_⟩
  unfold trn
  rw [Int.toNat_of_nonneg e1]
  have : (f + ((i : Int) - f) % n) % n = (i : Int) := by
    rw [Int.add_emod, Int.emod_emod, ← Int.add_emod, show f + ((i : Int) - f) = i by omega]
    exact Int.emod_eq_of_lt (by omega) (by omega)
  rw [this]
  rfl
def seenL (f : Int) (n : Nat) (k : Nat) : List Value := (List.range k).map fun j => Value.int .u32 (trn f n j)
theorem seenL_length (f : Int) (n k : Nat) : (seenL f n k).length = k := by simp [seenL]
theorem seenL_get (f : Int) (n k i : Nat) (hi : i < k) : (seenL f n k)[i]? = some (.int .u32 (trn f n i)) := by simp [seenL, hi]
theorem seenL_succ (f : Int) (n k : Nat) : seenL f n (k + 1) = seenL f n k ++ [.int .u32 (trn f n k)] := by simp [seenL, List.range_succ]
theorem info33 : (Tryz.prog.info? 33).map (fun i => (i.zero, i.size, i.bytes)) = some (some (.int .u32 0), 1, 4) := by kernel_rfl

theorem ownsRow_below {w w' : World} {base e size n : Nat} {v : Value} {xs : List Value} (h : w.ownsRow base e size v n xs) (hb : Below w.heap.size w w') : w'.ownsRow base e size v n xs := by
  refine ⟨h.1, ?_⟩
  rcases h.2 with h2 | ⟨g, cap, cur, h3, h4, h5, h6⟩
  · exact .inl h2
  · have hg : g < w.heap.size := by
      rcases Nat.lt_or_ge g w.heap.size with hlt | hge
      · exact hlt
      · rw [Array.getElem?_eq_none hge] at h5; cases h5
    exact .inr ⟨g, cap, cur, h3, h4, (hb.block g hg).trans h5, h6⟩
/-- 'Has' at a row of the call's own. -/
theorem has_own (base m : Nat) (v : Value) (f : Int) (n : Nat) (x : Int) (w : World) (hm : m ≤ 100) (hown : w.ownsRow base 33 1 v m (seenL f n m)) :
    Calls Tryz.prog 28 #[v, .int .u32 x] w fun e w' => e = .returned (.bool (hasB (trn f n) x m)) ∧ w' = w := by
  rcases hown.2 with ⟨rfl, rfl⟩ | ⟨g, cap, cur, rfl, _⟩
  · exact has_none none 0 _ w
  · exact has_any g m cap (trn f n) x w hm (fun i hi => by rw [hown.cellAt i (by omega)]; exact seenL_get f n m i hi)

/-- No candidates. -/
theorem turns_zero (A : Value) (first : Int) (w : World) (h30 : ∀ W, Below w.heap.size w W → Calls Tryz.prog 30 #[A] W fun e w' => e = .returned (.slice none 0 0) ∧ Below W.heap.size W w') :
    Calls Tryz.prog 6 #[A, .int .i64 first] w fun e w' => e = .returned (.bool true) ∧ Below w.heap.size w w' := by
  have H30 := Lib.hid h30
  have HP := Lib.hid (fun w => pick_any first 1048576 (by omega) (by omega) w)
  clear h30
  go_enter Tryz.func6, Tryz.ntmps6
  go_wp2_with fail
  refine (awake_any _).mono ?_
  rintro e w1 ⟨rfl, b1⟩
  go_wp2_with fail
  refine (H30.out _ b1).mono ?_
  rintro e w2 ⟨rfl, b2⟩
  go_wp2_with fail
  refine (HP.out _).mono ?_
  rintro e w3 ⟨rfl, hw3⟩
  subst hw3
  go_wp2_with fail
  refine wp_loop_rounds 1 ?_
  rw [rounds_succ]
  go_wp2_with fail
  refine wp_loop_rounds 1 ?_
  rw [rounds_succ]
  go_wp2_with fail
  go_ret
  exact ⟨rfl, b1.trans (b2.mono b1.size)⟩

set_option maxRecDepth 100000 in
set_option maxHeartbeats 16000000 in
theorem turns_any (A : Value) (first : Int) (p : Nat → Int) (n : Nat) (hn0 : 0 < n) (hn : n ≤ 20) (w : World) (h30 : ∀ W, Below w.heap.size w W → Calls Tryz.prog 30 #[A] W (CandPost W p n)) :
    Calls Tryz.prog 6 #[A, .int .i64 first] w fun e w' => e = .returned (.bool true) ∧ Below w.heap.size w w' := by
  obtain ⟨i0, hi, hz0, hz1, hz2⟩ := info_parts info33
  have H30 := Lib.hid h30
  have HP := Lib.hid (fun w => pick_any first 1048576 (by omega) (by omega) w)
  have hf0 := Int.emod_nonneg first (by omega : (1048576 : Int) ≠ 0)
  have hf1 := Int.emod_lt_of_pos first (by omega : (0 : Int) < 1048576)
  obtain ⟨f, hf⟩ : ∃ f, f = first % 1048576 := ⟨_, rfl⟩
  rw [← hf] at HP hf0 hf1
  clear hf h30
  go_enter Tryz.func6, Tryz.ntmps6
  go_wp2_with fail
  refine (awake_any _).mono ?_
  rintro e w1 ⟨rfl, b1⟩
  go_wp2_with fail
  refine (H30.out _ b1).mono ?_
  rintro e w2 ⟨v, rfl, hown, b2⟩
  rcases hown.2 with ⟨rfl, hz⟩ | ⟨g, cap, cur, rfl, hg, hh, hnc, _⟩
  · omega
  have hgl := (hown.lt g rfl).2
  have HC0 := Lib.hid (fun i (hi : i < n) => (hown.cellAt (i * 2) (by omega)).trans (flat_get lb (prf p) n i hi).1)
  have HC1 := Lib.hid (fun i (hi : i < n) => (hown.cellAt (i * 2 + 1) (by omega)).trans (flat_get lb (prf p) n i hi).2)
  have b12 := b1.trans (b2.mono b1.size)
  have H31 : Hid (∀ (W : World) (k : Nat), k < n → Below w2.heap.size w2 W → Calls Tryz.prog 31 #[.int .i64 0, .slice (some ⟨g, 0, none⟩) n cap, .int .i64 (f + k)] W fun e w' => e = .returned (.tuple #[.int .u32 (trn f n k), .bool true]) ∧ Below W.heap.size W w') := by
    intro W k hk hW
    refine (elect_any 0 (f + k) g 0 n cap lb (prf p) W (by omega) hnc (Nat.lt_of_lt_of_le hgl hW.size) (by omega)
      (fun i hi => by rw [Nat.zero_add]; exact (hW.cell (p := ⟨g, i * 2, none⟩) hgl).trans (HC0.out i hi)) (fun i hi => by rw [Nat.zero_add]; exact (hW.cell (p := ⟨g, i * 2 + 1, none⟩) hgl).trans (HC1.out i hi))).mono ?_
    rintro e w' ⟨he, hb⟩
    exact ⟨he.trans (elR_yes ⟨lb_asc n, hn0, by omega, by omega, by omega⟩ (by simp [sel, trn])).symm, hb⟩
  clear hown
  go_wp2_with fail
  refine (HP.out _).mono ?_
  rintro e w3 ⟨rfl, hw3⟩
  subst hw3
  go_wp2_with fail
  go_loopw [7, 8] (fun s i wr => ∃ k : Nat, k ≤ n ∧ i = .int .i64 k ∧ wr.ownsRow w3.heap.size 33 1 s k (seenL f n k) ∧ Below w3.heap.size w3 wr) (fun _ i _ => n - (intOf i).toNat)
  case atStart => exact ⟨0, Nat.zero_le _, rfl, World.ownsRow_nil _ _ _ _, Below.refl _ _⟩
  case round =>
    obtain ⟨k, hk, rfl, hs, hbl⟩ := hrel
    by_cases hlt : k < n
    · have hlt' : (k : Int) < n := by omega
      have h0' : (0 : Int) ≤ k := by omega
      go_wp2_with fail
      refine (H31.out _ k hlt hbl).mono ?_
      rintro e w4 ⟨rfl, b4⟩
      have hs4 := ownsRow_below hs b4
      have hb4 := hbl.trans (b4.mono hbl.size)
      have HN : Hid (∀ w, w.ownsRow w3.heap.size 33 1 u7 k (seenL f n k) → Calls Tryz.prog 28 #[u7, .int .u32 (trn f n k)] w fun e w' => e = .returned (.bool false) ∧ w' = w) :=
        fun w h => hasB_false (s := trn f n) (fun j hj => trn_ne f n j k hlt hj) ▸ has_own w3.heap.size k u7 f n _ w (by omega) h
      have hg4 := hb4.size
      go_wp2_with fail
      refine (HN.out _ hs4).mono ?_
      rintro e w5 ⟨rfl, hw5⟩
      subst hw5
      have m1 : k + 1 ≤ maxLen := by unfold maxLen; omega
      have m2 : (k + 1) * 4 ≤ 140737488355328 := by omega
      have m4 : w3.heap.size ≤ (w5.alloc (.cells #[.int .u32 (trn f n k)] 33)).heap.size := by simp; omega
      have hnews : ∀ j u, [Value.int .u32 (trn f n k)][j]? = some u → (w5.alloc (.cells #[.int .u32 (trn f n k)] 33)).cell? ((⟨w5.heap.size, 0, none⟩ : Addr).add j) = some u :=
        World.news_of_block (cs := #[.int .u32 (trn f n k)]) (t := 33) (fr := (0, 0)) (heap_alloc_new _ _)
      have hone : ∀ u ∈ [Value.int .u32 (trn f n k)], u.oneCell' = true := by simp [Value.oneCell']
      have HNW := Lib.hid hnews
      have HS4 := Lib.hid hs4
      have HB4 := Lib.hid hb4
      have HS := Lib.hid hs
      clear hnews hs4 hb4 hs
      go_wp2_with (at_builtin; refine wpList_append_own _ rfl (.tmp 38) (.tmp 40) 37 rfl w3.heap.size 33 i0 _ 1 4 Tryz.underlying37 hi hz0 hz1 hz2 rfl Nat.zero_lt_one u7 k (seenL f n k) rfl (HS4.out.alloc _) ⟨w5.heap.size, 0, none⟩ 1 1 [.int .u32 (trn f n k)] rfl rfl HNW.out hone m1 m2 m4 ?_; intro v' w6 hown1 hgrow hnil)
      go_roundw
      case rel => exact ⟨k + 1, by omega, by go_num, by rw [seenL_succ]; exact hown1, (HB4.out.alloc HB4.out.size _).grown hgrow m4 (fun q hq => (HS4.out.lt q hq).1)⟩
      case measure => simp [intOf]; omega
    · have hkn : k = n := by omega
      subst hkn
      have hge : ¬ (k : Int) < k := by omega
      have HS := Lib.hid hs
      clear hs
      go_wp2_with fail
      go_loopw [11] (fun i wq => ∃ q : Nat, q ≤ k ∧ i = .int .i64 q ∧ wq = wr) (fun i _ => k - (intOf i).toNat)
      case atStart => exact ⟨0, Nat.zero_le _, rfl, rfl⟩
      case round =>
        obtain ⟨q, hq, rfl, rfl⟩ := hrel
        by_cases hlt : q < k
        · have hlt' : (q : Int) < k := by omega
          have h0' : (0 : Int) ≤ q := by omega
          have c0 := (hbl.cell (p := ⟨g, q * 2, none⟩) hgl).trans (HC0.out q hlt)
          obtain ⟨j, hj, hje⟩ := trn_all f k q hlt
          have HT : Hid (∀ w, w.ownsRow w3.heap.size 33 1 u7 k (seenL f k k) → Calls Tryz.prog 28 #[u7, .int .u32 (lb q)] w fun e w' => e = .returned (.bool true) ∧ w' = w) :=
            fun w h => hasB_true (s := trn f k) j hj hje ▸ has_own w3.heap.size k u7 f k _ w (by omega) h
          clear hje
          go_wp2_with fail
          refine (HT.out _ HS.out).mono ?_
          rintro e w5 ⟨rfl, hw5⟩
          subst hw5
          go_wp2_with fail
          go_roundw
          case rel => exact ⟨q + 1, by omega, by go_num, trivial⟩
          case measure => simp [intOf]; omega
        · have hge' : ¬ (q : Int) < k := by omega
          go_wp2_with fail
          go_ret
          exact ⟨rfl, b12.trans (hbl.mono b12.size)⟩
end Go.Proofs.YtiellonfgcmaaaaGreat
