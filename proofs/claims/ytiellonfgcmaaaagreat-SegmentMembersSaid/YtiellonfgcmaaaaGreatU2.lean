/- The law of candidates and members, with no program in sight. -/
import Derived.Test.YtiellonfgcmaaaaGreatV3
import Derived.Test.YtiellonfgcmaaaaGreatU1
import Derived.Lib.SlicesCompact
import Derived.Lib.RowBridge
import Derived.Deep.AppendLies
import Derived.Laws.Bits64b
namespace Go.Proofs.YtiellonfgcmaaaaGreat

/-- Strictly ascending by the address. -/
def AscC (l : List (Int × Int)) : Prop := l.Pairwise fun x y => x.1 < y.1
/-- 'out' holds, of each address in 'L', the first entry. -/
def Firsts (out L : List (Int × Int)) : Prop := ∀ c, c ∈ out ↔ L.find? (fun y => y.1 == c.1) = some c

theorem firsts_nil : Firsts [] [] := fun c => by simp
theorem firsts_has {out L : List (Int × Int)} (h : Firsts out L) (x : Int) : (∃ c ∈ out, c.1 = x) ↔ ∃ c ∈ L, c.1 = x := by
  constructor
  · rintro ⟨c, hc, rfl⟩
    exact ⟨c, List.mem_of_find?_eq_some ((h c).1 hc), rfl⟩
  · rintro ⟨c, hc, rfl⟩
    have : (L.find? (fun y => y.1 == c.1)).isSome := by
      rw [List.find?_isSome]; exact ⟨c, hc, by simp⟩
    obtain ⟨d, hd⟩ := Option.isSome_iff_exists.1 this
    have h1 : d.1 = c.1 := by simpa using List.find?_some hd
    exact ⟨d, (h d).2 (by rw [h1]; exact hd), h1⟩
theorem firsts_old {out L : List (Int × Int)} (h : Firsts out L) (x : Int × Int) (hx : ∃ c ∈ out, c.1 = x.1) : Firsts out (L ++ [x]) := by
  intro c
  rw [h c, List.find?_append]
  by_cases e : x.1 = c.1
  · obtain ⟨d, hd, h1⟩ := hx
    have h2 := (h d).1 hd
    rw [show d.1 = c.1 by rw [h1, e]] at h2
    rw [h2]; simp
  · simp [e]
theorem firsts_new {out out' L : List (Int × Int)} (h : Firsts out L) (x : Int × Int) (hx : ∀ c ∈ out, c.1 ≠ x.1) (ho : ∀ c, c ∈ out' ↔ c ∈ out ∨ c = x) : Firsts out' (L ++ [x]) := by
  have hL : ∀ c ∈ L, c.1 ≠ x.1 := fun c hc he => by
    obtain ⟨d, hd, h1⟩ := (firsts_has h x.1).2 ⟨c, hc, he⟩
    exact hx d hd h1
  intro c
  rw [ho c, h c, List.find?_append]
  by_cases e : x.1 = c.1
  · have h0 : L.find? (fun y => y.1 == c.1) = none := by
      rw [List.find?_eq_none]; intro y hy; have := hL y hy; rw [e] at this; simpa using this
    rw [h0]; simp [e]; exact ⟨fun h => h.symm, fun h => h.symm⟩
  · have : c ≠ x := fun h => e (by rw [h])
    simp [e, this]

theorem asc_ext {α : Type} (f : α → Int) {l l' : List α} (h : l.Pairwise fun x y => f x < f y) (h' : l'.Pairwise fun x y => f x < f y) (hm : ∀ c, c ∈ l ↔ c ∈ l') : l = l' := by
  induction l generalizing l' with
  | nil => cases l' with
    | nil => rfl
    | cons y ys => exact absurd ((hm y).2 (by simp)) (by simp)
  | cons x xs ih =>
    cases l' with
    | nil => exact absurd ((hm x).1 (by simp)) (by simp)
    | cons y ys =>
      obtain ⟨h1, h2⟩ := List.pairwise_cons.1 h
      obtain ⟨k1, k2⟩ := List.pairwise_cons.1 h'
      have hxy : x = y := by
        rcases List.mem_cons.1 ((hm x).1 (by simp)) with e | e
        · exact e
        · rcases List.mem_cons.1 ((hm y).2 (by simp)) with e' | e'
          · exact e'.symm
          · have a := k1 x e; have b := h1 y e'; omega
      subst hxy
      congr 1
      refine ih h2 k2 fun c => ?_
      constructor
      · intro hc
        rcases List.mem_cons.1 ((hm c).1 (by simp [hc])) with e | e
        · subst e; exact absurd (h1 _ hc) (by omega)
        · exact e
      · intro hc
        rcases List.mem_cons.1 ((hm c).2 (by simp [hc])) with e | e
        · subst e; exact absurd (k1 _ hc) (by omega)
        · exact e
theorem firsts_unique {a b L : List (Int × Int)} (ha : AscC a) (hb : AscC b) (fa : Firsts a L) (fb : Firsts b L) : a = b :=
  asc_ext (fun x : Int × Int => x.1) (show a.Pairwise _ from ha) (show b.Pairwise _ from hb) fun c => (fa c).trans (fb c).symm
/-- The addresses of the candidates, ascending, are the members. -/
theorem members_unique {a L : List (Int × Int)} {m : List Int} (ha : AscC a) (fa : Firsts a L) (hm : m.Pairwise (· < ·)) (hmm : ∀ x, x ∈ m ↔ ∃ c ∈ L, c.1 = x) : m = a.map (·.1) := by
  refine asc_ext (fun x => x) hm ?_ fun c => ?_
  · rw [List.pairwise_map]; exact ha
  · rw [hmm c, ← firsts_has fa c]; simp

/-- What the program has of the algorithm after the elections 'A'. -/
def AlgP (A : List (Int × Bool)) (alg : Int) (agree : Bool) : Prop :=
  (A = [] ∧ alg = -1 ∧ agree = true) ∨ ∃ h t, A = h :: t ∧ 0 ≤ h.1 ∧ alg = h.1 ∧ (agree = true ↔ ∀ y ∈ A, y.2 = true ∧ y.1 = h.1)
/-- What the reference has of it. -/
def AlgR (A : List (Int × Bool)) (alg : Int) (all : Bool) : Prop :=
  (A = [] ∧ alg = -1 ∧ all = true) ∨ ∃ h t, A = h :: t ∧ 0 ≤ alg ∧ (all = true ↔ ∀ y ∈ A, y.2 = true ∧ y.1 = h.1) ∧ (all = true → alg = h.1)
theorem algP_step {A : List (Int × Bool)} {alg : Int} {agree : Bool} (h : AlgP A alg agree) (a : Int) (is : Bool) (ha : 0 ≤ a) :
    AlgP (A ++ [(a, is)]) (if alg = -1 then a else alg) (agree && is && decide (a = if alg = -1 then a else alg)) := by
  rcases h with ⟨rfl, rfl, rfl⟩ | ⟨h, t, rfl, h0, rfl, h2⟩
  · exact .inr ⟨(a, is), [], rfl, ha, by simp, by simp⟩
  · refine .inr ⟨h, t ++ [(a, is)], rfl, h0, by rw [if_neg (by omega)], ?_⟩
    rw [if_neg (by omega)]
    simp only [Bool.and_eq_true, decide_eq_true_eq, h2]
    constructor
    · rintro ⟨⟨h3, h4⟩, h5⟩ y hy
      rcases List.mem_append.1 hy with h | h
      · exact h3 y h
      · obtain rfl : y = (a, is) := by simpa using h
        exact ⟨h4, h5⟩
    · intro h3
      have := h3 (a, is) (by simp)
      exact ⟨⟨fun y hy => h3 y (List.mem_append.2 (.inl hy)), this.1⟩, this.2⟩
theorem algR_step {A : List (Int × Bool)} {alg : Int} {all : Bool} (h : AlgR A alg all) (a : Int) (is : Bool) (ha : 0 ≤ a) :
    AlgR (A ++ [(a, is)]) a (if is = false ∨ 0 ≤ alg ∧ a ≠ alg then false else all) := by
  rcases h with ⟨rfl, rfl, rfl⟩ | ⟨h, t, rfl, h0, h2, h3⟩
  · refine .inr ⟨(a, is), [], rfl, ha, ?_, ?_⟩ <;> cases is <;> simp
  · refine .inr ⟨h, t ++ [(a, is)], rfl, ha, ?_, ?_⟩
    · constructor
      · intro hh
        split at hh
        · cases hh
        · rename_i hn
          have hi : is = true := by cases is <;> simp_all
          have he : a = alg := by
            apply Decidable.byContradiction; intro hne; exact hn (.inr ⟨h0, hne⟩)
          intro y hy
          rcases List.mem_append.1 hy with h' | h'
          · exact h2.1 hh y h'
          · obtain rfl : y = (a, is) := by simpa using h'
            exact ⟨hi, he.trans (h3 hh)⟩
      · intro hh
        have h1 := hh (a, is) (by simp)
        have h4 : all = true := h2.2 fun y hy => hh y (List.mem_append.2 (.inl hy))
        rw [if_neg, h4]
        rintro (h5 | ⟨_, h5⟩)
        · rw [show is = true from h1.1] at h5; cases h5
        · exact h5 (h1.2.trans (h3 h4).symm)
    · intro hh
      split at hh
      · cases hh
      · rename_i hn
        have he : a = alg := by
          apply Decidable.byContradiction; intro hne; exact hn (.inr ⟨h0, hne⟩)
        exact he.trans (h3 hh)
theorem alg_same {A : List (Int × Bool)} {p r : Int} {agree all : Bool} (hp : AlgP A p agree) (hr : AlgR A r all) :
    (if agree = false ∨ p < 0 ∨ 2 < p then 0 else p) = (if all = false ∨ r < 0 ∨ 2 < r then (0 : Int) else r) := by
  rcases hp with ⟨rfl, rfl, rfl⟩ | ⟨h, t, rfl, h0, rfl, h2⟩
  · rcases hr with ⟨_, rfl, rfl⟩ | ⟨h, t, h', _⟩
    · simp
    · cases h'
  · rcases hr with ⟨h', _⟩ | ⟨h', t', he, k0, k2, k3⟩
    · cases h'
    · obtain ⟨rfl, rfl⟩ : h = h' ∧ t = t' := by simpa using he
      have e : agree = all := by
        rw [Bool.eq_iff_iff, h2, k2]
      subst e
      cases agree with
      | false => simp
      | true => rw [k3 rfl]
end Go.Proofs.YtiellonfgcmaaaaGreat

/- The members of a segment. -/
namespace Go.Proofs.YtiellonfgcmaaaaGreat
open Go.RowKit Go.ChangeShapes

theorem compact_up (d : Array Int) (hs : ∀ i j, i ≤ j → j < d.size → d[i]! ≤ d[j]!) (m : Nat) (hm : m ≤ d.size) :
    (Lib.compactUpTo d m).Pairwise (· < ·) ∧ (∀ x, x ∈ Lib.compactUpTo d m ↔ ∃ j, j < m ∧ d[j]! = x) := by
  induction m with
  | zero => exact ⟨by simp [Lib.compactUpTo], fun x => by simp [Lib.compactUpTo]⟩
  | succ m ih =>
    obtain ⟨h1, h2⟩ := ih (by omega)
    rw [Lib.compactUpTo_succ]
    cases hk : Lib.keeps d m with
    | true =>
      simp only [if_true]
      refine ⟨List.pairwise_append.2 ⟨h1, by simp, fun x hx y hy => ?_⟩, fun x => ?_⟩
      · obtain rfl : y = d[m]! := by simpa using hy
        obtain ⟨j, hj, rfl⟩ := (h2 x).1 hx
        have hk' : m = 0 ∨ d[m]! ≠ d[m - 1]! := by simpa [Lib.keeps] using hk
        have a := hs j (m - 1) (by omega) (by omega)
        have b := hs (m - 1) m (by omega) (by omega)
        rcases hk' with h | h
        · omega
        · omega
      · rw [List.mem_append, h2 x]
        constructor
        · rintro (⟨j, hj, e⟩ | e)
          · exact ⟨j, by omega, e⟩
          · exact ⟨m, by omega, by have : x = d[m]! := by simpa using e
                                   exact this.symm⟩
        · rintro ⟨j, hj, e⟩
          by_cases hjm : j = m
          · subst hjm; exact .inr (by simp [e])
          · exact .inl ⟨j, by omega, e⟩
    | false =>
      have hk' : ¬ (m = 0 ∨ d[m]! ≠ d[m - 1]!) := by simpa [Lib.keeps] using hk
      have hm0 : ¬ m = 0 := fun h => hk' (.inl h)
      have he : d[m]! = d[m - 1]! := Decidable.byContradiction fun h => hk' (.inr h)
      simp only [Bool.false_eq_true, if_false, List.append_nil]
      refine ⟨h1, fun x => ?_⟩
      rw [h2 x]
      constructor
      · rintro ⟨j, hj, e⟩; exact ⟨j, by omega, e⟩
      · rintro ⟨j, hj, e⟩
        by_cases hjm : j = m
        · subst hjm; exact ⟨j - 1, by omega, he ▸ e⟩
        · exact ⟨j, by omega, e⟩
/-- The sorted list without repeats: strictly ascending, the same elements. -/
theorem compact_sorted (zs : List Int) : (Lib.compact (zs.mergeSort fun x y => decide (x ≤ y))).Pairwise (· < ·) ∧ ∀ x, x ∈ Lib.compact (zs.mergeSort fun x y => decide (x ≤ y)) ↔ x ∈ zs := by
  obtain ⟨l, hl⟩ : ∃ l, l = zs.mergeSort fun x y => decide (x ≤ y) := ⟨_, rfl⟩
  have hp : l.Pairwise fun x y => x ≤ y := by
    rw [hl]
    have := List.pairwise_mergeSort (le := fun x y : Int => decide (x ≤ y)) (fun a b c h h' => by simp at *; omega) (fun a b => by simp; omega) zs
    simpa using this
  have hmem : ∀ x, x ∈ l ↔ x ∈ zs := fun x => by rw [hl]; exact List.mem_mergeSort
  rw [← hl]
  have hs : ∀ i j, i ≤ j → j < l.toArray.size → l.toArray[i]! ≤ l.toArray[j]! := by
    intro i j hij hj
    have hj' : j < l.length := by simpa using hj
    simp only [List.getElem!_toArray]
    rw [getElem!_pos l i (by omega), getElem!_pos l j hj']
    rcases Nat.lt_or_ge i j with h | h
    · exact List.pairwise_iff_getElem.1 hp i j (by omega) hj' h
    · obtain rfl : i = j := by omega
      exact Int.le_refl _
  obtain ⟨h1, h2⟩ := compact_up l.toArray hs l.length (by simp)
  refine ⟨h1, fun x => (h2 x).trans ?_⟩
  rw [← hmem x, List.mem_iff_getElem]
  constructor
  · rintro ⟨j, hj, e⟩
    simp only [List.getElem!_toArray] at e
    rw [getElem!_pos l j hj] at e
    exact ⟨j, hj, e⟩
  · rintro ⟨j, hj, e⟩
    refine ⟨j, hj, ?_⟩
    simp only [List.getElem!_toArray]
    rw [getElem!_pos l j hj]; exact e
theorem below_at {N : Nat} {w0 w : World} {blk off n : Nat} {α : Type} [Inhabited α] {enc : α → Value} {d : Array α} {os : Array Obj} (h : Below N w0 w) (hN : N ≤ blk) (hb : blk < w.heap.size) :
    Below N w0 (Sort.grow (Sort.putRow enc (Sort.ahead w n) blk off d) os) := by
  refine ⟨h.os, h.tape, h.output, ?_, fun k hk => ?_⟩
  · have := h.size; simp; omega
  · rw [Sort.heap_grow_old _ _ (by simp; omega), ← h.block k hk]
    simp only [Sort.putRow, Sort.mapBlock, Sort.ahead, Array.getElem?_modify]
    rw [if_neg (by omega)]
/-- The addresses of routes. -/
def nexts (fs : List RT) : List Int := fs.map fun r => r.g 23
def u32s (zs : List Int) : List Value := zs.map (.int .u32)
set_option maxRecDepth 100000 in
set_option maxHeartbeats 1000000 in
theorem members_walk (A : Option Addr) (c : Nat) (rs : List RT) (s : Nat → Int) (w : World) (hn : rs.length ≤ 60) (h : Routes w A rs) :
    Calls Tryz.prog 16 #[.slice A rs.length c, .agg (esiL s).toArray] w fun e w' => ∃ A' zs c', e = .returned (.slice A' zs.length c') ∧ Row w' A' zs.length c' 1 (u32s zs) ∧ zs.Pairwise (· < ·) ∧ (∀ x, x ∈ zs ↔ x ∈ nexts (rs.filter (selR s))) ∧ zs.length ≤ 60 ∧ Below w.heap.size w w' := by
  obtain ⟨i0, hi, hz0, hz1, hz2⟩ := info_parts info33w
  have RT0 := Lib.hid h
  have B0 : Hid (Below w.heap.size w (w.alloc (.cells (esiL s).toArray 24))) := (Below.refl _ _).alloc (Nat.le_refl _) _
  have BOX : (w.alloc (.cells (esiL s).toArray 24)).rangeAt w.heap.size 0 (esiL s) := range_new w (esiL s) 24
  have FL : (rs.filter (selR s)).length ≤ 60 := Nat.le_trans (List.length_filter_le _ _) hn
  obtain ⟨fs, hfs⟩ : ∃ fs, fs = rs.filter (selR s) := ⟨_, rfl⟩
  have OF := Lib.hid (fun W hR => of_any A c rs s W hn hR)
  rw [← hfs] at OF FL ⊢
  clear hfs h
  obtain ⟨n, hnn⟩ : ∃ n, n = rs.length := ⟨_, rfl⟩
  rw [← hnn] at OF hn ⊢
  clear hnn
  go_enter Tryz.func16, Tryz.ntmps16
  go_wp2_with (first
    | ((with_reducible show wpList _ _ _ _ _ _); (refine wpList_load_mid rfl 24 (.tmp 3) rfl w.heap.size 0 rfl (esiL s) _ BOX Tryz.underlying24 rfl info24w ?_))
    | (go_at_call 41; fail))
  refine (OF.out _ (RT0.out.below B0.out)).mono ?_
  rintro e w1 ⟨v, rfl, hv, q1⟩
  obtain ⟨A1, c1, rfl, hR1⟩ := routes_of_row hv
  have b1 : Below w.heap.size w w1 := B0.out.trans (q1.mono B0.out.size)
  obtain ⟨m, hm⟩ : ∃ m, m = fs.length := ⟨_, rfl⟩
  rw [← hm] at FL ⊢
  have HM := Lib.hid hm
  have B1 := Lib.hid b1
  have R1 := Lib.hid hR1
  clear hv q1 hm b1 hR1 BOX
  go_wp2
  go_loopw [5, 12] (fun v i wr => ∃ k : Nat, k ≤ m ∧ i = .int .i64 k ∧ wr.ownsRow w1.heap.size 33 1 v k (u32s (nexts (fs.take k))) ∧ Below w1.heap.size w1 wr) (fun _ i _ => m - (intOf i).toNat)
  case atStart => exact ⟨0, Nat.zero_le _, rfl, World.ownsRow_nil _ _ _ _, Below.refl _ _⟩
  case round =>
    obtain ⟨k, hk, rfl, hown, hbl⟩ := hrel
    by_cases hlt : k < m
    · obtain ⟨r, hr⟩ : ∃ r, fs[k]? = some r := ⟨_, List.getElem?_eq_getElem (by rw [← HM.out]; exact hlt)⟩
      have TS : Hid (fs.take (k + 1) = fs.take k ++ [r]) := take_snoc hr
      rcases R1.out with h0 | ⟨b, off, rfl, hl⟩
      · rw [h0] at hr; cases hr
      have hlt' : (k : Int) < m := by omega
      have h0' : (0 : Int) ≤ k := by omega
      have RG : wr.rangeAt b (off + k * 38) r.cells := fun j v hj => (hbl.cell (by exact hl.1)).trans (hl.2 k j r v hr hj)
      have m1 : k + 1 ≤ maxLen := by unfold maxLen; omega
      have m2 : (k + 1) * 4 ≤ 140737488355328 := by omega
      have HO := Lib.hid hown
      have HBL := Lib.hid hbl
      have sz := Lib.hid hbl.size
      clear hown hbl hr hl
      go_wp2_with (first
        | ((with_reducible show wpList _ _ _ _ _ _); first
            | (refine wpList_load_mid rfl 58 (.tmp 14) rfl b (off + k * 38) rfl r.cells _ RG Tryz.underlying58 rfl info58w ?_)
            | (refine wpList_store_new rfl rfl 58 (.tmp 7) (.tmp 15) rfl _ _ r.cells rfl rfl rfl rfl info58w r.one ?_
               have c23 : (wr.alloc (.cells r.cells.toArray 58)).cell? ⟨wr.heap.size, 23, none⟩ = some (.int .u32 (r.g 23)) := range_new wr r.cells 58 23 _ rfl
               have b2 : Below wr.heap.size wr (wr.alloc (.cells r.cells.toArray 58)) := (Below.refl _ _).alloc (Nat.le_refl _) _
               generalize hW2 : wr.alloc (.cells r.cells.toArray 58) = W2 at c23 b2 ⊢
               clear hW2
               have hown2 : (W2.alloc (.cells #[.int .u32 (r.g 23)] 33)).ownsRow w1.heap.size 33 1 u5 k (u32s (nexts (fs.take k))) := (ownsRow_below HO.out b2).alloc _
               have m4 : w1.heap.size ≤ (W2.alloc (.cells #[.int .u32 (r.g 23)] 33)).heap.size := by have := b2.size; have := sz.out; simp; omega)
            | (at_builtin; refine wpList_append_own _ rfl (.tmp 16) (.tmp 20) 37 rfl w1.heap.size 33 i0 _ 1 4 Tryz.underlying37 hi hz0 hz1 hz2 rfl (by decide) u5 k _ rfl hown2 ⟨W2.heap.size, 0, none⟩ 1 1 [.int .u32 (r.g 23)] rfl rfl (cell_one_new _ _ _) (fun u hu => by rw [List.mem_singleton.1 hu]; rfl) m1 m2 m4 ?_; intro v' w2 hown3 hgrow hnil)))
      exact ⟨⟨k + 1, by omega, by go_num, by rw [TS.out]; simpa [u32s, nexts] using hown3, ((HBL.out.trans (b2.mono sz.out)).alloc (by have := b2.size; have := sz.out; omega) _).grown hgrow m4 (fun g hg => (HO.out.lt g hg).1)⟩, by simp [intOf]; omega⟩
    · obtain rfl : k = m := by omega
      have hzs : nexts (fs.take k) = nexts fs := by rw [HM.out, List.take_length]
      rw [hzs] at hown
      have hlen : (nexts fs).length = k := by rw [HM.out]; simp [nexts]
      have sz := hbl.size
      rcases hown.2 with ⟨rfl, hz⟩ | ⟨g, cap, cur, rfl, hg, hh, hnc, _⟩
      · have e0 : nexts fs = [] := List.eq_nil_of_length_eq_zero (by rw [hlen, hz])
        have HE := Lib.hid e0
        have HBL := Lib.hid hbl
        clear hzs hlen e0 hown hbl hz HM
        go_wp2_with (first
          | (go_at_call 50; refine (sort32_none _ _ _).mono ?_; rintro e w2 ⟨rfl, rfl⟩)
          | (go_at_call 51; refine (compact32_none _ _ _).mono ?_; rintro e w3 ⟨rfl, rfl⟩))
        go_ret
        exact ⟨_, [], _, rfl, .inl ⟨rfl, rfl⟩, .nil, by simp [HE.out], by simp, B1.out.trans (HBL.out.mono B1.out.size)⟩
      · have hH : Sort.Holds e32 wr g 0 (nexts fs).toArray := fun j hj => by
          have hj' : j < (nexts fs).length := by simpa using hj
          have h1 := hown.cellAt j (by omega)
          refine ⟨?_, by have := hown.frozenAt j; rwa [Nat.zero_add]⟩
          rw [Nat.zero_add, h1]
          simp only [u32s, List.getElem?_map, List.getElem?_eq_getElem hj', List.getElem!_toArray, getElem!_pos (nexts fs) j hj', Option.map_some]
        have hgl := (hown.lt g rfl).2
        have S := sort32_list g 0 cap (nexts fs) wr hH hgl (by omega)
        rw [hlen] at S
        obtain ⟨ys, hys⟩ : ∃ ys, ys = (nexts fs).mergeSort fun x y => decide (x ≤ y) := ⟨_, rfl⟩
        have CS := compact_sorted (nexts fs)
        rw [← hys] at S CS
        have hyl : ys.length = k := by rw [hys, List.length_mergeSort, hlen]
        have C : ∀ W, Sort.Holds e32 W g 0 ys.toArray → Calls Tryz.prog 51 #[.slice (some ⟨g, 0, none⟩) k cap] W _ := fun W hW => by
          have := compact32 g 0 cap ys W hW (by omega) (by omega)
          rw [hyl] at this
          exact this
        have HC := Lib.hid C
        have HS := Lib.hid S
        have HCS := Lib.hid CS
        have HH := Lib.hid hH
        have HYL := Lib.hid hyl
        have HHL := Lib.hid hlen
        have HBL := Lib.hid hbl
        clear C S CS hH hyl hlen hbl hzs hown hys hh
        go_wp2_with (first
          | (go_at_call 50; refine Calls.mono HS.out ?_; rintro e w2 ⟨rfl, hat⟩)
          | (go_at_call 51; refine (HC.out _ (hat.holds HH.out (by simp [HYL.out, HHL.out]) hgl).1).mono ?_; rintro e w3 ⟨rfl, hq⟩))
        go_ret
        obtain ⟨h2, hg2⟩ := hat.holds HH.out (by simp [HYL.out, HHL.out]) hgl
        have hcl := Lib.compact_length_le ys
        have hD := Sort.holds_putRow e32 (Sort.ahead w2 _) g 0 ys.toArray (Lib.compact ys ++ List.replicate (k - (Lib.compact ys).length) 0).toArray (Sort.holds_ahead _ _ hq.choose _ _ _ h2) (by simp [HYL.out]; have := HYL.out; omega)
        rw [← hq.choose_spec] at hD
        have b2 : Below w1.heap.size w1 w2 := by
          obtain ⟨n', os, rfl⟩ := hat
          exact below_at HBL.out hg hgl
        have b3 : Below w1.heap.size w1 w3 := by
          have := below_at (off := 0) (n := hq.choose) (enc := e32) (d := (Lib.compact ys ++ List.replicate (k - (Lib.compact ys).length) 0).toArray) (os := #[]) b2 hg hg2
          rw [Sort.grow_empty, ← hq.choose_spec] at this
          exact this
        refine ⟨_, Lib.compact ys, _, rfl, .inr ⟨g, 0, rfl, by rw [hq.choose_spec]; simpa using hg2, by have := HYL.out; omega, by simp [u32s], fun j u hj => ?_⟩, HCS.out.1, HCS.out.2, by have := HYL.out; omega, B1.out.trans (b3.mono B1.out.size)⟩
        have hjl : j < (Lib.compact ys).length := by have := (List.getElem?_eq_some_iff.1 hj).1; simpa [u32s] using this
        rw [(hD j (by simp; omega)).1]
        simp only [u32s, List.getElem?_map, List.getElem?_eq_getElem hjl, Option.map_some, Option.some.injEq] at hj
        rw [← hj, List.getElem!_toArray, getElem!_pos _ j (by simp; omega), List.getElem_append_left hjl]
end Go.Proofs.YtiellonfgcmaaaaGreat

/- The reference's insertion of a candidate. -/
namespace Go.Proofs.YtiellonfgcmaaaaGreat
open Go.RowKit Go.ChangeShapes

/-- An append, at a step of a region that draws its order. -/
theorem step_append_own' {P : Program} {w : World} {ops : Array Oper} {o : Oper} {a : Act} {K : Act → World → Prop} {Q : Exit → Act → World → Prop} {E : Prop} (hgd : o.guard = none) (s x : Operand) (t : TypeId)
    (ho : o.op = .call { callee := .builtin .append, args := #[s, x], argTypes := #[t, t] })
    (base : Nat) (e : TypeId) (i : TypeInfo) (z : Value) (size bytes : Nat) (ht : P.underlying t = some (.slice e)) (hi : P.info? e = some i) (hz : i.zero = some z)
    (hsize : i.size = size) (hby : i.bytes = bytes) (hzs : z.cells.size = size) (hsz : 0 < size)
    (v : Value) (n : Nat) (xs : List Value) (hs : a.eval s = v) (hown : w.ownsRow base e size v n xs)
    (ad : Addr) (m c : Nat) (news : List Value) (hx : a.eval x = .slice (some ad) m c) (hl : news.length = m * size) (hnews : ∀ j u, news[j]? = some u → w.cell? (ad.add j) = some u) (h1 : ∀ u ∈ news, u.oneCell' = true)
    (h63 : n + m ≤ maxLen) (hbytes : (n + m) * bytes ≤ 140737488355328) (hbase : base ≤ w.heap.size)
    (h : ∀ v' w', w'.ownsRow base e size v' (n + m) (xs ++ news) → w.grownBy w' v.ownBlock → (v' = .slice none 0 0 ↔ v = .slice none 0 0 ∧ m = 0) → K (a.put o.dst v') w') :
    if Region.wanted o (yielded ops a.tmps) = true then Oper.wp P o a w K Q else E := by
  have hw : Region.wanted o (yielded ops a.tmps) = true := by simp [Region.wanted, hgd]
  rw [if_pos hw]
  exact wp_append_own w s x t ho base e i z size bytes ht hi hz hsize hby hzs hsz v n xs hs hown ad m c news hx hl hnews h1 h63 hbytes hbase h

def candL (l : List (Int × Int)) : List Value := l.flatMap encC
theorem candL_len (l : List (Int × Int)) : (candL l).length = l.length * 2 := flat8 2 (fun _ => rfl)
theorem candL_one {l : List (Int × Int)} : ∀ u ∈ candL l, u.oneCell' = true := by
  intro u hu
  obtain ⟨x, _, h⟩ := List.mem_flatMap.1 hu
  simp only [encC, List.mem_cons, List.not_mem_nil, or_false] at h
  rcases h with rfl | rfl <;> rfl
theorem candL_get {l : List (Int × Int)} {i : Nat} {x : Int × Int} (h : l[i]? = some x) : (candL l)[i * 2]? = some (.int .u32 x.1) ∧ (candL l)[i * 2 + 1]? = some (.int .i64 x.2) :=
  ⟨(flat_at (j := 0) 2 (fun _ => rfl) h (by decide)).trans rfl, (flat_at (j := 1) 2 (fun _ => rfl) h (by decide)).trans rfl⟩
theorem candL_split (l : List (Int × Int)) (k : Nat) (hk : k ≤ l.length) : candL l = candL (l.take k) ++ candL (l.drop k) ∧ (candL (l.take k)).length = k * 2 := by
  refine ⟨?_, by rw [candL_len, List.length_take]; congr 1; omega⟩
  rw [candL, candL, candL, ← List.flatMap_append, List.take_append_drop]
/-- What 'put' does to an ascending list. -/
structure PutP (l : List (Int × Int)) (x : Int × Int) (l' : List (Int × Int)) : Prop where
  asc : AscC l'
  len : l'.length ≤ l.length + 1
  how : (l' = l ∧ ∃ c ∈ l, c.1 = x.1) ∨ ((∀ c ∈ l, c.1 ≠ x.1) ∧ ∀ c, c ∈ l' ↔ c ∈ l ∨ c = x)
theorem putP_old {l : List (Int × Int)} {x c : Int × Int} {i : Nat} (ha : AscC l) (hc : l[i]? = some c) (he : c.1 = x.1) : PutP l x l :=
  ⟨ha, by omega, .inl ⟨rfl, c, List.mem_of_getElem? hc, he⟩⟩
theorem putP_new {l : List (Int × Int)} {x : Int × Int} {k : Nat} (ha : AscC l) (hk : k ≤ l.length) (h1 : ∀ j c, j < k → l[j]? = some c → c.1 < x.1) (h2 : ∀ j c, k ≤ j → l[j]? = some c → x.1 < c.1) : PutP l x (l.take k ++ x :: l.drop k) := by
  have hm1 : ∀ c ∈ l.take k, c.1 < x.1 := fun c hc => by
    obtain ⟨j, hj⟩ := List.mem_iff_getElem?.1 hc
    rw [List.getElem?_take] at hj
    split at hj
    · rename_i h; exact h1 j c h hj
    · cases hj
  have hm2 : ∀ c ∈ l.drop k, x.1 < c.1 := fun c hc => by
    obtain ⟨j, hj⟩ := List.mem_iff_getElem?.1 hc
    rw [List.getElem?_drop] at hj
    exact h2 (k + j) c (by omega) hj
  have hml : ∀ c, c ∈ l ↔ c ∈ l.take k ∨ c ∈ l.drop k := fun c => by rw [← List.mem_append, List.take_append_drop]
  refine ⟨?_, by simp; omega, .inr ⟨fun c hc he => ?_, fun c => ?_⟩⟩
  · refine List.pairwise_append.2 ⟨ha.sublist (List.take_sublist _ _), List.pairwise_cons.2 ⟨hm2, ha.sublist (List.drop_sublist _ _)⟩, fun a h b hb => ?_⟩
    rcases List.mem_cons.1 hb with rfl | hb
    · exact hm1 a h
    · have := hm1 a h; have := hm2 b hb; omega
  · rcases (hml c).1 hc with h | h
    · have := hm1 c h; omega
    · have := hm2 c h; omega
  · rw [List.mem_append, List.mem_cons, hml c]
    constructor
    · rintro (h | h | h)
      · exact .inl (.inl h)
      · exact .inr h
      · exact .inl (.inr h)
    · rintro ((h | h) | h)
      · exact .inl h
      · exact .inr (.inr h)
      · exact .inr (.inl h)
theorem row_of_own {w : World} {base n : Nat} {v : Value} {l : List (Int × Int)} (h : w.ownsRow base 35 2 v n (candL l)) (h0 : v ≠ .slice none 0 0) : ∃ A c, v = .slice A l.length c ∧ n = l.length ∧ Row w A l.length c 2 (candL l) ∧ A ≠ none := by
  have hn : n = l.length := by have := h.1; rw [candL_len] at this; omega
  subst hn
  rcases h.2 with ⟨rfl, hz⟩ | ⟨g, cap, cur, rfl, hg, hh, hnc, _⟩
  · exact absurd rfl h0
  · refine ⟨_, _, rfl, rfl, .inr ⟨g, 0, rfl, (h.lt g rfl).2, hnc, candL_len l, fun j u hj => ?_⟩, by simp⟩
    have hjl : j < l.length * 2 := by have := (List.getElem?_eq_some_iff.1 hj).1; rwa [candL_len] at this
    rw [Nat.zero_add, h.cellAt j hjl]; exact hj
theorem two_one {p q : Int} : ∀ u ∈ ([.int .u32 p, .int .i64 q] : List Value), u.oneCell' = true := by
  intro u hu
  simp only [List.mem_cons, List.not_mem_nil, or_false] at hu
  rcases hu with rfl | rfl <;> rfl
def PutPost (w : World) (l : List (Int × Int)) (x : Int × Int) (e : Ending) (w' : World) : Prop := ∃ A' l' c', e = .returned (.slice A' l'.length c') ∧ A' ≠ none ∧ l' ≠ [] ∧ Row w' A' l'.length c' 2 (candL l') ∧ PutP l x l' ∧ Below w.heap.size w w'
set_option maxRecDepth 100000 in
set_option maxHeartbeats 1000000 in
theorem put_some (g off c : Nat) (l : List (Int × Int)) (p q : Int) (w : World) (hn : l.length ≤ 60) (ha : AscC l) (hl0 : 0 < l.length) (hrow : Row w (some ⟨g, off, none⟩) l.length c 2 (candL l)) :
    Calls Tryz.prog 49 #[.slice (some ⟨g, off, none⟩) l.length c, .agg #[.int .u32 p, .int .i64 q]] w (PutPost w l (p, q)) := by
  obtain ⟨i0, hi, hz0, hz1, hz2⟩ := info_parts info35
  have HROW := Lib.hid hrow
  rcases hrow with ⟨h0, _⟩ | ⟨b, o, hbo, hgl, hnc, hcl, hcells⟩
  · omega
  cases hbo
  obtain ⟨n, hnl⟩ : ∃ n, n = l.length := ⟨_, rfl⟩
  rw [← hnl] at hn hl0 hnc ⊢
  have NL := Lib.hid hnl
  have HA := Lib.hid ha
  have HCL := Lib.hid hcells
  have HG := Lib.hid hgl
  clear hnl ha hcells hcl hgl
  have BW : Hid (∀ m, Below w.heap.size w ((w.alloc (.cells #[.int .u32 p, .int .i64 q] 35)).drewN m)) := fun m => ((Below.refl _ _).alloc (Nat.le_refl _) _).trans ((drewN_below _ _).mono (by simp))
  go_enter Tryz.func49, Tryz.ntmps49
  go_wp2
  go_loopw [5, 6] (fun kv iv wr => ∃ (k i m : Nat), i ≤ n ∧ k ≤ i ∧ kv = .int .i64 k ∧ iv = .int .i64 i ∧ wr = (w.alloc (.cells #[.int .u32 p, .int .i64 q] 35)).drewN m ∧
      Hid ((∀ j c, j < k → l[j]? = some c → c.1 < p) ∧ ∀ j c, k ≤ j → j < i → l[j]? = some c → p < c.1)) (fun _ i _ => n - (intOf i).toNat)
  case atStart => exact ⟨0, 0, 0, Nat.zero_le _, Nat.le_refl _, rfl, rfl, rfl, fun j c hj => by omega, fun j c _ hj => by omega⟩
  case round =>
    obtain ⟨k, i, m, hi', hki, rfl, rfl, rfl, hinv⟩ := hrel
    by_cases hlt : i < n
    · obtain ⟨⟨x, y⟩, hx⟩ : ∃ x, l[i]? = some x := ⟨_, List.getElem?_eq_getElem (by rw [← NL.out]; exact hlt)⟩
      have HX := Lib.hid hx
      have e0 : w.cell? ⟨g, off + i * 2, none⟩ = some (.int .u32 x) := HCL.out (i * 2) _ (candL_get hx).1
      have hg := HG.out
      clear hx
      by_cases hxp : x = p
      · have hxp' : (x == p) = true := by simp [hxp]
        have XP := Lib.hid hxp
        clear hxp
        go_wp2
        go_quiet (fail)
        go_wp2
        go_ret
        refine ⟨some ⟨g, off, none⟩, l, c, by rw [← NL.out]; rfl, by simp, by rintro rfl; have := NL.out; simp at this; omega, ?_, putP_old HA.out HX.out XP.out, ?_⟩
        · exact HROW.out.below (by simpa only [World.drewN_drewN] using BW.out _)
        · simpa only [World.drewN_drewN] using BW.out _
      · have hxp' : (x == p) = false := by simp [hxp]
        by_cases hlp : x < p
        · have NX := Lib.hid hlp
          clear hxp
          go_wp2
          go_quiet (fail)
          go_wp2
          go_quiet (fail)
          go_wp2
          go_roundw
          case rel =>
            refine ⟨i + 1, i + 1, _, by omega, Nat.le_refl _, by go_num, by go_num, rfl, fun j c hj hc => ?_, fun j c h1 h2 => by omega⟩
            rcases Nat.lt_or_ge j i with h | h
            · have := List.pairwise_iff_getElem.1 HA.out j i (by rw [← NL.out]; omega) (by rw [← NL.out]; omega) h
              have h3 : l[j]'(by rw [← NL.out]; omega) = c := by have := List.getElem?_eq_some_iff.1 hc; exact this.2
              have h4 : l[i]'(by rw [← NL.out]; omega) = (x, y) := by have := List.getElem?_eq_some_iff.1 HX.out; exact this.2
              rw [h3, h4] at this
              have h5 := NX.out
              simp only at this
              omega
            · obtain rfl : j = i := by omega
              rw [HX.out] at hc
              cases hc
              exact NX.out
          case measure => simp [intOf]; omega
        · have NX := Lib.hid (show p < x by omega)
          have hlp' : ¬ x < p := hlp
          clear hxp
          go_wp2
          go_quiet (fail)
          go_wp2
          go_quiet (fail)
          go_wp2
          go_roundw
          case rel =>
            refine ⟨k, i + 1, _, by omega, by omega, rfl, by go_num, rfl, hinv.out.1, fun j c h1 h2 hc => ?_⟩
            rcases Nat.lt_or_ge j i with h | h
            · exact hinv.out.2 j c h1 h hc
            · obtain rfl : j = i := by omega
              rw [HX.out] at hc
              cases hc
              exact NX.out
          case measure => simp [intOf]; omega
    · obtain rfl : n = i := by omega
      have hbw : Below w.heap.size w ((w.alloc (.cells #[.int .u32 p, .int .i64 q] 35)).drewN m) := BW.out m
      have hc0 : ((w.alloc (.cells #[.int .u32 p, .int .i64 q] 35)).drewN m).cell? ⟨w.heap.size, 0, none⟩ = some (.int .u32 p) := by simp
      have hc1 : ((w.alloc (.cells #[.int .u32 p, .int .i64 q] 35)).drewN m).cell? ⟨w.heap.size, 1, none⟩ = some (.int .i64 q) := by simp
      have hsz : ((w.alloc (.cells #[.int .u32 p, .int .i64 q] 35)).drewN m).heap.size = w.heap.size + 1 := by simp
      generalize (w.alloc (.cells #[.int .u32 p, .int .i64 q] 35)).drewN m = Wr at hbw hc0 hc1 hsz ⊢
      obtain ⟨N, hN⟩ : ∃ N, N = w.heap.size + 1 := ⟨_, rfl⟩
      have s1 : N ≤ Wr.drew.heap.size := by show N ≤ Wr.heap.size; omega
      have hgN : g < N := by have := HG.out; omega
      have SB1 : Hid (∀ W, Below N Wr.drew W → W.cell? ⟨w.heap.size, 0, none⟩ = some (.int .u32 p) ∧ W.cell? ⟨w.heap.size, 1, none⟩ = some (.int .i64 q)) := fun W hW =>
        ⟨(hW.cell (by show w.heap.size < N; omega)).trans hc0, (hW.cell (by show w.heap.size < N; omega)).trans hc1⟩
      have HLW : Hid (∀ W, Below N Wr.drew W → ∀ j u, (candL l)[j]? = some u → W.cell? ⟨g, off + j, none⟩ = some u) := fun W hW j u hj => (hW.cell (by exact hgN)).trans ((hbw.cell (by exact HG.out)).trans (HCL.out j u hj))
      have hkn : k ≤ l.length := by rw [← NL.out]; exact hki
      have CSP := Lib.hid (candL_split l k hkn)
      have HL1 : Hid (∀ W, Below N Wr.drew W → ∀ j u, (candL (l.take k))[j]? = some u → W.cell? ((⟨g, off, none⟩ : Addr).add j) = some u) := fun W hW j u hj => by
        rw [addr_add']
        exact HLW.out W hW j u (by rw [CSP.out.1, List.getElem?_append_left (List.getElem?_eq_some_iff.1 hj).1]; exact hj)
      have LT : (candL (l.take k)).length = k * 2 := CSP.out.2
      have LD : (candL (l.drop k)).length = (n - k) * 2 := by rw [candL_len, List.length_drop, NL.out]
      have FIN : Hid (∀ v3 w7, w7.ownsRow N 35 2 v3 (0 + k + 1 + (n - k)) ([] ++ candL (l.take k) ++ [.int .u32 p, .int .i64 q] ++ candL (l.drop k)) → Below N Wr.drew w7 → PutPost w l (p, q) (.returned v3) w7) := fun v3 w7 h1 h2 => by
        have e : ([] ++ candL (l.take k) ++ [.int .u32 p, .int .i64 q] ++ candL (l.drop k) : List Value) = candL (l.take k ++ (p, q) :: l.drop k) := by simp [candL, encC]
        rw [e] at h1
        obtain ⟨A, c', rfl, h4, h5, h6⟩ := row_of_own h1 (fun h => by
          subst h
          rcases h1.2 with ⟨_, hz⟩ | ⟨g', cap, cur, e', _⟩
          · omega
          · cases e')
        exact ⟨A, _, c', rfl, h6, by simp, h5, putP_new HA.out hkn hinv.out.1 (fun j c h7 h8 => hinv.out.2 j c h7 (by have := (List.getElem?_eq_some_iff.1 h8).1; rw [NL.out]; exact this) h8), hbw.drew.trans (h2.mono (show w.heap.size ≤ N by omega))⟩
      have m1 : 0 + k ≤ maxLen := by unfold maxLen; omega
      have m2 : (0 + k) * 16 ≤ 140737488355328 := by omega
      have m3 : 0 + k + 1 ≤ maxLen := by unfold maxLen; omega
      have m4 : (0 + k + 1) * 16 ≤ 140737488355328 := by omega
      have m5 : 0 + k + 1 + (n - k) ≤ maxLen := by unfold maxLen; omega
      have m6 : (0 + k + 1 + (n - k)) * 16 ≤ 140737488355328 := by omega
      have k0 : (0 : Int) ≤ k := by omega
      have k1 : (k : Int) ≤ n := by omega
      have k2 : (k : Int) ≤ c := by omega
      have k3 : (n : Int) ≤ c := by omega
      have HSZ := Lib.hid hsz
      clear hsz hc0 hc1 hbw hN BW HROW hinv
      by_cases hct : c = k
      · have hct' : (c = k) = True := eq_true hct
        have HL2 : Hid (∀ W, Below N Wr.drew W → ∀ j u, (candL (l.drop k))[j]? = some u → W.cell? ((⟨g, off, none⟩ : Addr).add j) = some u) := by
          intro W _ j u hj
          rw [show l.drop k = [] by apply List.drop_eq_nil_of_le; have := NL.out; omega] at hj
          cases hj
        clear hct
        go_wp2_with fail
        refine wp_region_held_drew (S := fun W => W.cell? ⟨w.heap.size, 0, none⟩ = some (.int .u32 p) ∧ W.cell? ⟨w.heap.size, 1, none⟩ = some (.int .i64 q)) (by kernel_rfl) (SB1.out _ (Below.refl _ _)) (fun hS => ?_)
        refine wpAnyH_take (i := 1) (oi := { dst := some 33, op := Op.move (Operand.tmp 0), type := 28, pos := "ref.go:43", after := #[], guard := none }) (v := ?_) rfl (by kernel_rfl) (by kernel_rfl) (by kernel_rfl) (fun _ _ _ h => h) (Or.inl ⟨by rfl, ?_⟩) hS ?_
        rotate_left
        · intro W hSw; (try dsimp only at hSw); obtain ⟨_, _⟩ := hSw; go_simp; (try with_reducible rfl)
        (try simp only [Act.put, List.setIfInBounds_toArray, List.set_cons_zero, List.set_cons_succ])
        refine wpAnyH_take (i := 2) (oi := { dst := some 34, op := Op.move (Operand.tmp 5), type := 3, pos := "ref.go:43", after := #[], guard := none }) (v := ?_) rfl (by kernel_rfl) (by kernel_rfl) (by kernel_rfl) (fun _ _ _ h => h) (Or.inl ⟨by rfl, ?_⟩) hS ?_
        rotate_left
        · intro W hSw; (try dsimp only at hSw); obtain ⟨_, _⟩ := hSw; go_simp; (try with_reducible rfl)
        (try simp only [Act.put, List.setIfInBounds_toArray, List.set_cons_zero, List.set_cons_succ])
        refine wpAnyH_take (i := 3) (oi := { dst := some 35, op := Op.slice 28 (Operand.tmp 33) none (some (Operand.tmp 34)) none, type := 28, pos := "ref.go:43", after := #[{ on := 1, ground := Ground.data }, { on := 2, ground := Ground.data }], guard := none }) (v := ?_) rfl (by kernel_rfl) (by kernel_rfl) (by kernel_rfl) (fun _ _ _ h => h) (Or.inl ⟨by rfl, ?_⟩) hS ?_
        rotate_left
        · intro W hSw; (try dsimp only at hSw); obtain ⟨_, _⟩ := hSw; go_simp; (try with_reducible rfl)
        (try simp only [Act.put, List.setIfInBounds_toArray, List.set_cons_zero, List.set_cons_succ])
        refine wpAnyH_take (i := 8) (oi := { dst := some 40, op := Op.move (Operand.tmp 0), type := 28, pos := "ref.go:43", after := #[], guard := none }) (v := ?_) rfl (by kernel_rfl) (by kernel_rfl) (by kernel_rfl) (fun _ _ _ h => h) (Or.inl ⟨by rfl, ?_⟩) hS ?_
        rotate_left
        · intro W hSw; (try dsimp only at hSw); obtain ⟨_, _⟩ := hSw; go_simp; (try with_reducible rfl)
        (try simp only [Act.put, List.setIfInBounds_toArray, List.set_cons_zero, List.set_cons_succ])
        refine wpAnyH_take (i := 9) (oi := { dst := some 41, op := Op.move (Operand.tmp 5), type := 3, pos := "ref.go:43", after := #[], guard := none }) (v := ?_) rfl (by kernel_rfl) (by kernel_rfl) (by kernel_rfl) (fun _ _ _ h => h) (Or.inl ⟨by rfl, ?_⟩) hS ?_
        rotate_left
        · intro W hSw; (try dsimp only at hSw); obtain ⟨_, _⟩ := hSw; go_simp; (try with_reducible rfl)
        (try simp only [Act.put, List.setIfInBounds_toArray, List.set_cons_zero, List.set_cons_succ])
        refine wpAnyH_take (i := 10) (oi := { dst := some 42, op := Op.slice 28 (Operand.tmp 40) (some (Operand.tmp 41)) none none, type := 28, pos := "ref.go:43", after := #[{ on := 8, ground := Ground.data }, { on := 9, ground := Ground.data }], guard := none }) (v := ?_) rfl (by kernel_rfl) (by kernel_rfl) (by kernel_rfl) (fun _ _ _ h => h) (Or.inl ⟨by rfl, ?_⟩) hS ?_
        rotate_left
        · intro W hSw; (try dsimp only at hSw); obtain ⟨_, _⟩ := hSw; go_simp; (try with_reducible rfl)
        (try simp only [Act.put, List.setIfInBounds_toArray, List.set_cons_zero, List.set_cons_succ])
        refine wpAnyH_take (i := 5) (oi := { dst := some 37, op := Op.load 35 (Operand.tmp 3), type := 35, pos := "ref.go:43", after := #[], guard := none }) (v := ?_) rfl (by kernel_rfl) (by kernel_rfl) (by kernel_rfl) (fun _ _ _ h => h) (Or.inl ⟨by rfl, ?_⟩) hS ?_
        rotate_left
        · intro W hSw; (try dsimp only at hSw); obtain ⟨_, _⟩ := hSw; go_simp; (try with_reducible rfl)
        (try simp only [Act.put, List.setIfInBounds_toArray, List.set_cons_zero, List.set_cons_succ])
        refine wpAnyH_ready (rs := [0, 6]) (by kernel_rfl) (by simp) (AllReadyH.cons (o := { dst := some 32, op := Op.buildSlice 28 0 #[], type := 28, pos := "ref.go:43", after := #[], guard := none }) rfl (fun K hK => ?_) (AllReadyH.cons (o := { dst := some 38, op := Op.buildSlice 28 1 #[(0, Operand.tmp 37)], type := 28, pos := "ref.go:43", after := #[{ on := 5, ground := Ground.data }], guard := none }) rfl (fun K hK => ?_) AllReadyH.nil))
        · go_simp
          have hS := SB1.out _ ((Below.refl N Wr.drew).alloc s1 (.cells #[] 35))
          refine hK.out _ _ hS (fun _ => ?_)
          clear hK K
          (try simp only [Act.put, List.setIfInBounds_toArray, List.set_cons_zero, List.set_cons_succ])
          refine wpAnyH_ready (rs := [4, 6]) (by kernel_rfl) (by simp) (AllReadyH.cons (o := { dst := some 36, op := Op.call { callee := Callee.builtin Builtin.append, args := #[Operand.tmp 32, Operand.tmp 35], argTypes := #[28, 28] }, type := 28, pos := "ref.go:43", after := #[{ on := 0, ground := Ground.data }, { on := 3, ground := Ground.data }], guard := none }) rfl (fun K hK => ?_) (AllReadyH.cons (o := { dst := some 38, op := Op.buildSlice 28 1 #[(0, Operand.tmp 37)], type := 28, pos := "ref.go:43", after := #[{ on := 5, ground := Ground.data }], guard := none }) rfl (fun K hK => ?_) AllReadyH.nil))
          · skip
            have hlit : (Wr.drew.alloc (.cells #[] 35)).ownsRow N 35 2 (.slice (some ⟨Wr.heap.size, 0, none⟩) 0 0) 0 [] := World.ownsRow_lit Wr.drew #[] 0 s1 (Nat.zero_le _) rfl
            have e4 := HL1.out _ ((Below.refl N Wr.drew).alloc s1 (.cells #[] 35))
            refine step_append_own' (by rfl) (.tmp 32) (.tmp 35) 28 (by rfl) N 35 i0 _ 2 16 Tryz.underlying28 hi hz0 hz1 hz2 rfl Nat.zero_lt_two (.slice (some ⟨Wr.heap.size, 0, none⟩) 0 0) 0 [] (by rfl) hlit ⟨g, off, none⟩ k c (candL (l.take k)) (by rfl) LT e4 candL_one m1 m2 (Nat.le_trans s1 ((Below.refl N Wr.drew).alloc s1 (.cells #[] 35)).size) ?_
            intro v1 w5 hown1 hgrow1 _
            have b5 : Below N Wr.drew w5 := ((Below.refl N Wr.drew).alloc s1 (.cells #[] 35)).grown hgrow1 (Nat.le_trans s1 ((Below.refl N Wr.drew).alloc s1 (.cells #[] 35)).size) (fun x hx => (hlit.lt x hx).1)
            have hS := SB1.out _ (b5)
            refine hK.out _ _ hS (fun _ => ?_)
            clear hK K
            (try simp only [Act.put, List.setIfInBounds_toArray, List.set_cons_zero, List.set_cons_succ])
            refine wpAnyH_ready (rs := [6]) (by kernel_rfl) (by simp) (AllReadyH.cons (o := { dst := some 38, op := Op.buildSlice 28 1 #[(0, Operand.tmp 37)], type := 28, pos := "ref.go:43", after := #[{ on := 5, ground := Ground.data }], guard := none }) rfl (fun K hK => ?_) AllReadyH.nil)
            go_simp
            have hS := SB1.out _ (b5.alloc (by have := b5.size; omega) (.cells #[.int .u32 p, .int .i64 q] 35))
            refine hK.out _ _ hS (fun _ => ?_)
            clear hK K
            (try simp only [Act.put, List.setIfInBounds_toArray, List.set_cons_zero, List.set_cons_succ])
            refine wpAnyH_ready (rs := [7]) (by kernel_rfl) (by simp) (AllReadyH.cons (o := { dst := some 39, op := Op.call { callee := Callee.builtin Builtin.append, args := #[Operand.tmp 36, Operand.tmp 38], argTypes := #[28, 28] }, type := 28, pos := "ref.go:43", after := #[{ on := 4, ground := Ground.data }, { on := 6, ground := Ground.data }, { on := 4, ground := Ground.chain }], guard := none }) rfl (fun K hK => ?_) AllReadyH.nil)
            have hv1 : (w5.alloc (.cells #[.int .u32 p, .int .i64 q] 35)).ownsRow N 35 2 v1 (0 + k) ([] ++ candL (l.take k)) := hown1.alloc _
            have hn6 : ∀ j u, ([.int .u32 p, .int .i64 q] : List Value)[j]? = some u → (w5.alloc (.cells #[.int .u32 p, .int .i64 q] 35)).cell? ((⟨w5.heap.size, 0, none⟩ : Addr).add j) = some u := fun j u hj => by rw [addr_add']; exact range_new w5 [.int .u32 p, .int .i64 q] 35 j u hj
            refine step_append_own' (by rfl) (.tmp 36) (.tmp 38) 28 (by rfl) N 35 i0 _ 2 16 Tryz.underlying28 hi hz0 hz1 hz2 rfl Nat.zero_lt_two v1 (0 + k) ([] ++ candL (l.take k)) (by rfl) hv1 ⟨w5.heap.size, 0, none⟩ 1 1 [.int .u32 p, .int .i64 q] (by rfl) rfl hn6 two_one m3 m4 (Nat.le_trans s1 (b5.alloc (by have := b5.size; omega) (.cells #[.int .u32 p, .int .i64 q] 35)).size) ?_
            intro v2 w6 hown2 hgrow2 _
            have b6 : Below N Wr.drew w6 := (b5.alloc (by have := b5.size; omega) (.cells #[.int .u32 p, .int .i64 q] 35)).grown hgrow2 (Nat.le_trans s1 (b5.alloc (by have := b5.size; omega) (.cells #[.int .u32 p, .int .i64 q] 35)).size) (fun x hx => (hv1.lt x hx).1)
            have hS := SB1.out _ (b6)
            refine hK.out _ _ hS (fun _ => ?_)
            clear hK K
            (try simp only [Act.put, List.setIfInBounds_toArray, List.set_cons_zero, List.set_cons_succ])
            refine wpAnyH_ready (rs := [11]) (by kernel_rfl) (by simp) (AllReadyH.cons (o := { dst := some 43, op := Op.call { callee := Callee.builtin Builtin.append, args := #[Operand.tmp 39, Operand.tmp 42], argTypes := #[28, 28] }, type := 28, pos := "ref.go:43", after := #[{ on := 7, ground := Ground.data }, { on := 10, ground := Ground.data }, { on := 7, ground := Ground.chain }], guard := none }) rfl (fun K hK => ?_) AllReadyH.nil)
            have e11 := HL2.out _ b6
            refine step_append_own' (by rfl) (.tmp 39) (.tmp 42) 28 (by rfl) N 35 i0 _ 2 16 Tryz.underlying28 hi hz0 hz1 hz2 rfl Nat.zero_lt_two v2 (0 + k + 1) ([] ++ candL (l.take k) ++ [.int .u32 p, .int .i64 q]) (by rfl) hown2 ⟨g, off, none⟩ (n - k) _ (candL (l.drop k)) (by rfl) LD e11 candL_one m5 m6 (by have := b6.size; omega) ?_
            intro v3 w7 hown3 hgrow3 hnil3
            have b7 : Below N Wr.drew w7 := b6.grown hgrow3 (by have := b6.size; omega) (fun x hx => (hown2.lt x hx).1)
            have hS := SB1.out _ (b7)
            refine hK.out _ _ hS (fun _ => ?_)
            clear hK K
            (try simp only [Act.put, List.setIfInBounds_toArray, List.set_cons_zero, List.set_cons_succ])
            refine wpAnyH_take (i := 12) (oi := { dst := some 4, op := Op.assign (Operand.tmp 43), type := 28, pos := "ref.go:43", after := #[{ on := 11, ground := Ground.data }, { on := 11, ground := Ground.chain }, { on := 0, ground := Ground.phase }, { on := 1, ground := Ground.phase }, { on := 2, ground := Ground.phase }, { on := 3, ground := Ground.phase }, { on := 4, ground := Ground.phase }, { on := 5, ground := Ground.phase }, { on := 6, ground := Ground.phase }, { on := 7, ground := Ground.phase }, { on := 8, ground := Ground.phase }, { on := 9, ground := Ground.phase }, { on := 10, ground := Ground.phase }, { on := 11, ground := Ground.phase }], guard := none }) (v := ?_) rfl (by kernel_rfl) (by kernel_rfl) (by kernel_rfl) (fun _ _ _ h => h) (Or.inl ⟨by rfl, ?_⟩) hS ?_
            rotate_left
            · intro W hSw; (try dsimp only at hSw); obtain ⟨_, _⟩ := hSw; go_simp; (try with_reducible rfl)
            (try simp only [Act.put, List.setIfInBounds_toArray, List.set_cons_zero, List.set_cons_succ])
            refine wpAnyH_done (by kernel_rfl) ?_ _
            go_wp2_with fail
            go_ret
            exact FIN.out v3 w7 hown3 b7
          · go_simp
            have hS := SB1.out _ (((Below.refl N Wr.drew).alloc s1 (.cells #[] 35)).alloc (Nat.le_trans s1 ((Below.refl N Wr.drew).alloc s1 (.cells #[] 35)).size) (.cells #[.int .u32 p, .int .i64 q] 35))
            refine hK.out _ _ hS (fun _ => ?_)
            clear hK K
            (try simp only [Act.put, List.setIfInBounds_toArray, List.set_cons_zero, List.set_cons_succ])
            refine wpAnyH_ready (rs := [4]) (by kernel_rfl) (by simp) (AllReadyH.cons (o := { dst := some 36, op := Op.call { callee := Callee.builtin Builtin.append, args := #[Operand.tmp 32, Operand.tmp 35], argTypes := #[28, 28] }, type := 28, pos := "ref.go:43", after := #[{ on := 0, ground := Ground.data }, { on := 3, ground := Ground.data }], guard := none }) rfl (fun K hK => ?_) AllReadyH.nil)
            have hlit : ((Wr.drew.alloc (.cells #[] 35)).alloc (.cells #[.int .u32 p, .int .i64 q] 35)).ownsRow N 35 2 (.slice (some ⟨Wr.heap.size, 0, none⟩) 0 0) 0 [] := (World.ownsRow_lit Wr.drew #[] 0 s1 (Nat.zero_le _) rfl).alloc _
            have e4 := HL1.out _ (((Below.refl N Wr.drew).alloc s1 (.cells #[] 35)).alloc (Nat.le_trans s1 ((Below.refl N Wr.drew).alloc s1 (.cells #[] 35)).size) (.cells #[.int .u32 p, .int .i64 q] 35))
            refine step_append_own' (by rfl) (.tmp 32) (.tmp 35) 28 (by rfl) N 35 i0 _ 2 16 Tryz.underlying28 hi hz0 hz1 hz2 rfl Nat.zero_lt_two (.slice (some ⟨Wr.heap.size, 0, none⟩) 0 0) 0 [] (by rfl) hlit ⟨g, off, none⟩ k c (candL (l.take k)) (by rfl) LT e4 candL_one m1 m2 (Nat.le_trans s1 (((Below.refl N Wr.drew).alloc s1 (.cells #[] 35)).alloc (Nat.le_trans s1 ((Below.refl N Wr.drew).alloc s1 (.cells #[] 35)).size) (.cells #[.int .u32 p, .int .i64 q] 35)).size) ?_
            intro v1 w5 hown1 hgrow1 _
            have b5 : Below N Wr.drew w5 := (((Below.refl N Wr.drew).alloc s1 (.cells #[] 35)).alloc (Nat.le_trans s1 ((Below.refl N Wr.drew).alloc s1 (.cells #[] 35)).size) (.cells #[.int .u32 p, .int .i64 q] 35)).grown hgrow1 (Nat.le_trans s1 (((Below.refl N Wr.drew).alloc s1 (.cells #[] 35)).alloc (Nat.le_trans s1 ((Below.refl N Wr.drew).alloc s1 (.cells #[] 35)).size) (.cells #[.int .u32 p, .int .i64 q] 35)).size) (fun x hx => (hlit.lt x hx).1)
            have hS := SB1.out _ (b5)
            refine hK.out _ _ hS (fun _ => ?_)
            clear hK K
            (try simp only [Act.put, List.setIfInBounds_toArray, List.set_cons_zero, List.set_cons_succ])
            refine wpAnyH_ready (rs := [7]) (by kernel_rfl) (by simp) (AllReadyH.cons (o := { dst := some 39, op := Op.call { callee := Callee.builtin Builtin.append, args := #[Operand.tmp 36, Operand.tmp 38], argTypes := #[28, 28] }, type := 28, pos := "ref.go:43", after := #[{ on := 4, ground := Ground.data }, { on := 6, ground := Ground.data }, { on := 4, ground := Ground.chain }], guard := none }) rfl (fun K hK => ?_) AllReadyH.nil)
            have hv1 : (w5).ownsRow N 35 2 v1 (0 + k) ([] ++ candL (l.take k)) := hown1
            have hn6 : ∀ j u, ([.int .u32 p, .int .i64 q] : List Value)[j]? = some u → (w5).cell? ((⟨(Wr.heap.size + 1), 0, none⟩ : Addr).add j) = some u := fun j u hj => by rw [addr_add']; exact hgrow1.cell (by have := range_new (Wr.drew.alloc (.cells #[] 35)) [.int .u32 p, .int .i64 q] 35 j u hj; rw [show (Wr.drew.alloc (.cells #[] 35)).heap.size = Wr.heap.size + 1 by simp] at this; exact this) (by simp [Value.ownBlock])
            refine step_append_own' (by rfl) (.tmp 36) (.tmp 38) 28 (by rfl) N 35 i0 _ 2 16 Tryz.underlying28 hi hz0 hz1 hz2 rfl Nat.zero_lt_two v1 (0 + k) ([] ++ candL (l.take k)) (by rfl) hv1 ⟨(Wr.heap.size + 1), 0, none⟩ 1 1 [.int .u32 p, .int .i64 q] (by rfl) rfl hn6 two_one m3 m4 (Nat.le_trans s1 (b5).size) ?_
            intro v2 w6 hown2 hgrow2 _
            have b6 : Below N Wr.drew w6 := (b5).grown hgrow2 (Nat.le_trans s1 (b5).size) (fun x hx => (hv1.lt x hx).1)
            have hS := SB1.out _ (b6)
            refine hK.out _ _ hS (fun _ => ?_)
            clear hK K
            (try simp only [Act.put, List.setIfInBounds_toArray, List.set_cons_zero, List.set_cons_succ])
            refine wpAnyH_ready (rs := [11]) (by kernel_rfl) (by simp) (AllReadyH.cons (o := { dst := some 43, op := Op.call { callee := Callee.builtin Builtin.append, args := #[Operand.tmp 39, Operand.tmp 42], argTypes := #[28, 28] }, type := 28, pos := "ref.go:43", after := #[{ on := 7, ground := Ground.data }, { on := 10, ground := Ground.data }, { on := 7, ground := Ground.chain }], guard := none }) rfl (fun K hK => ?_) AllReadyH.nil)
            have e11 := HL2.out _ b6
            refine step_append_own' (by rfl) (.tmp 39) (.tmp 42) 28 (by rfl) N 35 i0 _ 2 16 Tryz.underlying28 hi hz0 hz1 hz2 rfl Nat.zero_lt_two v2 (0 + k + 1) ([] ++ candL (l.take k) ++ [.int .u32 p, .int .i64 q]) (by rfl) hown2 ⟨g, off, none⟩ (n - k) _ (candL (l.drop k)) (by rfl) LD e11 candL_one m5 m6 (by have := b6.size; omega) ?_
            intro v3 w7 hown3 hgrow3 hnil3
            have b7 : Below N Wr.drew w7 := b6.grown hgrow3 (by have := b6.size; omega) (fun x hx => (hown2.lt x hx).1)
            have hS := SB1.out _ (b7)
            refine hK.out _ _ hS (fun _ => ?_)
            clear hK K
            (try simp only [Act.put, List.setIfInBounds_toArray, List.set_cons_zero, List.set_cons_succ])
            refine wpAnyH_take (i := 12) (oi := { dst := some 4, op := Op.assign (Operand.tmp 43), type := 28, pos := "ref.go:43", after := #[{ on := 11, ground := Ground.data }, { on := 11, ground := Ground.chain }, { on := 0, ground := Ground.phase }, { on := 1, ground := Ground.phase }, { on := 2, ground := Ground.phase }, { on := 3, ground := Ground.phase }, { on := 4, ground := Ground.phase }, { on := 5, ground := Ground.phase }, { on := 6, ground := Ground.phase }, { on := 7, ground := Ground.phase }, { on := 8, ground := Ground.phase }, { on := 9, ground := Ground.phase }, { on := 10, ground := Ground.phase }, { on := 11, ground := Ground.phase }], guard := none }) (v := ?_) rfl (by kernel_rfl) (by kernel_rfl) (by kernel_rfl) (fun _ _ _ h => h) (Or.inl ⟨by rfl, ?_⟩) hS ?_
            rotate_left
            · intro W hSw; (try dsimp only at hSw); obtain ⟨_, _⟩ := hSw; go_simp; (try with_reducible rfl)
            (try simp only [Act.put, List.setIfInBounds_toArray, List.set_cons_zero, List.set_cons_succ])
            refine wpAnyH_done (by kernel_rfl) ?_ _
            go_wp2_with fail
            go_ret
            exact FIN.out v3 w7 hown3 b7
        · go_simp
          have hS := SB1.out _ ((Below.refl N Wr.drew).alloc s1 (.cells #[.int .u32 p, .int .i64 q] 35))
          refine hK.out _ _ hS (fun _ => ?_)
          clear hK K
          (try simp only [Act.put, List.setIfInBounds_toArray, List.set_cons_zero, List.set_cons_succ])
          refine wpAnyH_ready (rs := [0]) (by kernel_rfl) (by simp) (AllReadyH.cons (o := { dst := some 32, op := Op.buildSlice 28 0 #[], type := 28, pos := "ref.go:43", after := #[], guard := none }) rfl (fun K hK => ?_) AllReadyH.nil)
          go_simp
          have hS := SB1.out _ (((Below.refl N Wr.drew).alloc s1 (.cells #[.int .u32 p, .int .i64 q] 35)).alloc (Nat.le_trans s1 ((Below.refl N Wr.drew).alloc s1 (.cells #[.int .u32 p, .int .i64 q] 35)).size) (.cells #[] 35))
          refine hK.out _ _ hS (fun _ => ?_)
          clear hK K
          (try simp only [Act.put, List.setIfInBounds_toArray, List.set_cons_zero, List.set_cons_succ])
          refine wpAnyH_ready (rs := [4]) (by kernel_rfl) (by simp) (AllReadyH.cons (o := { dst := some 36, op := Op.call { callee := Callee.builtin Builtin.append, args := #[Operand.tmp 32, Operand.tmp 35], argTypes := #[28, 28] }, type := 28, pos := "ref.go:43", after := #[{ on := 0, ground := Ground.data }, { on := 3, ground := Ground.data }], guard := none }) rfl (fun K hK => ?_) AllReadyH.nil)
          have hlit : ((Wr.drew.alloc (.cells #[.int .u32 p, .int .i64 q] 35)).alloc (.cells #[] 35)).ownsRow N 35 2 (.slice (some ⟨(Wr.heap.size + 1), 0, none⟩) 0 0) 0 [] := by have := World.ownsRow_lit (base := N) (e := 35) (size := 2) (Wr.drew.alloc (.cells #[.int .u32 p, .int .i64 q] 35)) #[] 0 (Nat.le_trans s1 ((Below.refl N Wr.drew).alloc s1 (.cells #[.int .u32 p, .int .i64 q] 35)).size) (Nat.zero_le _) rfl; simpa using this
          have e4 := HL1.out _ (((Below.refl N Wr.drew).alloc s1 (.cells #[.int .u32 p, .int .i64 q] 35)).alloc (Nat.le_trans s1 ((Below.refl N Wr.drew).alloc s1 (.cells #[.int .u32 p, .int .i64 q] 35)).size) (.cells #[] 35))
          refine step_append_own' (by rfl) (.tmp 32) (.tmp 35) 28 (by rfl) N 35 i0 _ 2 16 Tryz.underlying28 hi hz0 hz1 hz2 rfl Nat.zero_lt_two (.slice (some ⟨(Wr.heap.size + 1), 0, none⟩) 0 0) 0 [] (by rfl) hlit ⟨g, off, none⟩ k c (candL (l.take k)) (by rfl) LT e4 candL_one m1 m2 (Nat.le_trans s1 (((Below.refl N Wr.drew).alloc s1 (.cells #[.int .u32 p, .int .i64 q] 35)).alloc (Nat.le_trans s1 ((Below.refl N Wr.drew).alloc s1 (.cells #[.int .u32 p, .int .i64 q] 35)).size) (.cells #[] 35)).size) ?_
          intro v1 w5 hown1 hgrow1 _
          have b5 : Below N Wr.drew w5 := (((Below.refl N Wr.drew).alloc s1 (.cells #[.int .u32 p, .int .i64 q] 35)).alloc (Nat.le_trans s1 ((Below.refl N Wr.drew).alloc s1 (.cells #[.int .u32 p, .int .i64 q] 35)).size) (.cells #[] 35)).grown hgrow1 (Nat.le_trans s1 (((Below.refl N Wr.drew).alloc s1 (.cells #[.int .u32 p, .int .i64 q] 35)).alloc (Nat.le_trans s1 ((Below.refl N Wr.drew).alloc s1 (.cells #[.int .u32 p, .int .i64 q] 35)).size) (.cells #[] 35)).size) (fun x hx => (hlit.lt x hx).1)
          have hS := SB1.out _ (b5)
          refine hK.out _ _ hS (fun _ => ?_)
          clear hK K
          (try simp only [Act.put, List.setIfInBounds_toArray, List.set_cons_zero, List.set_cons_succ])
          refine wpAnyH_ready (rs := [7]) (by kernel_rfl) (by simp) (AllReadyH.cons (o := { dst := some 39, op := Op.call { callee := Callee.builtin Builtin.append, args := #[Operand.tmp 36, Operand.tmp 38], argTypes := #[28, 28] }, type := 28, pos := "ref.go:43", after := #[{ on := 4, ground := Ground.data }, { on := 6, ground := Ground.data }, { on := 4, ground := Ground.chain }], guard := none }) rfl (fun K hK => ?_) AllReadyH.nil)
          have hv1 : (w5).ownsRow N 35 2 v1 (0 + k) ([] ++ candL (l.take k)) := hown1
          have hn6 : ∀ j u, ([.int .u32 p, .int .i64 q] : List Value)[j]? = some u → (w5).cell? ((⟨Wr.heap.size, 0, none⟩ : Addr).add j) = some u := fun j u hj => by rw [addr_add']; exact hgrow1.cell (by show ((Wr.drew.alloc (.cells #[.int .u32 p, .int .i64 q] 35)).alloc (.cells #[] 35)).cell? _ = _; rw [World.cell?_alloc_past _ _ _ (by simp)]; exact range_new Wr.drew [.int .u32 p, .int .i64 q] 35 j u hj) (by simp [Value.ownBlock])
          refine step_append_own' (by rfl) (.tmp 36) (.tmp 38) 28 (by rfl) N 35 i0 _ 2 16 Tryz.underlying28 hi hz0 hz1 hz2 rfl Nat.zero_lt_two v1 (0 + k) ([] ++ candL (l.take k)) (by rfl) hv1 ⟨Wr.heap.size, 0, none⟩ 1 1 [.int .u32 p, .int .i64 q] (by rfl) rfl hn6 two_one m3 m4 (Nat.le_trans s1 (b5).size) ?_
          intro v2 w6 hown2 hgrow2 _
          have b6 : Below N Wr.drew w6 := (b5).grown hgrow2 (Nat.le_trans s1 (b5).size) (fun x hx => (hv1.lt x hx).1)
          have hS := SB1.out _ (b6)
          refine hK.out _ _ hS (fun _ => ?_)
          clear hK K
          (try simp only [Act.put, List.setIfInBounds_toArray, List.set_cons_zero, List.set_cons_succ])
          refine wpAnyH_ready (rs := [11]) (by kernel_rfl) (by simp) (AllReadyH.cons (o := { dst := some 43, op := Op.call { callee := Callee.builtin Builtin.append, args := #[Operand.tmp 39, Operand.tmp 42], argTypes := #[28, 28] }, type := 28, pos := "ref.go:43", after := #[{ on := 7, ground := Ground.data }, { on := 10, ground := Ground.data }, { on := 7, ground := Ground.chain }], guard := none }) rfl (fun K hK => ?_) AllReadyH.nil)
          have e11 := HL2.out _ b6
          refine step_append_own' (by rfl) (.tmp 39) (.tmp 42) 28 (by rfl) N 35 i0 _ 2 16 Tryz.underlying28 hi hz0 hz1 hz2 rfl Nat.zero_lt_two v2 (0 + k + 1) ([] ++ candL (l.take k) ++ [.int .u32 p, .int .i64 q]) (by rfl) hown2 ⟨g, off, none⟩ (n - k) _ (candL (l.drop k)) (by rfl) LD e11 candL_one m5 m6 (by have := b6.size; omega) ?_
          intro v3 w7 hown3 hgrow3 hnil3
          have b7 : Below N Wr.drew w7 := b6.grown hgrow3 (by have := b6.size; omega) (fun x hx => (hown2.lt x hx).1)
          have hS := SB1.out _ (b7)
          refine hK.out _ _ hS (fun _ => ?_)
          clear hK K
          (try simp only [Act.put, List.setIfInBounds_toArray, List.set_cons_zero, List.set_cons_succ])
          refine wpAnyH_take (i := 12) (oi := { dst := some 4, op := Op.assign (Operand.tmp 43), type := 28, pos := "ref.go:43", after := #[{ on := 11, ground := Ground.data }, { on := 11, ground := Ground.chain }, { on := 0, ground := Ground.phase }, { on := 1, ground := Ground.phase }, { on := 2, ground := Ground.phase }, { on := 3, ground := Ground.phase }, { on := 4, ground := Ground.phase }, { on := 5, ground := Ground.phase }, { on := 6, ground := Ground.phase }, { on := 7, ground := Ground.phase }, { on := 8, ground := Ground.phase }, { on := 9, ground := Ground.phase }, { on := 10, ground := Ground.phase }, { on := 11, ground := Ground.phase }], guard := none }) (v := ?_) rfl (by kernel_rfl) (by kernel_rfl) (by kernel_rfl) (fun _ _ _ h => h) (Or.inl ⟨by rfl, ?_⟩) hS ?_
          rotate_left
          · intro W hSw; (try dsimp only at hSw); obtain ⟨_, _⟩ := hSw; go_simp; (try with_reducible rfl)
          (try simp only [Act.put, List.setIfInBounds_toArray, List.set_cons_zero, List.set_cons_succ])
          refine wpAnyH_done (by kernel_rfl) ?_ _
          go_wp2_with fail
          go_ret
          exact FIN.out v3 w7 hown3 b7
      · have hct' : (c = k) = False := eq_false hct
        have HL2 : Hid (∀ W, Below N Wr.drew W → ∀ j u, (candL (l.drop k))[j]? = some u → W.cell? ((⟨g, off + k * 2, none⟩ : Addr).add j) = some u) := by
          intro W hW j u hj
          rw [addr_add', hW.cell (by exact hgN), show off + k * 2 + j = off + (k * 2 + j) by omega]
          exact HLW.out _ (Below.refl _ _) (k * 2 + j) u (by
            rw [CSP.out.1, List.getElem?_append_right (by rw [CSP.out.2]; omega), CSP.out.2, show k * 2 + j - k * 2 = j by omega]; exact hj)
        clear hct
        go_wp2_with fail
        refine wp_region_held_drew (S := fun W => W.cell? ⟨w.heap.size, 0, none⟩ = some (.int .u32 p) ∧ W.cell? ⟨w.heap.size, 1, none⟩ = some (.int .i64 q)) (by kernel_rfl) (SB1.out _ (Below.refl _ _)) (fun hS => ?_)
        refine wpAnyH_take (i := 1) (oi := { dst := some 33, op := Op.move (Operand.tmp 0), type := 28, pos := "ref.go:43", after := #[], guard := none }) (v := ?_) rfl (by kernel_rfl) (by kernel_rfl) (by kernel_rfl) (fun _ _ _ h => h) (Or.inl ⟨by rfl, ?_⟩) hS ?_
        rotate_left
        · intro W hSw; (try dsimp only at hSw); obtain ⟨_, _⟩ := hSw; go_simp; (try with_reducible rfl)
        (try simp only [Act.put, List.setIfInBounds_toArray, List.set_cons_zero, List.set_cons_succ])
        refine wpAnyH_take (i := 2) (oi := { dst := some 34, op := Op.move (Operand.tmp 5), type := 3, pos := "ref.go:43", after := #[], guard := none }) (v := ?_) rfl (by kernel_rfl) (by kernel_rfl) (by kernel_rfl) (fun _ _ _ h => h) (Or.inl ⟨by rfl, ?_⟩) hS ?_
        rotate_left
        · intro W hSw; (try dsimp only at hSw); obtain ⟨_, _⟩ := hSw; go_simp; (try with_reducible rfl)
        (try simp only [Act.put, List.setIfInBounds_toArray, List.set_cons_zero, List.set_cons_succ])
        refine wpAnyH_take (i := 3) (oi := { dst := some 35, op := Op.slice 28 (Operand.tmp 33) none (some (Operand.tmp 34)) none, type := 28, pos := "ref.go:43", after := #[{ on := 1, ground := Ground.data }, { on := 2, ground := Ground.data }], guard := none }) (v := ?_) rfl (by kernel_rfl) (by kernel_rfl) (by kernel_rfl) (fun _ _ _ h => h) (Or.inl ⟨by rfl, ?_⟩) hS ?_
        rotate_left
        · intro W hSw; (try dsimp only at hSw); obtain ⟨_, _⟩ := hSw; go_simp; (try with_reducible rfl)
        (try simp only [Act.put, List.setIfInBounds_toArray, List.set_cons_zero, List.set_cons_succ])
        refine wpAnyH_take (i := 8) (oi := { dst := some 40, op := Op.move (Operand.tmp 0), type := 28, pos := "ref.go:43", after := #[], guard := none }) (v := ?_) rfl (by kernel_rfl) (by kernel_rfl) (by kernel_rfl) (fun _ _ _ h => h) (Or.inl ⟨by rfl, ?_⟩) hS ?_
        rotate_left
        · intro W hSw; (try dsimp only at hSw); obtain ⟨_, _⟩ := hSw; go_simp; (try with_reducible rfl)
        (try simp only [Act.put, List.setIfInBounds_toArray, List.set_cons_zero, List.set_cons_succ])
        refine wpAnyH_take (i := 9) (oi := { dst := some 41, op := Op.move (Operand.tmp 5), type := 3, pos := "ref.go:43", after := #[], guard := none }) (v := ?_) rfl (by kernel_rfl) (by kernel_rfl) (by kernel_rfl) (fun _ _ _ h => h) (Or.inl ⟨by rfl, ?_⟩) hS ?_
        rotate_left
        · intro W hSw; (try dsimp only at hSw); obtain ⟨_, _⟩ := hSw; go_simp; (try with_reducible rfl)
        (try simp only [Act.put, List.setIfInBounds_toArray, List.set_cons_zero, List.set_cons_succ])
        refine wpAnyH_take (i := 10) (oi := { dst := some 42, op := Op.slice 28 (Operand.tmp 40) (some (Operand.tmp 41)) none none, type := 28, pos := "ref.go:43", after := #[{ on := 8, ground := Ground.data }, { on := 9, ground := Ground.data }], guard := none }) (v := ?_) rfl (by kernel_rfl) (by kernel_rfl) (by kernel_rfl) (fun _ _ _ h => h) (Or.inl ⟨by rfl, ?_⟩) hS ?_
        rotate_left
        · intro W hSw; (try dsimp only at hSw); obtain ⟨_, _⟩ := hSw; go_simp; (try with_reducible rfl)
        (try simp only [Act.put, List.setIfInBounds_toArray, List.set_cons_zero, List.set_cons_succ])
        refine wpAnyH_take (i := 5) (oi := { dst := some 37, op := Op.load 35 (Operand.tmp 3), type := 35, pos := "ref.go:43", after := #[], guard := none }) (v := ?_) rfl (by kernel_rfl) (by kernel_rfl) (by kernel_rfl) (fun _ _ _ h => h) (Or.inl ⟨by rfl, ?_⟩) hS ?_
        rotate_left
        · intro W hSw; (try dsimp only at hSw); obtain ⟨_, _⟩ := hSw; go_simp; (try with_reducible rfl)
        (try simp only [Act.put, List.setIfInBounds_toArray, List.set_cons_zero, List.set_cons_succ])
        refine wpAnyH_ready (rs := [0, 6]) (by kernel_rfl) (by simp) (AllReadyH.cons (o := { dst := some 32, op := Op.buildSlice 28 0 #[], type := 28, pos := "ref.go:43", after := #[], guard := none }) rfl (fun K hK => ?_) (AllReadyH.cons (o := { dst := some 38, op := Op.buildSlice 28 1 #[(0, Operand.tmp 37)], type := 28, pos := "ref.go:43", after := #[{ on := 5, ground := Ground.data }], guard := none }) rfl (fun K hK => ?_) AllReadyH.nil))
        · go_simp
          have hS := SB1.out _ ((Below.refl N Wr.drew).alloc s1 (.cells #[] 35))
          refine hK.out _ _ hS (fun _ => ?_)
          clear hK K
          (try simp only [Act.put, List.setIfInBounds_toArray, List.set_cons_zero, List.set_cons_succ])
          refine wpAnyH_ready (rs := [4, 6]) (by kernel_rfl) (by simp) (AllReadyH.cons (o := { dst := some 36, op := Op.call { callee := Callee.builtin Builtin.append, args := #[Operand.tmp 32, Operand.tmp 35], argTypes := #[28, 28] }, type := 28, pos := "ref.go:43", after := #[{ on := 0, ground := Ground.data }, { on := 3, ground := Ground.data }], guard := none }) rfl (fun K hK => ?_) (AllReadyH.cons (o := { dst := some 38, op := Op.buildSlice 28 1 #[(0, Operand.tmp 37)], type := 28, pos := "ref.go:43", after := #[{ on := 5, ground := Ground.data }], guard := none }) rfl (fun K hK => ?_) AllReadyH.nil))
          · skip
            have hlit : (Wr.drew.alloc (.cells #[] 35)).ownsRow N 35 2 (.slice (some ⟨Wr.heap.size, 0, none⟩) 0 0) 0 [] := World.ownsRow_lit Wr.drew #[] 0 s1 (Nat.zero_le _) rfl
            have e4 := HL1.out _ ((Below.refl N Wr.drew).alloc s1 (.cells #[] 35))
            refine step_append_own' (by rfl) (.tmp 32) (.tmp 35) 28 (by rfl) N 35 i0 _ 2 16 Tryz.underlying28 hi hz0 hz1 hz2 rfl Nat.zero_lt_two (.slice (some ⟨Wr.heap.size, 0, none⟩) 0 0) 0 [] (by rfl) hlit ⟨g, off, none⟩ k c (candL (l.take k)) (by rfl) LT e4 candL_one m1 m2 (Nat.le_trans s1 ((Below.refl N Wr.drew).alloc s1 (.cells #[] 35)).size) ?_
            intro v1 w5 hown1 hgrow1 _
            have b5 : Below N Wr.drew w5 := ((Below.refl N Wr.drew).alloc s1 (.cells #[] 35)).grown hgrow1 (Nat.le_trans s1 ((Below.refl N Wr.drew).alloc s1 (.cells #[] 35)).size) (fun x hx => (hlit.lt x hx).1)
            have hS := SB1.out _ (b5)
            refine hK.out _ _ hS (fun _ => ?_)
            clear hK K
            (try simp only [Act.put, List.setIfInBounds_toArray, List.set_cons_zero, List.set_cons_succ])
            refine wpAnyH_ready (rs := [6]) (by kernel_rfl) (by simp) (AllReadyH.cons (o := { dst := some 38, op := Op.buildSlice 28 1 #[(0, Operand.tmp 37)], type := 28, pos := "ref.go:43", after := #[{ on := 5, ground := Ground.data }], guard := none }) rfl (fun K hK => ?_) AllReadyH.nil)
            go_simp
            have hS := SB1.out _ (b5.alloc (by have := b5.size; omega) (.cells #[.int .u32 p, .int .i64 q] 35))
            refine hK.out _ _ hS (fun _ => ?_)
            clear hK K
            (try simp only [Act.put, List.setIfInBounds_toArray, List.set_cons_zero, List.set_cons_succ])
            refine wpAnyH_ready (rs := [7]) (by kernel_rfl) (by simp) (AllReadyH.cons (o := { dst := some 39, op := Op.call { callee := Callee.builtin Builtin.append, args := #[Operand.tmp 36, Operand.tmp 38], argTypes := #[28, 28] }, type := 28, pos := "ref.go:43", after := #[{ on := 4, ground := Ground.data }, { on := 6, ground := Ground.data }, { on := 4, ground := Ground.chain }], guard := none }) rfl (fun K hK => ?_) AllReadyH.nil)
            have hv1 : (w5.alloc (.cells #[.int .u32 p, .int .i64 q] 35)).ownsRow N 35 2 v1 (0 + k) ([] ++ candL (l.take k)) := hown1.alloc _
            have hn6 : ∀ j u, ([.int .u32 p, .int .i64 q] : List Value)[j]? = some u → (w5.alloc (.cells #[.int .u32 p, .int .i64 q] 35)).cell? ((⟨w5.heap.size, 0, none⟩ : Addr).add j) = some u := fun j u hj => by rw [addr_add']; exact range_new w5 [.int .u32 p, .int .i64 q] 35 j u hj
            refine step_append_own' (by rfl) (.tmp 36) (.tmp 38) 28 (by rfl) N 35 i0 _ 2 16 Tryz.underlying28 hi hz0 hz1 hz2 rfl Nat.zero_lt_two v1 (0 + k) ([] ++ candL (l.take k)) (by rfl) hv1 ⟨w5.heap.size, 0, none⟩ 1 1 [.int .u32 p, .int .i64 q] (by rfl) rfl hn6 two_one m3 m4 (Nat.le_trans s1 (b5.alloc (by have := b5.size; omega) (.cells #[.int .u32 p, .int .i64 q] 35)).size) ?_
            intro v2 w6 hown2 hgrow2 _
            have b6 : Below N Wr.drew w6 := (b5.alloc (by have := b5.size; omega) (.cells #[.int .u32 p, .int .i64 q] 35)).grown hgrow2 (Nat.le_trans s1 (b5.alloc (by have := b5.size; omega) (.cells #[.int .u32 p, .int .i64 q] 35)).size) (fun x hx => (hv1.lt x hx).1)
            have hS := SB1.out _ (b6)
            refine hK.out _ _ hS (fun _ => ?_)
            clear hK K
            (try simp only [Act.put, List.setIfInBounds_toArray, List.set_cons_zero, List.set_cons_succ])
            refine wpAnyH_ready (rs := [11]) (by kernel_rfl) (by simp) (AllReadyH.cons (o := { dst := some 43, op := Op.call { callee := Callee.builtin Builtin.append, args := #[Operand.tmp 39, Operand.tmp 42], argTypes := #[28, 28] }, type := 28, pos := "ref.go:43", after := #[{ on := 7, ground := Ground.data }, { on := 10, ground := Ground.data }, { on := 7, ground := Ground.chain }], guard := none }) rfl (fun K hK => ?_) AllReadyH.nil)
            have e11 := HL2.out _ b6
            refine step_append_own' (by rfl) (.tmp 39) (.tmp 42) 28 (by rfl) N 35 i0 _ 2 16 Tryz.underlying28 hi hz0 hz1 hz2 rfl Nat.zero_lt_two v2 (0 + k + 1) ([] ++ candL (l.take k) ++ [.int .u32 p, .int .i64 q]) (by rfl) hown2 ⟨g, off + k * 2, none⟩ (n - k) _ (candL (l.drop k)) (by rfl) LD e11 candL_one m5 m6 (by have := b6.size; omega) ?_
            intro v3 w7 hown3 hgrow3 hnil3
            have b7 : Below N Wr.drew w7 := b6.grown hgrow3 (by have := b6.size; omega) (fun x hx => (hown2.lt x hx).1)
            have hS := SB1.out _ (b7)
            refine hK.out _ _ hS (fun _ => ?_)
            clear hK K
            (try simp only [Act.put, List.setIfInBounds_toArray, List.set_cons_zero, List.set_cons_succ])
            refine wpAnyH_take (i := 12) (oi := { dst := some 4, op := Op.assign (Operand.tmp 43), type := 28, pos := "ref.go:43", after := #[{ on := 11, ground := Ground.data }, { on := 11, ground := Ground.chain }, { on := 0, ground := Ground.phase }, { on := 1, ground := Ground.phase }, { on := 2, ground := Ground.phase }, { on := 3, ground := Ground.phase }, { on := 4, ground := Ground.phase }, { on := 5, ground := Ground.phase }, { on := 6, ground := Ground.phase }, { on := 7, ground := Ground.phase }, { on := 8, ground := Ground.phase }, { on := 9, ground := Ground.phase }, { on := 10, ground := Ground.phase }, { on := 11, ground := Ground.phase }], guard := none }) (v := ?_) rfl (by kernel_rfl) (by kernel_rfl) (by kernel_rfl) (fun _ _ _ h => h) (Or.inl ⟨by rfl, ?_⟩) hS ?_
            rotate_left
            · intro W hSw; (try dsimp only at hSw); obtain ⟨_, _⟩ := hSw; go_simp; (try with_reducible rfl)
            (try simp only [Act.put, List.setIfInBounds_toArray, List.set_cons_zero, List.set_cons_succ])
            refine wpAnyH_done (by kernel_rfl) ?_ _
            go_wp2_with fail
            go_ret
            exact FIN.out v3 w7 hown3 b7
          · go_simp
            have hS := SB1.out _ (((Below.refl N Wr.drew).alloc s1 (.cells #[] 35)).alloc (Nat.le_trans s1 ((Below.refl N Wr.drew).alloc s1 (.cells #[] 35)).size) (.cells #[.int .u32 p, .int .i64 q] 35))
            refine hK.out _ _ hS (fun _ => ?_)
            clear hK K
            (try simp only [Act.put, List.setIfInBounds_toArray, List.set_cons_zero, List.set_cons_succ])
            refine wpAnyH_ready (rs := [4]) (by kernel_rfl) (by simp) (AllReadyH.cons (o := { dst := some 36, op := Op.call { callee := Callee.builtin Builtin.append, args := #[Operand.tmp 32, Operand.tmp 35], argTypes := #[28, 28] }, type := 28, pos := "ref.go:43", after := #[{ on := 0, ground := Ground.data }, { on := 3, ground := Ground.data }], guard := none }) rfl (fun K hK => ?_) AllReadyH.nil)
            have hlit : ((Wr.drew.alloc (.cells #[] 35)).alloc (.cells #[.int .u32 p, .int .i64 q] 35)).ownsRow N 35 2 (.slice (some ⟨Wr.heap.size, 0, none⟩) 0 0) 0 [] := (World.ownsRow_lit Wr.drew #[] 0 s1 (Nat.zero_le _) rfl).alloc _
            have e4 := HL1.out _ (((Below.refl N Wr.drew).alloc s1 (.cells #[] 35)).alloc (Nat.le_trans s1 ((Below.refl N Wr.drew).alloc s1 (.cells #[] 35)).size) (.cells #[.int .u32 p, .int .i64 q] 35))
            refine step_append_own' (by rfl) (.tmp 32) (.tmp 35) 28 (by rfl) N 35 i0 _ 2 16 Tryz.underlying28 hi hz0 hz1 hz2 rfl Nat.zero_lt_two (.slice (some ⟨Wr.heap.size, 0, none⟩) 0 0) 0 [] (by rfl) hlit ⟨g, off, none⟩ k c (candL (l.take k)) (by rfl) LT e4 candL_one m1 m2 (Nat.le_trans s1 (((Below.refl N Wr.drew).alloc s1 (.cells #[] 35)).alloc (Nat.le_trans s1 ((Below.refl N Wr.drew).alloc s1 (.cells #[] 35)).size) (.cells #[.int .u32 p, .int .i64 q] 35)).size) ?_
            intro v1 w5 hown1 hgrow1 _
            have b5 : Below N Wr.drew w5 := (((Below.refl N Wr.drew).alloc s1 (.cells #[] 35)).alloc (Nat.le_trans s1 ((Below.refl N Wr.drew).alloc s1 (.cells #[] 35)).size) (.cells #[.int .u32 p, .int .i64 q] 35)).grown hgrow1 (Nat.le_trans s1 (((Below.refl N Wr.drew).alloc s1 (.cells #[] 35)).alloc (Nat.le_trans s1 ((Below.refl N Wr.drew).alloc s1 (.cells #[] 35)).size) (.cells #[.int .u32 p, .int .i64 q] 35)).size) (fun x hx => (hlit.lt x hx).1)
            have hS := SB1.out _ (b5)
            refine hK.out _ _ hS (fun _ => ?_)
            clear hK K
            (try simp only [Act.put, List.setIfInBounds_toArray, List.set_cons_zero, List.set_cons_succ])
            refine wpAnyH_ready (rs := [7]) (by kernel_rfl) (by simp) (AllReadyH.cons (o := { dst := some 39, op := Op.call { callee := Callee.builtin Builtin.append, args := #[Operand.tmp 36, Operand.tmp 38], argTypes := #[28, 28] }, type := 28, pos := "ref.go:43", after := #[{ on := 4, ground := Ground.data }, { on := 6, ground := Ground.data }, { on := 4, ground := Ground.chain }], guard := none }) rfl (fun K hK => ?_) AllReadyH.nil)
            have hv1 : (w5).ownsRow N 35 2 v1 (0 + k) ([] ++ candL (l.take k)) := hown1
            have hn6 : ∀ j u, ([.int .u32 p, .int .i64 q] : List Value)[j]? = some u → (w5).cell? ((⟨(Wr.heap.size + 1), 0, none⟩ : Addr).add j) = some u := fun j u hj => by rw [addr_add']; exact hgrow1.cell (by have := range_new (Wr.drew.alloc (.cells #[] 35)) [.int .u32 p, .int .i64 q] 35 j u hj; rw [show (Wr.drew.alloc (.cells #[] 35)).heap.size = Wr.heap.size + 1 by simp] at this; exact this) (by simp [Value.ownBlock])
            refine step_append_own' (by rfl) (.tmp 36) (.tmp 38) 28 (by rfl) N 35 i0 _ 2 16 Tryz.underlying28 hi hz0 hz1 hz2 rfl Nat.zero_lt_two v1 (0 + k) ([] ++ candL (l.take k)) (by rfl) hv1 ⟨(Wr.heap.size + 1), 0, none⟩ 1 1 [.int .u32 p, .int .i64 q] (by rfl) rfl hn6 two_one m3 m4 (Nat.le_trans s1 (b5).size) ?_
            intro v2 w6 hown2 hgrow2 _
            have b6 : Below N Wr.drew w6 := (b5).grown hgrow2 (Nat.le_trans s1 (b5).size) (fun x hx => (hv1.lt x hx).1)
            have hS := SB1.out _ (b6)
            refine hK.out _ _ hS (fun _ => ?_)
            clear hK K
            (try simp only [Act.put, List.setIfInBounds_toArray, List.set_cons_zero, List.set_cons_succ])
            refine wpAnyH_ready (rs := [11]) (by kernel_rfl) (by simp) (AllReadyH.cons (o := { dst := some 43, op := Op.call { callee := Callee.builtin Builtin.append, args := #[Operand.tmp 39, Operand.tmp 42], argTypes := #[28, 28] }, type := 28, pos := "ref.go:43", after := #[{ on := 7, ground := Ground.data }, { on := 10, ground := Ground.data }, { on := 7, ground := Ground.chain }], guard := none }) rfl (fun K hK => ?_) AllReadyH.nil)
            have e11 := HL2.out _ b6
            refine step_append_own' (by rfl) (.tmp 39) (.tmp 42) 28 (by rfl) N 35 i0 _ 2 16 Tryz.underlying28 hi hz0 hz1 hz2 rfl Nat.zero_lt_two v2 (0 + k + 1) ([] ++ candL (l.take k) ++ [.int .u32 p, .int .i64 q]) (by rfl) hown2 ⟨g, off + k * 2, none⟩ (n - k) _ (candL (l.drop k)) (by rfl) LD e11 candL_one m5 m6 (by have := b6.size; omega) ?_
            intro v3 w7 hown3 hgrow3 hnil3
            have b7 : Below N Wr.drew w7 := b6.grown hgrow3 (by have := b6.size; omega) (fun x hx => (hown2.lt x hx).1)
            have hS := SB1.out _ (b7)
            refine hK.out _ _ hS (fun _ => ?_)
            clear hK K
            (try simp only [Act.put, List.setIfInBounds_toArray, List.set_cons_zero, List.set_cons_succ])
            refine wpAnyH_take (i := 12) (oi := { dst := some 4, op := Op.assign (Operand.tmp 43), type := 28, pos := "ref.go:43", after := #[{ on := 11, ground := Ground.data }, { on := 11, ground := Ground.chain }, { on := 0, ground := Ground.phase }, { on := 1, ground := Ground.phase }, { on := 2, ground := Ground.phase }, { on := 3, ground := Ground.phase }, { on := 4, ground := Ground.phase }, { on := 5, ground := Ground.phase }, { on := 6, ground := Ground.phase }, { on := 7, ground := Ground.phase }, { on := 8, ground := Ground.phase }, { on := 9, ground := Ground.phase }, { on := 10, ground := Ground.phase }, { on := 11, ground := Ground.phase }], guard := none }) (v := ?_) rfl (by kernel_rfl) (by kernel_rfl) (by kernel_rfl) (fun _ _ _ h => h) (Or.inl ⟨by rfl, ?_⟩) hS ?_
            rotate_left
            · intro W hSw; (try dsimp only at hSw); obtain ⟨_, _⟩ := hSw; go_simp; (try with_reducible rfl)
            (try simp only [Act.put, List.setIfInBounds_toArray, List.set_cons_zero, List.set_cons_succ])
            refine wpAnyH_done (by kernel_rfl) ?_ _
            go_wp2_with fail
            go_ret
            exact FIN.out v3 w7 hown3 b7
        · go_simp
          have hS := SB1.out _ ((Below.refl N Wr.drew).alloc s1 (.cells #[.int .u32 p, .int .i64 q] 35))
          refine hK.out _ _ hS (fun _ => ?_)
          clear hK K
          (try simp only [Act.put, List.setIfInBounds_toArray, List.set_cons_zero, List.set_cons_succ])
          refine wpAnyH_ready (rs := [0]) (by kernel_rfl) (by simp) (AllReadyH.cons (o := { dst := some 32, op := Op.buildSlice 28 0 #[], type := 28, pos := "ref.go:43", after := #[], guard := none }) rfl (fun K hK => ?_) AllReadyH.nil)
          go_simp
          have hS := SB1.out _ (((Below.refl N Wr.drew).alloc s1 (.cells #[.int .u32 p, .int .i64 q] 35)).alloc (Nat.le_trans s1 ((Below.refl N Wr.drew).alloc s1 (.cells #[.int .u32 p, .int .i64 q] 35)).size) (.cells #[] 35))
          refine hK.out _ _ hS (fun _ => ?_)
          clear hK K
          (try simp only [Act.put, List.setIfInBounds_toArray, List.set_cons_zero, List.set_cons_succ])
          refine wpAnyH_ready (rs := [4]) (by kernel_rfl) (by simp) (AllReadyH.cons (o := { dst := some 36, op := Op.call { callee := Callee.builtin Builtin.append, args := #[Operand.tmp 32, Operand.tmp 35], argTypes := #[28, 28] }, type := 28, pos := "ref.go:43", after := #[{ on := 0, ground := Ground.data }, { on := 3, ground := Ground.data }], guard := none }) rfl (fun K hK => ?_) AllReadyH.nil)
          have hlit : ((Wr.drew.alloc (.cells #[.int .u32 p, .int .i64 q] 35)).alloc (.cells #[] 35)).ownsRow N 35 2 (.slice (some ⟨(Wr.heap.size + 1), 0, none⟩) 0 0) 0 [] := by have := World.ownsRow_lit (base := N) (e := 35) (size := 2) (Wr.drew.alloc (.cells #[.int .u32 p, .int .i64 q] 35)) #[] 0 (Nat.le_trans s1 ((Below.refl N Wr.drew).alloc s1 (.cells #[.int .u32 p, .int .i64 q] 35)).size) (Nat.zero_le _) rfl; simpa using this
          have e4 := HL1.out _ (((Below.refl N Wr.drew).alloc s1 (.cells #[.int .u32 p, .int .i64 q] 35)).alloc (Nat.le_trans s1 ((Below.refl N Wr.drew).alloc s1 (.cells #[.int .u32 p, .int .i64 q] 35)).size) (.cells #[] 35))
          refine step_append_own' (by rfl) (.tmp 32) (.tmp 35) 28 (by rfl) N 35 i0 _ 2 16 Tryz.underlying28 hi hz0 hz1 hz2 rfl Nat.zero_lt_two (.slice (some ⟨(Wr.heap.size + 1), 0, none⟩) 0 0) 0 [] (by rfl) hlit ⟨g, off, none⟩ k c (candL (l.take k)) (by rfl) LT e4 candL_one m1 m2 (Nat.le_trans s1 (((Below.refl N Wr.drew).alloc s1 (.cells #[.int .u32 p, .int .i64 q] 35)).alloc (Nat.le_trans s1 ((Below.refl N Wr.drew).alloc s1 (.cells #[.int .u32 p, .int .i64 q] 35)).size) (.cells #[] 35)).size) ?_
          intro v1 w5 hown1 hgrow1 _
          have b5 : Below N Wr.drew w5 := (((Below.refl N Wr.drew).alloc s1 (.cells #[.int .u32 p, .int .i64 q] 35)).alloc (Nat.le_trans s1 ((Below.refl N Wr.drew).alloc s1 (.cells #[.int .u32 p, .int .i64 q] 35)).size) (.cells #[] 35)).grown hgrow1 (Nat.le_trans s1 (((Below.refl N Wr.drew).alloc s1 (.cells #[.int .u32 p, .int .i64 q] 35)).alloc (Nat.le_trans s1 ((Below.refl N Wr.drew).alloc s1 (.cells #[.int .u32 p, .int .i64 q] 35)).size) (.cells #[] 35)).size) (fun x hx => (hlit.lt x hx).1)
          have hS := SB1.out _ (b5)
          refine hK.out _ _ hS (fun _ => ?_)
          clear hK K
          (try simp only [Act.put, List.setIfInBounds_toArray, List.set_cons_zero, List.set_cons_succ])
          refine wpAnyH_ready (rs := [7]) (by kernel_rfl) (by simp) (AllReadyH.cons (o := { dst := some 39, op := Op.call { callee := Callee.builtin Builtin.append, args := #[Operand.tmp 36, Operand.tmp 38], argTypes := #[28, 28] }, type := 28, pos := "ref.go:43", after := #[{ on := 4, ground := Ground.data }, { on := 6, ground := Ground.data }, { on := 4, ground := Ground.chain }], guard := none }) rfl (fun K hK => ?_) AllReadyH.nil)
          have hv1 : (w5).ownsRow N 35 2 v1 (0 + k) ([] ++ candL (l.take k)) := hown1
          have hn6 : ∀ j u, ([.int .u32 p, .int .i64 q] : List Value)[j]? = some u → (w5).cell? ((⟨Wr.heap.size, 0, none⟩ : Addr).add j) = some u := fun j u hj => by rw [addr_add']; exact hgrow1.cell (by show ((Wr.drew.alloc (.cells #[.int .u32 p, .int .i64 q] 35)).alloc (.cells #[] 35)).cell? _ = _; rw [World.cell?_alloc_past _ _ _ (by simp)]; exact range_new Wr.drew [.int .u32 p, .int .i64 q] 35 j u hj) (by simp [Value.ownBlock])
          refine step_append_own' (by rfl) (.tmp 36) (.tmp 38) 28 (by rfl) N 35 i0 _ 2 16 Tryz.underlying28 hi hz0 hz1 hz2 rfl Nat.zero_lt_two v1 (0 + k) ([] ++ candL (l.take k)) (by rfl) hv1 ⟨Wr.heap.size, 0, none⟩ 1 1 [.int .u32 p, .int .i64 q] (by rfl) rfl hn6 two_one m3 m4 (Nat.le_trans s1 (b5).size) ?_
          intro v2 w6 hown2 hgrow2 _
          have b6 : Below N Wr.drew w6 := (b5).grown hgrow2 (Nat.le_trans s1 (b5).size) (fun x hx => (hv1.lt x hx).1)
          have hS := SB1.out _ (b6)
          refine hK.out _ _ hS (fun _ => ?_)
          clear hK K
          (try simp only [Act.put, List.setIfInBounds_toArray, List.set_cons_zero, List.set_cons_succ])
          refine wpAnyH_ready (rs := [11]) (by kernel_rfl) (by simp) (AllReadyH.cons (o := { dst := some 43, op := Op.call { callee := Callee.builtin Builtin.append, args := #[Operand.tmp 39, Operand.tmp 42], argTypes := #[28, 28] }, type := 28, pos := "ref.go:43", after := #[{ on := 7, ground := Ground.data }, { on := 10, ground := Ground.data }, { on := 7, ground := Ground.chain }], guard := none }) rfl (fun K hK => ?_) AllReadyH.nil)
          have e11 := HL2.out _ b6
          refine step_append_own' (by rfl) (.tmp 39) (.tmp 42) 28 (by rfl) N 35 i0 _ 2 16 Tryz.underlying28 hi hz0 hz1 hz2 rfl Nat.zero_lt_two v2 (0 + k + 1) ([] ++ candL (l.take k) ++ [.int .u32 p, .int .i64 q]) (by rfl) hown2 ⟨g, off + k * 2, none⟩ (n - k) _ (candL (l.drop k)) (by rfl) LD e11 candL_one m5 m6 (by have := b6.size; omega) ?_
          intro v3 w7 hown3 hgrow3 hnil3
          have b7 : Below N Wr.drew w7 := b6.grown hgrow3 (by have := b6.size; omega) (fun x hx => (hown2.lt x hx).1)
          have hS := SB1.out _ (b7)
          refine hK.out _ _ hS (fun _ => ?_)
          clear hK K
          (try simp only [Act.put, List.setIfInBounds_toArray, List.set_cons_zero, List.set_cons_succ])
          refine wpAnyH_take (i := 12) (oi := { dst := some 4, op := Op.assign (Operand.tmp 43), type := 28, pos := "ref.go:43", after := #[{ on := 11, ground := Ground.data }, { on := 11, ground := Ground.chain }, { on := 0, ground := Ground.phase }, { on := 1, ground := Ground.phase }, { on := 2, ground := Ground.phase }, { on := 3, ground := Ground.phase }, { on := 4, ground := Ground.phase }, { on := 5, ground := Ground.phase }, { on := 6, ground := Ground.phase }, { on := 7, ground := Ground.phase }, { on := 8, ground := Ground.phase }, { on := 9, ground := Ground.phase }, { on := 10, ground := Ground.phase }, { on := 11, ground := Ground.phase }], guard := none }) (v := ?_) rfl (by kernel_rfl) (by kernel_rfl) (by kernel_rfl) (fun _ _ _ h => h) (Or.inl ⟨by rfl, ?_⟩) hS ?_
          rotate_left
          · intro W hSw; (try dsimp only at hSw); obtain ⟨_, _⟩ := hSw; go_simp; (try with_reducible rfl)
          (try simp only [Act.put, List.setIfInBounds_toArray, List.set_cons_zero, List.set_cons_succ])
          refine wpAnyH_done (by kernel_rfl) ?_ _
          go_wp2_with fail
          go_ret
          exact FIN.out v3 w7 hown3 b7
end Go.Proofs.YtiellonfgcmaaaaGreat

/- The reference's insertion into no candidates. -/
namespace Go.Proofs.YtiellonfgcmaaaaGreat
open Go.RowKit Go.ChangeShapes

set_option maxRecDepth 100000 in
set_option maxHeartbeats 1000000 in
theorem put_nil (p q : Int) (w : World) : Calls Tryz.prog 49 #[.slice none 0 0, .agg #[.int .u32 p, .int .i64 q]] w (PutPost w [] (p, q)) := by
  obtain ⟨i0, hi, hz0, hz1, hz2⟩ := info_parts info35
  go_enter Tryz.func49, Tryz.ntmps49
  go_wp2
  refine wp_loop_rounds 1 ?_
  rw [rounds_succ]
  have hbw : Below w.heap.size w (w.alloc (.cells #[.int .u32 p, .int .i64 q] 35)) := (Below.refl _ _).alloc (Nat.le_refl _) _
  have hc0 : (w.alloc (.cells #[.int .u32 p, .int .i64 q] 35)).cell? ⟨w.heap.size, 0, none⟩ = some (.int .u32 p) := by simp
  have hc1 : (w.alloc (.cells #[.int .u32 p, .int .i64 q] 35)).cell? ⟨w.heap.size, 1, none⟩ = some (.int .i64 q) := by simp
  have hsz : (w.alloc (.cells #[.int .u32 p, .int .i64 q] 35)).heap.size = w.heap.size + 1 := by simp
  generalize w.alloc (.cells #[.int .u32 p, .int .i64 q] 35) = Wr at hbw hc0 hc1 hsz ⊢
  obtain ⟨N, hN⟩ : ∃ N, N = w.heap.size + 1 := ⟨_, rfl⟩
  have s1 : N ≤ Wr.drew.heap.size := by show N ≤ Wr.heap.size; omega
  have SB1 : Hid (∀ W, Below N Wr.drew W → W.cell? ⟨w.heap.size, 0, none⟩ = some (.int .u32 p) ∧ W.cell? ⟨w.heap.size, 1, none⟩ = some (.int .i64 q)) := fun W hW =>
    ⟨(hW.cell (by show w.heap.size < N; omega)).trans hc0, (hW.cell (by show w.heap.size < N; omega)).trans hc1⟩
  have FIN : Hid (∀ v3 w7, w7.ownsRow N 35 2 v3 (0 + 1) ([] ++ [.int .u32 p, .int .i64 q]) → Below N Wr.drew w7 → PutPost w [] (p, q) (.returned v3) w7) := fun v3 w7 h1 h2 => by
    have e : ([] ++ [.int .u32 p, .int .i64 q] : List Value) = candL [(p, q)] := rfl
    rw [e] at h1
    obtain ⟨A, c', rfl, h4, h5, h6⟩ := row_of_own h1 (fun h => by
      subst h
      rcases h1.2 with ⟨_, hz⟩ | ⟨g', cap, cur, e', _⟩
      · omega
      · cases e')
    exact ⟨A, _, c', rfl, h6, by simp, h5, putP_new (l := []) (k := 0) .nil (Nat.zero_le _) (fun j c h => by omega) (fun j c _ h => by cases h), hbw.drew.trans (h2.mono (show w.heap.size ≤ N by omega))⟩
  have m1 : 0 + 1 ≤ maxLen := by unfold maxLen; omega
  have m2 : (0 + 1) * 16 ≤ 140737488355328 := by omega
  clear hsz hc0 hc1 hbw hN
  go_wp2_with fail
  refine wp_region_held_drew (S := fun W => W.cell? ⟨w.heap.size, 0, none⟩ = some (.int .u32 p) ∧ W.cell? ⟨w.heap.size, 1, none⟩ = some (.int .i64 q)) (by kernel_rfl) (SB1.out _ (Below.refl _ _)) (fun hS => ?_)
  refine wpAnyH_take (i := 1) (oi := { dst := some 33, op := Op.move (Operand.tmp 0), type := 28, pos := "ref.go:43", after := #[], guard := none }) (v := ?_) rfl (by kernel_rfl) (by kernel_rfl) (by kernel_rfl) (fun _ _ _ h => h) (Or.inl ⟨by rfl, ?_⟩) hS ?_
  rotate_left
  · intro W hSw; (try dsimp only at hSw); obtain ⟨_, _⟩ := hSw; go_simp; (try with_reducible rfl)
  (try simp only [Act.put, List.setIfInBounds_toArray, List.set_cons_zero, List.set_cons_succ])
  refine wpAnyH_take (i := 2) (oi := { dst := some 34, op := Op.move (Operand.tmp 5), type := 3, pos := "ref.go:43", after := #[], guard := none }) (v := ?_) rfl (by kernel_rfl) (by kernel_rfl) (by kernel_rfl) (fun _ _ _ h => h) (Or.inl ⟨by rfl, ?_⟩) hS ?_
  rotate_left
  · intro W hSw; (try dsimp only at hSw); obtain ⟨_, _⟩ := hSw; go_simp; (try with_reducible rfl)
  (try simp only [Act.put, List.setIfInBounds_toArray, List.set_cons_zero, List.set_cons_succ])
  refine wpAnyH_take (i := 3) (oi := { dst := some 35, op := Op.slice 28 (Operand.tmp 33) none (some (Operand.tmp 34)) none, type := 28, pos := "ref.go:43", after := #[{ on := 1, ground := Ground.data }, { on := 2, ground := Ground.data }], guard := none }) (v := ?_) rfl (by kernel_rfl) (by kernel_rfl) (by kernel_rfl) (fun _ _ _ h => h) (Or.inl ⟨by rfl, ?_⟩) hS ?_
  rotate_left
  · intro W hSw; (try dsimp only at hSw); obtain ⟨_, _⟩ := hSw; go_simp; (try with_reducible rfl)
  (try simp only [Act.put, List.setIfInBounds_toArray, List.set_cons_zero, List.set_cons_succ])
  refine wpAnyH_take (i := 8) (oi := { dst := some 40, op := Op.move (Operand.tmp 0), type := 28, pos := "ref.go:43", after := #[], guard := none }) (v := ?_) rfl (by kernel_rfl) (by kernel_rfl) (by kernel_rfl) (fun _ _ _ h => h) (Or.inl ⟨by rfl, ?_⟩) hS ?_
  rotate_left
  · intro W hSw; (try dsimp only at hSw); obtain ⟨_, _⟩ := hSw; go_simp; (try with_reducible rfl)
  (try simp only [Act.put, List.setIfInBounds_toArray, List.set_cons_zero, List.set_cons_succ])
  refine wpAnyH_take (i := 9) (oi := { dst := some 41, op := Op.move (Operand.tmp 5), type := 3, pos := "ref.go:43", after := #[], guard := none }) (v := ?_) rfl (by kernel_rfl) (by kernel_rfl) (by kernel_rfl) (fun _ _ _ h => h) (Or.inl ⟨by rfl, ?_⟩) hS ?_
  rotate_left
  · intro W hSw; (try dsimp only at hSw); obtain ⟨_, _⟩ := hSw; go_simp; (try with_reducible rfl)
  (try simp only [Act.put, List.setIfInBounds_toArray, List.set_cons_zero, List.set_cons_succ])
  refine wpAnyH_take (i := 10) (oi := { dst := some 42, op := Op.slice 28 (Operand.tmp 40) (some (Operand.tmp 41)) none none, type := 28, pos := "ref.go:43", after := #[{ on := 8, ground := Ground.data }, { on := 9, ground := Ground.data }], guard := none }) (v := ?_) rfl (by kernel_rfl) (by kernel_rfl) (by kernel_rfl) (fun _ _ _ h => h) (Or.inl ⟨by rfl, ?_⟩) hS ?_
  rotate_left
  · intro W hSw; (try dsimp only at hSw); obtain ⟨_, _⟩ := hSw; go_simp; (try with_reducible rfl)
  (try simp only [Act.put, List.setIfInBounds_toArray, List.set_cons_zero, List.set_cons_succ])
  refine wpAnyH_take (i := 5) (oi := { dst := some 37, op := Op.load 35 (Operand.tmp 3), type := 35, pos := "ref.go:43", after := #[], guard := none }) (v := ?_) rfl (by kernel_rfl) (by kernel_rfl) (by kernel_rfl) (fun _ _ _ h => h) (Or.inl ⟨by rfl, ?_⟩) hS ?_
  rotate_left
  · intro W hSw; (try dsimp only at hSw); obtain ⟨_, _⟩ := hSw; go_simp; (try with_reducible rfl)
  (try simp only [Act.put, List.setIfInBounds_toArray, List.set_cons_zero, List.set_cons_succ])
  refine wpAnyH_ready (rs := [0, 6]) (by kernel_rfl) (by simp) (AllReadyH.cons (o := { dst := some 32, op := Op.buildSlice 28 0 #[], type := 28, pos := "ref.go:43", after := #[], guard := none }) rfl (fun K hK => ?_) (AllReadyH.cons (o := { dst := some 38, op := Op.buildSlice 28 1 #[(0, Operand.tmp 37)], type := 28, pos := "ref.go:43", after := #[{ on := 5, ground := Ground.data }], guard := none }) rfl (fun K hK => ?_) AllReadyH.nil))
  · go_simp
    have hS := SB1.out _ ((Below.refl N Wr.drew).alloc s1 (.cells #[] 35))
    refine hK.out _ _ hS (fun _ => ?_)
    clear hK K
    (try simp only [Act.put, List.setIfInBounds_toArray, List.set_cons_zero, List.set_cons_succ])
    refine wpAnyH_ready (rs := [4, 6]) (by kernel_rfl) (by simp) (AllReadyH.cons (o := { dst := some 36, op := Op.call { callee := Callee.builtin Builtin.append, args := #[Operand.tmp 32, Operand.tmp 35], argTypes := #[28, 28] }, type := 28, pos := "ref.go:43", after := #[{ on := 0, ground := Ground.data }, { on := 3, ground := Ground.data }], guard := none }) rfl (fun K hK => ?_) (AllReadyH.cons (o := { dst := some 38, op := Op.buildSlice 28 1 #[(0, Operand.tmp 37)], type := 28, pos := "ref.go:43", after := #[{ on := 5, ground := Ground.data }], guard := none }) rfl (fun K hK => ?_) AllReadyH.nil))
    · go_simp
      have hS := SB1.out _ ((Below.refl N Wr.drew).alloc s1 (.cells #[] 35))
      refine hK.out _ _ hS (fun _ => ?_)
      clear hK K
      (try simp only [Act.put, List.setIfInBounds_toArray, List.set_cons_zero, List.set_cons_succ])
      refine wpAnyH_ready (rs := [6]) (by kernel_rfl) (by simp) (AllReadyH.cons (o := { dst := some 38, op := Op.buildSlice 28 1 #[(0, Operand.tmp 37)], type := 28, pos := "ref.go:43", after := #[{ on := 5, ground := Ground.data }], guard := none }) rfl (fun K hK => ?_) AllReadyH.nil)
      go_simp
      have hS := SB1.out _ (((Below.refl N Wr.drew).alloc s1 (.cells #[] 35)).alloc (Nat.le_trans s1 ((Below.refl N Wr.drew).alloc s1 (.cells #[] 35)).size) (.cells #[.int .u32 p, .int .i64 q] 35))
      refine hK.out _ _ hS (fun _ => ?_)
      clear hK K
      (try simp only [Act.put, List.setIfInBounds_toArray, List.set_cons_zero, List.set_cons_succ])
      refine wpAnyH_ready (rs := [7]) (by kernel_rfl) (by simp) (AllReadyH.cons (o := { dst := some 39, op := Op.call { callee := Callee.builtin Builtin.append, args := #[Operand.tmp 36, Operand.tmp 38], argTypes := #[28, 28] }, type := 28, pos := "ref.go:43", after := #[{ on := 4, ground := Ground.data }, { on := 6, ground := Ground.data }, { on := 4, ground := Ground.chain }], guard := none }) rfl (fun K hK => ?_) AllReadyH.nil)
      have hlit : ((Wr.drew.alloc (.cells #[] 35)).alloc (.cells #[.int .u32 p, .int .i64 q] 35)).ownsRow N 35 2 (.slice (some ⟨Wr.heap.size, 0, none⟩) 0 0) 0 [] := (World.ownsRow_lit Wr.drew #[] 0 s1 (Nat.zero_le _) rfl).alloc _
      have hn6 : ∀ j u, ([.int .u32 p, .int .i64 q] : List Value)[j]? = some u → ((Wr.drew.alloc (.cells #[] 35)).alloc (.cells #[.int .u32 p, .int .i64 q] 35)).cell? ((⟨(Wr.heap.size + 1), 0, none⟩ : Addr).add j) = some u := fun j u hj => by rw [addr_add']; have := range_new (Wr.drew.alloc (.cells #[] 35)) [.int .u32 p, .int .i64 q] 35 j u hj; rw [show (Wr.drew.alloc (.cells #[] 35)).heap.size = Wr.heap.size + 1 by simp] at this; exact this
      refine step_append_own' (by rfl) (.tmp 36) (.tmp 38) 28 (by rfl) N 35 i0 _ 2 16 Tryz.underlying28 hi hz0 hz1 hz2 rfl Nat.zero_lt_two (.slice (some ⟨Wr.heap.size, 0, none⟩) 0 0) 0 [] (by rfl) hlit ⟨(Wr.heap.size + 1), 0, none⟩ 1 1 [.int .u32 p, .int .i64 q] (by rfl) rfl hn6 two_one m1 m2 (Nat.le_trans s1 (((Below.refl N Wr.drew).alloc s1 (.cells #[] 35)).alloc (Nat.le_trans s1 ((Below.refl N Wr.drew).alloc s1 (.cells #[] 35)).size) (.cells #[.int .u32 p, .int .i64 q] 35)).size) ?_
      intro v2 w6 hown2 hgrow2 _
      have b6 : Below N Wr.drew w6 := (((Below.refl N Wr.drew).alloc s1 (.cells #[] 35)).alloc (Nat.le_trans s1 ((Below.refl N Wr.drew).alloc s1 (.cells #[] 35)).size) (.cells #[.int .u32 p, .int .i64 q] 35)).grown hgrow2 (Nat.le_trans s1 (((Below.refl N Wr.drew).alloc s1 (.cells #[] 35)).alloc (Nat.le_trans s1 ((Below.refl N Wr.drew).alloc s1 (.cells #[] 35)).size) (.cells #[.int .u32 p, .int .i64 q] 35)).size) (fun x hx => (hlit.lt x hx).1)
      rcases hown2.2 with ⟨_, hz⟩ | ⟨g2, cap2, cur2, rfl, _, _, hnc2, _⟩
      · omega
      have fin := FIN.out _ _ hown2 b6
      clear hown2 hgrow2
      have hS := SB1.out _ (b6)
      refine hK.out _ _ hS (fun _ => ?_)
      clear hK K
      (try simp only [Act.put, List.setIfInBounds_toArray, List.set_cons_zero, List.set_cons_succ])
      refine wpAnyH_ready (rs := [11]) (by kernel_rfl) (by simp) (AllReadyH.cons (o := { dst := some 43, op := Op.call { callee := Callee.builtin Builtin.append, args := #[Operand.tmp 39, Operand.tmp 42], argTypes := #[28, 28] }, type := 28, pos := "ref.go:43", after := #[{ on := 7, ground := Ground.data }, { on := 10, ground := Ground.data }, { on := 7, ground := Ground.chain }], guard := none }) rfl (fun K hK => ?_) AllReadyH.nil)
      go_simp
      have hS := SB1.out _ (b6)
      refine hK.out _ _ hS (fun _ => ?_)
      clear hK K
      (try simp only [Act.put, List.setIfInBounds_toArray, List.set_cons_zero, List.set_cons_succ])
      refine wpAnyH_take (i := 12) (oi := { dst := some 4, op := Op.assign (Operand.tmp 43), type := 28, pos := "ref.go:43", after := #[{ on := 11, ground := Ground.data }, { on := 11, ground := Ground.chain }, { on := 0, ground := Ground.phase }, { on := 1, ground := Ground.phase }, { on := 2, ground := Ground.phase }, { on := 3, ground := Ground.phase }, { on := 4, ground := Ground.phase }, { on := 5, ground := Ground.phase }, { on := 6, ground := Ground.phase }, { on := 7, ground := Ground.phase }, { on := 8, ground := Ground.phase }, { on := 9, ground := Ground.phase }, { on := 10, ground := Ground.phase }, { on := 11, ground := Ground.phase }], guard := none }) (v := ?_) rfl (by kernel_rfl) (by kernel_rfl) (by kernel_rfl) (fun _ _ _ h => h) (Or.inl ⟨by rfl, ?_⟩) hS ?_
      rotate_left
      · intro W hSw; (try dsimp only at hSw); obtain ⟨_, _⟩ := hSw; go_simp; (try with_reducible rfl)
      (try simp only [Act.put, List.setIfInBounds_toArray, List.set_cons_zero, List.set_cons_succ])
      refine wpAnyH_done (by kernel_rfl) ?_ _
      go_wp2_with fail
      go_ret
      exact fin
    · go_simp
      have hS := SB1.out _ (((Below.refl N Wr.drew).alloc s1 (.cells #[] 35)).alloc (Nat.le_trans s1 ((Below.refl N Wr.drew).alloc s1 (.cells #[] 35)).size) (.cells #[.int .u32 p, .int .i64 q] 35))
      refine hK.out _ _ hS (fun _ => ?_)
      clear hK K
      (try simp only [Act.put, List.setIfInBounds_toArray, List.set_cons_zero, List.set_cons_succ])
      refine wpAnyH_ready (rs := [4]) (by kernel_rfl) (by simp) (AllReadyH.cons (o := { dst := some 36, op := Op.call { callee := Callee.builtin Builtin.append, args := #[Operand.tmp 32, Operand.tmp 35], argTypes := #[28, 28] }, type := 28, pos := "ref.go:43", after := #[{ on := 0, ground := Ground.data }, { on := 3, ground := Ground.data }], guard := none }) rfl (fun K hK => ?_) AllReadyH.nil)
      go_simp
      have hS := SB1.out _ (((Below.refl N Wr.drew).alloc s1 (.cells #[] 35)).alloc (Nat.le_trans s1 ((Below.refl N Wr.drew).alloc s1 (.cells #[] 35)).size) (.cells #[.int .u32 p, .int .i64 q] 35))
      refine hK.out _ _ hS (fun _ => ?_)
      clear hK K
      (try simp only [Act.put, List.setIfInBounds_toArray, List.set_cons_zero, List.set_cons_succ])
      refine wpAnyH_ready (rs := [7]) (by kernel_rfl) (by simp) (AllReadyH.cons (o := { dst := some 39, op := Op.call { callee := Callee.builtin Builtin.append, args := #[Operand.tmp 36, Operand.tmp 38], argTypes := #[28, 28] }, type := 28, pos := "ref.go:43", after := #[{ on := 4, ground := Ground.data }, { on := 6, ground := Ground.data }, { on := 4, ground := Ground.chain }], guard := none }) rfl (fun K hK => ?_) AllReadyH.nil)
      have hlit : ((Wr.drew.alloc (.cells #[] 35)).alloc (.cells #[.int .u32 p, .int .i64 q] 35)).ownsRow N 35 2 (.slice (some ⟨Wr.heap.size, 0, none⟩) 0 0) 0 [] := (World.ownsRow_lit Wr.drew #[] 0 s1 (Nat.zero_le _) rfl).alloc _
      have hn6 : ∀ j u, ([.int .u32 p, .int .i64 q] : List Value)[j]? = some u → ((Wr.drew.alloc (.cells #[] 35)).alloc (.cells #[.int .u32 p, .int .i64 q] 35)).cell? ((⟨(Wr.heap.size + 1), 0, none⟩ : Addr).add j) = some u := fun j u hj => by rw [addr_add']; have := range_new (Wr.drew.alloc (.cells #[] 35)) [.int .u32 p, .int .i64 q] 35 j u hj; rw [show (Wr.drew.alloc (.cells #[] 35)).heap.size = Wr.heap.size + 1 by simp] at this; exact this
      refine step_append_own' (by rfl) (.tmp 36) (.tmp 38) 28 (by rfl) N 35 i0 _ 2 16 Tryz.underlying28 hi hz0 hz1 hz2 rfl Nat.zero_lt_two (.slice (some ⟨Wr.heap.size, 0, none⟩) 0 0) 0 [] (by rfl) hlit ⟨(Wr.heap.size + 1), 0, none⟩ 1 1 [.int .u32 p, .int .i64 q] (by rfl) rfl hn6 two_one m1 m2 (Nat.le_trans s1 (((Below.refl N Wr.drew).alloc s1 (.cells #[] 35)).alloc (Nat.le_trans s1 ((Below.refl N Wr.drew).alloc s1 (.cells #[] 35)).size) (.cells #[.int .u32 p, .int .i64 q] 35)).size) ?_
      intro v2 w6 hown2 hgrow2 _
      have b6 : Below N Wr.drew w6 := (((Below.refl N Wr.drew).alloc s1 (.cells #[] 35)).alloc (Nat.le_trans s1 ((Below.refl N Wr.drew).alloc s1 (.cells #[] 35)).size) (.cells #[.int .u32 p, .int .i64 q] 35)).grown hgrow2 (Nat.le_trans s1 (((Below.refl N Wr.drew).alloc s1 (.cells #[] 35)).alloc (Nat.le_trans s1 ((Below.refl N Wr.drew).alloc s1 (.cells #[] 35)).size) (.cells #[.int .u32 p, .int .i64 q] 35)).size) (fun x hx => (hlit.lt x hx).1)
      rcases hown2.2 with ⟨_, hz⟩ | ⟨g2, cap2, cur2, rfl, _, _, hnc2, _⟩
      · omega
      have fin := FIN.out _ _ hown2 b6
      clear hown2 hgrow2
      have hS := SB1.out _ (b6)
      refine hK.out _ _ hS (fun _ => ?_)
      clear hK K
      (try simp only [Act.put, List.setIfInBounds_toArray, List.set_cons_zero, List.set_cons_succ])
      refine wpAnyH_ready (rs := [11]) (by kernel_rfl) (by simp) (AllReadyH.cons (o := { dst := some 43, op := Op.call { callee := Callee.builtin Builtin.append, args := #[Operand.tmp 39, Operand.tmp 42], argTypes := #[28, 28] }, type := 28, pos := "ref.go:43", after := #[{ on := 7, ground := Ground.data }, { on := 10, ground := Ground.data }, { on := 7, ground := Ground.chain }], guard := none }) rfl (fun K hK => ?_) AllReadyH.nil)
      go_simp
      have hS := SB1.out _ (b6)
      refine hK.out _ _ hS (fun _ => ?_)
      clear hK K
      (try simp only [Act.put, List.setIfInBounds_toArray, List.set_cons_zero, List.set_cons_succ])
      refine wpAnyH_take (i := 12) (oi := { dst := some 4, op := Op.assign (Operand.tmp 43), type := 28, pos := "ref.go:43", after := #[{ on := 11, ground := Ground.data }, { on := 11, ground := Ground.chain }, { on := 0, ground := Ground.phase }, { on := 1, ground := Ground.phase }, { on := 2, ground := Ground.phase }, { on := 3, ground := Ground.phase }, { on := 4, ground := Ground.phase }, { on := 5, ground := Ground.phase }, { on := 6, ground := Ground.phase }, { on := 7, ground := Ground.phase }, { on := 8, ground := Ground.phase }, { on := 9, ground := Ground.phase }, { on := 10, ground := Ground.phase }, { on := 11, ground := Ground.phase }], guard := none }) (v := ?_) rfl (by kernel_rfl) (by kernel_rfl) (by kernel_rfl) (fun _ _ _ h => h) (Or.inl ⟨by rfl, ?_⟩) hS ?_
      rotate_left
      · intro W hSw; (try dsimp only at hSw); obtain ⟨_, _⟩ := hSw; go_simp; (try with_reducible rfl)
      (try simp only [Act.put, List.setIfInBounds_toArray, List.set_cons_zero, List.set_cons_succ])
      refine wpAnyH_done (by kernel_rfl) ?_ _
      go_wp2_with fail
      go_ret
      exact fin
  · go_simp
    have hS := SB1.out _ ((Below.refl N Wr.drew).alloc s1 (.cells #[.int .u32 p, .int .i64 q] 35))
    refine hK.out _ _ hS (fun _ => ?_)
    clear hK K
    (try simp only [Act.put, List.setIfInBounds_toArray, List.set_cons_zero, List.set_cons_succ])
    refine wpAnyH_ready (rs := [0]) (by kernel_rfl) (by simp) (AllReadyH.cons (o := { dst := some 32, op := Op.buildSlice 28 0 #[], type := 28, pos := "ref.go:43", after := #[], guard := none }) rfl (fun K hK => ?_) AllReadyH.nil)
    go_simp
    have hS := SB1.out _ (((Below.refl N Wr.drew).alloc s1 (.cells #[.int .u32 p, .int .i64 q] 35)).alloc (Nat.le_trans s1 ((Below.refl N Wr.drew).alloc s1 (.cells #[.int .u32 p, .int .i64 q] 35)).size) (.cells #[] 35))
    refine hK.out _ _ hS (fun _ => ?_)
    clear hK K
    (try simp only [Act.put, List.setIfInBounds_toArray, List.set_cons_zero, List.set_cons_succ])
    refine wpAnyH_ready (rs := [4]) (by kernel_rfl) (by simp) (AllReadyH.cons (o := { dst := some 36, op := Op.call { callee := Callee.builtin Builtin.append, args := #[Operand.tmp 32, Operand.tmp 35], argTypes := #[28, 28] }, type := 28, pos := "ref.go:43", after := #[{ on := 0, ground := Ground.data }, { on := 3, ground := Ground.data }], guard := none }) rfl (fun K hK => ?_) AllReadyH.nil)
    go_simp
    have hS := SB1.out _ (((Below.refl N Wr.drew).alloc s1 (.cells #[.int .u32 p, .int .i64 q] 35)).alloc (Nat.le_trans s1 ((Below.refl N Wr.drew).alloc s1 (.cells #[.int .u32 p, .int .i64 q] 35)).size) (.cells #[] 35))
    refine hK.out _ _ hS (fun _ => ?_)
    clear hK K
    (try simp only [Act.put, List.setIfInBounds_toArray, List.set_cons_zero, List.set_cons_succ])
    refine wpAnyH_ready (rs := [7]) (by kernel_rfl) (by simp) (AllReadyH.cons (o := { dst := some 39, op := Op.call { callee := Callee.builtin Builtin.append, args := #[Operand.tmp 36, Operand.tmp 38], argTypes := #[28, 28] }, type := 28, pos := "ref.go:43", after := #[{ on := 4, ground := Ground.data }, { on := 6, ground := Ground.data }, { on := 4, ground := Ground.chain }], guard := none }) rfl (fun K hK => ?_) AllReadyH.nil)
    have hlit : ((Wr.drew.alloc (.cells #[.int .u32 p, .int .i64 q] 35)).alloc (.cells #[] 35)).ownsRow N 35 2 (.slice (some ⟨(Wr.heap.size + 1), 0, none⟩) 0 0) 0 [] := by have := World.ownsRow_lit (base := N) (e := 35) (size := 2) (Wr.drew.alloc (.cells #[.int .u32 p, .int .i64 q] 35)) #[] 0 (Nat.le_trans s1 ((Below.refl N Wr.drew).alloc s1 (.cells #[.int .u32 p, .int .i64 q] 35)).size) (Nat.zero_le _) rfl; simpa using this
    have hn6 : ∀ j u, ([.int .u32 p, .int .i64 q] : List Value)[j]? = some u → ((Wr.drew.alloc (.cells #[.int .u32 p, .int .i64 q] 35)).alloc (.cells #[] 35)).cell? ((⟨Wr.heap.size, 0, none⟩ : Addr).add j) = some u := fun j u hj => by rw [addr_add']; show ((Wr.drew.alloc (.cells #[.int .u32 p, .int .i64 q] 35)).alloc (.cells #[] 35)).cell? _ = _; rw [World.cell?_alloc_past _ _ _ (by simp)]; exact range_new Wr.drew [.int .u32 p, .int .i64 q] 35 j u hj
    refine step_append_own' (by rfl) (.tmp 36) (.tmp 38) 28 (by rfl) N 35 i0 _ 2 16 Tryz.underlying28 hi hz0 hz1 hz2 rfl Nat.zero_lt_two (.slice (some ⟨(Wr.heap.size + 1), 0, none⟩) 0 0) 0 [] (by rfl) hlit ⟨Wr.heap.size, 0, none⟩ 1 1 [.int .u32 p, .int .i64 q] (by rfl) rfl hn6 two_one m1 m2 (Nat.le_trans s1 (((Below.refl N Wr.drew).alloc s1 (.cells #[.int .u32 p, .int .i64 q] 35)).alloc (Nat.le_trans s1 ((Below.refl N Wr.drew).alloc s1 (.cells #[.int .u32 p, .int .i64 q] 35)).size) (.cells #[] 35)).size) ?_
    intro v2 w6 hown2 hgrow2 _
    have b6 : Below N Wr.drew w6 := (((Below.refl N Wr.drew).alloc s1 (.cells #[.int .u32 p, .int .i64 q] 35)).alloc (Nat.le_trans s1 ((Below.refl N Wr.drew).alloc s1 (.cells #[.int .u32 p, .int .i64 q] 35)).size) (.cells #[] 35)).grown hgrow2 (Nat.le_trans s1 (((Below.refl N Wr.drew).alloc s1 (.cells #[.int .u32 p, .int .i64 q] 35)).alloc (Nat.le_trans s1 ((Below.refl N Wr.drew).alloc s1 (.cells #[.int .u32 p, .int .i64 q] 35)).size) (.cells #[] 35)).size) (fun x hx => (hlit.lt x hx).1)
    rcases hown2.2 with ⟨_, hz⟩ | ⟨g2, cap2, cur2, rfl, _, _, hnc2, _⟩
    · omega
    have fin := FIN.out _ _ hown2 b6
    clear hown2 hgrow2
    have hS := SB1.out _ (b6)
    refine hK.out _ _ hS (fun _ => ?_)
    clear hK K
    (try simp only [Act.put, List.setIfInBounds_toArray, List.set_cons_zero, List.set_cons_succ])
    refine wpAnyH_ready (rs := [11]) (by kernel_rfl) (by simp) (AllReadyH.cons (o := { dst := some 43, op := Op.call { callee := Callee.builtin Builtin.append, args := #[Operand.tmp 39, Operand.tmp 42], argTypes := #[28, 28] }, type := 28, pos := "ref.go:43", after := #[{ on := 7, ground := Ground.data }, { on := 10, ground := Ground.data }, { on := 7, ground := Ground.chain }], guard := none }) rfl (fun K hK => ?_) AllReadyH.nil)
    go_simp
    have hS := SB1.out _ (b6)
    refine hK.out _ _ hS (fun _ => ?_)
    clear hK K
    (try simp only [Act.put, List.setIfInBounds_toArray, List.set_cons_zero, List.set_cons_succ])
    refine wpAnyH_take (i := 12) (oi := { dst := some 4, op := Op.assign (Operand.tmp 43), type := 28, pos := "ref.go:43", after := #[{ on := 11, ground := Ground.data }, { on := 11, ground := Ground.chain }, { on := 0, ground := Ground.phase }, { on := 1, ground := Ground.phase }, { on := 2, ground := Ground.phase }, { on := 3, ground := Ground.phase }, { on := 4, ground := Ground.phase }, { on := 5, ground := Ground.phase }, { on := 6, ground := Ground.phase }, { on := 7, ground := Ground.phase }, { on := 8, ground := Ground.phase }, { on := 9, ground := Ground.phase }, { on := 10, ground := Ground.phase }, { on := 11, ground := Ground.phase }], guard := none }) (v := ?_) rfl (by kernel_rfl) (by kernel_rfl) (by kernel_rfl) (fun _ _ _ h => h) (Or.inl ⟨by rfl, ?_⟩) hS ?_
    rotate_left
    · intro W hSw; (try dsimp only at hSw); obtain ⟨_, _⟩ := hSw; go_simp; (try with_reducible rfl)
    (try simp only [Act.put, List.setIfInBounds_toArray, List.set_cons_zero, List.set_cons_succ])
    refine wpAnyH_done (by kernel_rfl) ?_ _
    go_wp2_with fail
    go_ret
    exact fin
end Go.Proofs.YtiellonfgcmaaaaGreat

/- The reference's candidates. -/
namespace Go.Proofs.YtiellonfgcmaaaaGreat
open Go.RowKit Go.ChangeShapes

theorem algV_range (v : Int) (h0 : 0 ≤ v) (h1 : v ≤ 281474976710655) : 0 ≤ algV v ∧ algV v ≤ 31 := by
  unfold algV
  obtain ⟨n, hn⟩ : ∃ n : Nat, v / 1099511627776 = n := ⟨(v / 1099511627776).toNat, (Int.toNat_of_nonneg (Int.ediv_nonneg h0 (by omega))).symm⟩
  rw [hn]
  have hb := bits_and_u64_nat n 31 (by omega) (by omega)
  have hle : n &&& 31 ≤ 31 := Nat.and_le_right
  rw [show (31 : Int) = ((31 : Nat) : Int) from rfl, hb]
  unfold wrap64
  omega
theorem firstV_range (n : Nat) (f : Nat → Nat → Int) (hf : ∀ i j, 0 ≤ f i j ∧ f i j ≤ 255) : 0 ≤ firstV n f ∧ firstV n f ≤ 281474976710655 := by
  unfold firstV; split
  · rename_i i _; unfold num6
    have h2 := hf i 2; have h3 := hf i 3; have h4 := hf i 4; have h5 := hf i 5; have h6 := hf i 6; have h7 := hf i 7
    omega
  · omega
/-- A route's election: the algorithm, the preference, whether there is one. -/
def rAlg (r : RT) : Int := algV (firstV r.ml r.mx)
def rPref (r : RT) : Int := prefV (firstV r.ml r.mx)
def rIs (r : RT) : Bool := (firstE r.ml r.mx).isSome
theorem rAlg_nonneg {r : RT} (hf : r.fine) : 0 ≤ rAlg r := by
  obtain ⟨h1, h2⟩ := firstV_range r.ml r.mx hf.2.2.2.2
  exact (algV_range _ h1 h2).1
theorem relection_any (r : RT) (w : World) (hf : r.fine) (hl : r.lists w) :
    Calls Tryz.prog 48 #[.slice r.ma r.ml r.mc] w fun e w' => e = .returned (.tuple #[.int .i64 (rAlg r), .int .i64 (rPref r), .bool (rIs r)]) ∧ Below w.heap.size w w' := by
  rcases hl.2.2 with ⟨h1, h2⟩ | ⟨b, off, h1, h2, h3, h4, h5⟩
  · unfold rAlg rPref rIs
    rw [h1]
    exact (relection_none r.ma r.mc r.mx w).mono fun e w' ⟨h6, h7⟩ => ⟨h6, by rw [h7]; exact Below.refl _ _⟩
  · rw [h1]
    exact relection_some b off r.ml r.mc r.mx w (by have := hf.1.2.2; omega) h2 hf.2.2.2.2 (fun i hi j hj => by rw [Nat.add_assoc]; exact h5 (i * 8 + j) _ (comms_get hi j hj))
/-- Candidates that a value reads as. -/
def CandV (w : World) (v : Value) (l : List (Int × Int)) : Prop := (v = .slice none 0 0 ∧ l = []) ∨ ∃ g off c, v = .slice (some ⟨g, off, none⟩) l.length c ∧ 0 < l.length ∧ Row w (some ⟨g, off, none⟩) l.length c 2 (candL l)
theorem CandV.below {w w' : World} {v : Value} {l : List (Int × Int)} (h : CandV w v l) (hb : Below w.heap.size w w') : CandV w' v l := by
  rcases h with h | ⟨g, off, c, h1, h2, h3⟩
  · exact .inl h
  · exact .inr ⟨g, off, c, h1, h2, h3.below hb⟩
theorem put_any (v : Value) (l : List (Int × Int)) (p q : Int) (w : World) (hn : l.length ≤ 60) (ha : AscC l) (hv : CandV w v l) :
    Calls Tryz.prog 49 #[v, .agg #[.int .u32 p, .int .i64 q]] w fun e w' => ∃ v' l', e = .returned v' ∧ CandV w' v' l' ∧ PutP l (p, q) l' ∧ Below w.heap.size w w' := by
  have fin : ∀ e w', PutPost w l (p, q) e w' → ∃ v' l', e = .returned v' ∧ CandV w' v' l' ∧ PutP l (p, q) l' ∧ Below w.heap.size w w' := by
    rintro e w' ⟨A', l', c', rfl, hA, hl, hr, hp, hb⟩
    refine ⟨_, l', rfl, .inr ?_, hp, hb⟩
    have hl' : 0 < l'.length := List.length_pos_iff.2 hl
    rcases hr with ⟨h0, _⟩ | ⟨b, off, rfl, h⟩
    · omega
    · exact ⟨b, off, c', rfl, hl', .inr ⟨b, off, rfl, h⟩⟩
  rcases hv with ⟨rfl, rfl⟩ | ⟨g, off, c, rfl, h0, hr⟩
  · exact (put_nil p q w).mono fin
  · exact (put_some g off c l p q w hn ha h0 hr).mono fin
def pairs (fs : List RT) : List (Int × Int) := fs.map fun r => (r.g 23, rPref r)
def elecs (fs : List RT) : List (Int × Bool) := fs.map fun r => (rAlg r, rIs r)
/-- What 'put' makes of the candidates so far. -/
theorem put_step {l l' : List (Int × Int)} {L : List (Int × Int)} {x : Int × Int} (h : Firsts l L) (hp : PutP l x l') : Firsts l' (L ++ [x]) := by
  rcases hp.how with ⟨rfl, h1⟩ | ⟨h1, h2⟩
  · exact firsts_old h x h1
  · exact firsts_new h x h1 h2
def algOf (alg : Int) (all : Bool) : Int := if all = false ∨ alg < 0 ∨ 2 < alg then 0 else alg
/-- What a round's own copy of a route holds. -/
theorem copy_cells (r : RT) (w0 wr W2 : World) (N : Nat) (s : Nat → Int) (hb : Below (N + 1) w0 wr) (hbox : w0.rangeAt N 0 (esiL s)) (_hs : N + 1 ≤ wr.heap.size) (hW : W2 = wr.alloc (.cells r.cells.toArray 58)) :
    W2.cell? ⟨wr.heap.size, 0, none⟩ = some (.int .i64 (r.g 0)) ∧ W2.cell? ⟨wr.heap.size, 23, none⟩ = some (.int .u32 (r.g 23)) ∧ W2.cell? ⟨wr.heap.size, 31, none⟩ = some (.slice r.ma r.ml r.mc) ∧ W2.rangeAt wr.heap.size 2 (esiL fun j => r.g (2 + j)) ∧ W2.rangeAt N 0 (esiL s) ∧ W2.heap.size = wr.heap.size + 1 ∧ Below wr.heap.size wr W2 := by
  subst hW
  have g := range_new wr r.cells 58
  obtain ⟨z, hz⟩ := esi_part r
  exact ⟨g 0 _ rfl, g 23 _ rfl, g 31 _ rfl, rangeAt_sub g _ _ z hz 2 rfl, World.rangeAt_alloc (rangeAt_below hbox (by omega) hb) _, by simp, (Below.refl _ _).alloc (Nat.le_refl _) _⟩
def RCandPost (w : World) (fs : List RT) (e : Ending) (w' : World) : Prop := ∃ v l alg all, e = .returned (.tuple #[v, .int .i64 (algOf alg all)]) ∧ CandV w' v l ∧ AscC l ∧ Firsts l (pairs fs) ∧ AlgR (elecs fs) alg all ∧ l.length ≤ 60 ∧ Below w.heap.size w w'
set_option maxRecDepth 100000 in
set_option maxHeartbeats 2000000 in
theorem rcand_some (b off c : Nat) (rs : List RT) (s : Nat → Int) (w : World) (hn : rs.length ≤ 60) (hf : ∀ r ∈ rs, r.fine ∧ r.lists w) (hlie : Lies w b off rs) :
    Calls Tryz.prog 13 #[.slice (some ⟨b, off, none⟩) rs.length c, .agg (esiL s).toArray] w (RCandPost w (rs.filter (selR s))) := by
  have LIE := Lib.hid hlie
  have HF := Lib.hid hf
  obtain ⟨n, hnl⟩ : ∃ n, n = rs.length := ⟨_, rfl⟩
  rw [← hnl] at hn ⊢
  have NL := Lib.hid hnl
  clear hlie hnl hf
  have BOX : Hid ((w.alloc (.cells (esiL s).toArray 24)).rangeAt w.heap.size 0 (esiL s)) := range_new w (esiL s) 24
  have B0 : Hid (Below w.heap.size w (w.alloc (.cells (esiL s).toArray 24))) := (Below.refl _ _).alloc (Nat.le_refl _) _
  go_enter Tryz.func13, Tryz.ntmps13
  go_wp2
  go_loopw [6, 7, 8, 9] (fun v av bv iv wr => ∃ (k : Nat) (l : List (Int × Int)) (alg : Int) (all : Bool), k ≤ n ∧ iv = .int .i64 k ∧ av = .int .i64 alg ∧ bv = .bool all ∧ Hid (CandV wr v l ∧ AscC l ∧ Firsts l (pairs ((rs.take k).filter (selR s))) ∧ AlgR (elecs ((rs.take k).filter (selR s))) alg all ∧ l.length ≤ k) ∧ Below (w.heap.size + 1) (w.alloc (.cells (esiL s).toArray 24)) wr) (fun _ _ _ i _ => n - (intOf i).toNat)
  case atStart => exact ⟨0, [], -1, true, Nat.zero_le _, rfl, rfl, rfl, ⟨.inl ⟨rfl, rfl⟩, .nil, firsts_nil, .inl ⟨rfl, rfl, rfl⟩, Nat.le_refl _⟩, Below.refl _ _⟩
  case round =>
    obtain ⟨k, l, alg, all, hk, rfl, rfl, rfl, hin, hbl⟩ := hrel
    by_cases hlt : k < n
    · obtain ⟨r, hr⟩ : ∃ r, rs[k]? = some r := ⟨_, List.getElem?_eq_getElem (by rw [← NL.out]; exact hlt)⟩
      have hlt' : (k : Int) < n := by omega
      have h0' : (0 : Int) ≤ k := by omega
      have bw : Below w.heap.size w wr := B0.out.trans (hbl.mono (by omega))
      have RG : wr.rangeAt b (off + k * 38) r.cells := fun j v hj => (bw.cell (by exact LIE.out.1)).trans (LIE.out.2 k j r v hr hj)
      have sz : w.heap.size + 1 ≤ wr.heap.size := by have := hbl.size; simpa using this
      have CC := Lib.hid (copy_cells r (w.alloc (.cells (esiL s).toArray 24)) wr _ w.heap.size s hbl BOX.out sz rfl)
      have FI := Lib.hid (HF.out r (List.mem_of_getElem? hr)).1
      have LI := Lib.hid ((HF.out r (List.mem_of_getElem? hr)).2.below bw)
      have TS : Hid (rs.take (k + 1) = rs.take k ++ [r]) := take_snoc hr
      have HBL := Lib.hid hbl
      clear hbl hr bw
      have EQ := fun W => eq_esi (fun j => r.g (2 + j)) s W
      by_cases q4 : r.g 0 = 4
      · have q4' : (r.g 0 != 4) = false := by simpa using q4
        have q4'' : (r.g 0 == 4) = true := by simpa using q4
        cases qe : esiB (fun j => r.g (2 + j)) s with
        | true =>
          have SN : Hid (selR s r = true) := by show selR s r = true; simp [selR, q4, qe]
          rw [qe] at EQ
          clear q4 qe
          have FF : Hid ((rs.take (k + 1)).filter (selR s) = (rs.take k).filter (selR s) ++ [r]) := by show _ = _; rw [TS.out, List.filter_append]; simp [SN.out]
          obtain ⟨a, hA⟩ : ∃ a, rAlg r = a := ⟨_, rfl⟩
          obtain ⟨p, hP⟩ : ∃ p, rPref r = p := ⟨_, rfl⟩
          obtain ⟨u, hU⟩ : ∃ u, rIs r = u := ⟨_, rfl⟩
          have ha0 : 0 ≤ a := by rw [← hA]; exact rAlg_nonneg FI.out
          have REL : Hid (∀ W, r.lists W → Calls Tryz.prog 48 #[.slice r.ma r.ml r.mc] W fun e w' => e = .returned (.tuple #[.int .i64 a, .int .i64 p, .bool u]) ∧ Below W.heap.size W w') := fun W hW => by
            rw [← hA, ← hP, ← hU]; exact relection_any r W FI.out hW
          have step : Hid (∀ all', all' = (if u = false ∨ 0 ≤ alg ∧ a ≠ alg then false else all) → ∀ w4 v' l', CandV w4 v' l' → PutP l (r.g 23, p) l' → Hid (CandV w4 v' l' ∧ AscC l' ∧ Firsts l' (pairs ((rs.take (k + 1)).filter (selR s))) ∧ AlgR (elecs ((rs.take (k + 1)).filter (selR s))) a all' ∧ l'.length ≤ k + 1)) := by
            rintro all' rfl w4 v' l' h6 h7
            obtain ⟨h1, h2, h3, h4, h5⟩ := hin.out
            rw [FF.out]
            have e1 : pairs ((rs.take k).filter (selR s) ++ [r]) = pairs ((rs.take k).filter (selR s)) ++ [(r.g 23, p)] := by simp [pairs, hP]
            have e2 : elecs ((rs.take k).filter (selR s) ++ [r]) = elecs ((rs.take k).filter (selR s)) ++ [(a, u)] := by simp [elecs, hA, hU]
            rw [e1, e2]
            exact ⟨h6, h7.asc, put_step h3 h7, algR_step h4 a u ha0, by have := h7.len; omega⟩
          have REL' := REL
          clear hA hP hU REL'
          cases u with
          | false =>
            go_wp2_with (first
              | ((with_reducible show wpList _ _ _ _ _ _); first
                | (refine wpList_load_mid rfl 58 (.tmp 22) rfl b (off + k * 38) rfl r.cells _ RG Tryz.underlying58 rfl info58w ?_)
                | (refine wpList_store_new rfl rfl 58 (.tmp 10) (.tmp 23) rfl _ _ r.cells rfl rfl rfl rfl info58w r.one ?_
                   obtain ⟨c0, c23, c31, RE, RS, s2, b2⟩ := CC.out
                   generalize hW2 : wr.alloc (.cells r.cells.toArray 58) = W2 at c0 c23 c31 RE RS s2 b2 ⊢
                   replace s2 := Lib.hid s2
                   clear hW2)
                | (refine wpList_load_g rfl 24 (.tmp 30) rfl wr.heap.size 2 rfl (esiL fun j => r.g (2 + j)) _ RE Tryz.underlying24 rfl info24w ?_)
                | (refine wpList_load_g rfl 24 (.tmp 3) rfl w.heap.size 0 rfl (esiL s) _ RS Tryz.underlying24 rfl info24w ?_))
              | (go_at_call 48; refine (REL.out _ (LI.out.below b2)).mono ?_; rintro e w3 ⟨rfl, b3⟩
                 have c23' : w3.cell? ⟨wr.heap.size, 23, none⟩ = some (.int .u32 (r.g 23)) := (b3.cell (by show wr.heap.size < _; rw [s2.out]; omega)).trans c23
                 have hin3 := Lib.hid (hin.out.1.below (b2.trans (b3.mono b2.size)))
                 replace b3 := Lib.hid b3
                 clear c0 c23 c31 RE RS)
              | (go_at_call 49; refine (put_any _ l _ _ _ (by have := hin.out.2.2.2.2; omega) hin.out.2.1 hin3.out).mono ?_; rintro e w4 ⟨v', l', rfl, hv', hp', b4⟩; replace b4 := Lib.hid b4; replace hv' := Lib.hid hv'; replace hp' := Lib.hid hp'))
            exact ⟨⟨k + 1, l', a, _, by omega, by go_num, rfl, rfl, step.out _ (by simp) _ _ _ hv'.out hp'.out, HBL.out.trans (((b2.trans (b3.out.mono b2.size)).trans (b4.out.mono (b2.trans (b3.out.mono b2.size)).size)).mono sz)⟩, by simp [intOf]; omega⟩
          | true =>
            by_cases hg : 0 ≤ alg
            · by_cases hne : a = alg
              · have hne' : (a != alg) = false := by simpa using hne
                have HNE := Lib.hid hne
                clear hne
                go_wp2_with (first
                  | ((with_reducible show wpList _ _ _ _ _ _); first
                    | (refine wpList_load_mid rfl 58 (.tmp 22) rfl b (off + k * 38) rfl r.cells _ RG Tryz.underlying58 rfl info58w ?_)
                    | (refine wpList_store_new rfl rfl 58 (.tmp 10) (.tmp 23) rfl _ _ r.cells rfl rfl rfl rfl info58w r.one ?_
                       obtain ⟨c0, c23, c31, RE, RS, s2, b2⟩ := CC.out
                       generalize hW2 : wr.alloc (.cells r.cells.toArray 58) = W2 at c0 c23 c31 RE RS s2 b2 ⊢
                       replace s2 := Lib.hid s2
                       clear hW2)
                    | (refine wpList_load_g rfl 24 (.tmp 30) rfl wr.heap.size 2 rfl (esiL fun j => r.g (2 + j)) _ RE Tryz.underlying24 rfl info24w ?_)
                    | (refine wpList_load_g rfl 24 (.tmp 3) rfl w.heap.size 0 rfl (esiL s) _ RS Tryz.underlying24 rfl info24w ?_))
                  | (go_at_call 48; refine (REL.out _ (LI.out.below b2)).mono ?_; rintro e w3 ⟨rfl, b3⟩
                     have c23' : w3.cell? ⟨wr.heap.size, 23, none⟩ = some (.int .u32 (r.g 23)) := (b3.cell (by show wr.heap.size < _; rw [s2.out]; omega)).trans c23
                     have hin3 := Lib.hid (hin.out.1.below (b2.trans (b3.mono b2.size)))
                     replace b3 := Lib.hid b3
                     clear c0 c23 c31 RE RS)
                  | (go_at_call 49; refine (put_any _ l _ _ _ (by have := hin.out.2.2.2.2; omega) hin.out.2.1 hin3.out).mono ?_; rintro e w4 ⟨v', l', rfl, hv', hp', b4⟩; replace b4 := Lib.hid b4; replace hv' := Lib.hid hv'; replace hp' := Lib.hid hp'))
                exact ⟨⟨k + 1, l', a, _, by omega, by go_num, rfl, rfl, step.out _ (by rw [if_neg]; rintro (h | ⟨_, h⟩); cases h; exact h HNE.out) _ _ _ hv'.out hp'.out, HBL.out.trans (((b2.trans (b3.out.mono b2.size)).trans (b4.out.mono (b2.trans (b3.out.mono b2.size)).size)).mono sz)⟩, by simp [intOf]; omega⟩
              · have hne' : (a != alg) = true := by simpa using hne
                have HNE := Lib.hid hne
                clear hne
                go_wp2_with (first
                  | ((with_reducible show wpList _ _ _ _ _ _); first
                    | (refine wpList_load_mid rfl 58 (.tmp 22) rfl b (off + k * 38) rfl r.cells _ RG Tryz.underlying58 rfl info58w ?_)
                    | (refine wpList_store_new rfl rfl 58 (.tmp 10) (.tmp 23) rfl _ _ r.cells rfl rfl rfl rfl info58w r.one ?_
                       obtain ⟨c0, c23, c31, RE, RS, s2, b2⟩ := CC.out
                       generalize hW2 : wr.alloc (.cells r.cells.toArray 58) = W2 at c0 c23 c31 RE RS s2 b2 ⊢
                       replace s2 := Lib.hid s2
                       clear hW2)
                    | (refine wpList_load_g rfl 24 (.tmp 30) rfl wr.heap.size 2 rfl (esiL fun j => r.g (2 + j)) _ RE Tryz.underlying24 rfl info24w ?_)
                    | (refine wpList_load_g rfl 24 (.tmp 3) rfl w.heap.size 0 rfl (esiL s) _ RS Tryz.underlying24 rfl info24w ?_))
                  | (go_at_call 48; refine (REL.out _ (LI.out.below b2)).mono ?_; rintro e w3 ⟨rfl, b3⟩
                     have c23' : w3.cell? ⟨wr.heap.size, 23, none⟩ = some (.int .u32 (r.g 23)) := (b3.cell (by show wr.heap.size < _; rw [s2.out]; omega)).trans c23
                     have hin3 := Lib.hid (hin.out.1.below (b2.trans (b3.mono b2.size)))
                     replace b3 := Lib.hid b3
                     clear c0 c23 c31 RE RS)
                  | (go_at_call 49; refine (put_any _ l _ _ _ (by have := hin.out.2.2.2.2; omega) hin.out.2.1 hin3.out).mono ?_; rintro e w4 ⟨v', l', rfl, hv', hp', b4⟩; replace b4 := Lib.hid b4; replace hv' := Lib.hid hv'; replace hp' := Lib.hid hp'))
                exact ⟨⟨k + 1, l', a, _, by omega, by go_num, rfl, rfl, step.out _ (by rw [if_pos (.inr ⟨hg, HNE.out⟩)]) _ _ _ hv'.out hp'.out, HBL.out.trans (((b2.trans (b3.out.mono b2.size)).trans (b4.out.mono (b2.trans (b3.out.mono b2.size)).size)).mono sz)⟩, by simp [intOf]; omega⟩
            · have hg' : ¬ 0 ≤ alg := hg
              go_wp2_with (first
                | ((with_reducible show wpList _ _ _ _ _ _); first
                  | (refine wpList_load_mid rfl 58 (.tmp 22) rfl b (off + k * 38) rfl r.cells _ RG Tryz.underlying58 rfl info58w ?_)
                  | (refine wpList_store_new rfl rfl 58 (.tmp 10) (.tmp 23) rfl _ _ r.cells rfl rfl rfl rfl info58w r.one ?_
                     obtain ⟨c0, c23, c31, RE, RS, s2, b2⟩ := CC.out
                     generalize hW2 : wr.alloc (.cells r.cells.toArray 58) = W2 at c0 c23 c31 RE RS s2 b2 ⊢
                     replace s2 := Lib.hid s2
                     clear hW2)
                  | (refine wpList_load_g rfl 24 (.tmp 30) rfl wr.heap.size 2 rfl (esiL fun j => r.g (2 + j)) _ RE Tryz.underlying24 rfl info24w ?_)
                  | (refine wpList_load_g rfl 24 (.tmp 3) rfl w.heap.size 0 rfl (esiL s) _ RS Tryz.underlying24 rfl info24w ?_))
                | (go_at_call 48; refine (REL.out _ (LI.out.below b2)).mono ?_; rintro e w3 ⟨rfl, b3⟩
                   have c23' : w3.cell? ⟨wr.heap.size, 23, none⟩ = some (.int .u32 (r.g 23)) := (b3.cell (by show wr.heap.size < _; rw [s2.out]; omega)).trans c23
                   have hin3 := Lib.hid (hin.out.1.below (b2.trans (b3.mono b2.size)))
                   replace b3 := Lib.hid b3
                   clear c0 c23 c31 RE RS)
                | (go_at_call 49; refine (put_any _ l _ _ _ (by have := hin.out.2.2.2.2; omega) hin.out.2.1 hin3.out).mono ?_; rintro e w4 ⟨v', l', rfl, hv', hp', b4⟩; replace b4 := Lib.hid b4; replace hv' := Lib.hid hv'; replace hp' := Lib.hid hp'))
              exact ⟨⟨k + 1, l', a, _, by omega, by go_num, rfl, rfl, step.out _ (by rw [if_neg]; rintro (h | ⟨h, _⟩); cases h; exact absurd h (by omega)) _ _ _ hv'.out hp'.out, HBL.out.trans (((b2.trans (b3.out.mono b2.size)).trans (b4.out.mono (b2.trans (b3.out.mono b2.size)).size)).mono sz)⟩, by simp [intOf]; omega⟩
        | false =>
          have SN : Hid (selR s r = false) := by show selR s r = false; simp [selR, qe]
          rw [qe] at EQ
          clear q4 qe
          go_wp2_with (first
            | ((with_reducible show wpList _ _ _ _ _ _); first
              | (refine wpList_load_mid rfl 58 (.tmp 22) rfl b (off + k * 38) rfl r.cells _ RG Tryz.underlying58 rfl info58w ?_)
              | (refine wpList_store_new rfl rfl 58 (.tmp 10) (.tmp 23) rfl _ _ r.cells rfl rfl rfl rfl info58w r.one ?_
                 obtain ⟨c0, c23, c31, RE, RS, s2, b2⟩ := CC.out
                 generalize hW2 : wr.alloc (.cells r.cells.toArray 58) = W2 at c0 c23 c31 RE RS s2 b2 ⊢
                 replace s2 := Lib.hid s2
                 clear hW2)
              | (refine wpList_load_g rfl 24 (.tmp 30) rfl wr.heap.size 2 rfl (esiL fun j => r.g (2 + j)) _ RE Tryz.underlying24 rfl info24w ?_)
              | (refine wpList_load_g rfl 24 (.tmp 3) rfl w.heap.size 0 rfl (esiL s) _ RS Tryz.underlying24 rfl info24w ?_)))
          have FF : (rs.take (k + 1)).filter (selR s) = (rs.take k).filter (selR s) := by rw [TS.out, List.filter_append]; simp [SN.out]
          exact ⟨⟨k + 1, l, alg, all, by omega, by go_num, rfl, rfl, by obtain ⟨h1, h2, h3, h4, h5⟩ := hin.out; rw [FF]; exact ⟨h1.below b2, h2, h3, h4, by omega⟩, HBL.out.trans (b2.mono sz)⟩, by simp [intOf]; omega⟩
      · have q4' : (r.g 0 != 4) = true := by simpa using q4
        have q4'' : (r.g 0 == 4) = false := by simpa using q4
        have SN : Hid (selR s r = false) := by show selR s r = false; simp [selR, q4]
        clear q4 EQ
        go_wp2_with (first
          | ((with_reducible show wpList _ _ _ _ _ _); first
            | (refine wpList_load_mid rfl 58 (.tmp 22) rfl b (off + k * 38) rfl r.cells _ RG Tryz.underlying58 rfl info58w ?_)
            | (refine wpList_store_new rfl rfl 58 (.tmp 10) (.tmp 23) rfl _ _ r.cells rfl rfl rfl rfl info58w r.one ?_
               obtain ⟨c0, c23, c31, RE, RS, s2, b2⟩ := CC.out
               generalize hW2 : wr.alloc (.cells r.cells.toArray 58) = W2 at c0 c23 c31 RE RS s2 b2 ⊢
               replace s2 := Lib.hid s2
               clear hW2)
            | (refine wpList_load_g rfl 24 (.tmp 30) rfl wr.heap.size 2 rfl (esiL fun j => r.g (2 + j)) _ RE Tryz.underlying24 rfl info24w ?_)
            | (refine wpList_load_g rfl 24 (.tmp 3) rfl w.heap.size 0 rfl (esiL s) _ RS Tryz.underlying24 rfl info24w ?_)))
        have FF : (rs.take (k + 1)).filter (selR s) = (rs.take k).filter (selR s) := by rw [TS.out, List.filter_append]; simp [SN.out]
        exact ⟨⟨k + 1, l, alg, all, by omega, by go_num, rfl, rfl, by obtain ⟨h1, h2, h3, h4, h5⟩ := hin.out; rw [FF]; exact ⟨h1.below b2, h2, h3, h4, by omega⟩, HBL.out.trans (b2.mono sz)⟩, by simp [intOf]; omega⟩
    · obtain rfl : k = n := by omega
      have FIN : Hid (∀ v, CandV wr v l → RCandPost w (rs.filter (selR s)) (.returned (.tuple #[v, .int .i64 (algOf alg all)])) wr) := fun v hv => by
        obtain ⟨h1, h2, h3, h4, h5⟩ := hin.out
        rw [NL.out, List.take_length] at h3 h4
        exact ⟨v, l, alg, all, rfl, hv, h2, h3, h4, by omega, B0.out.trans (hbl.mono (by omega))⟩
      have HC := Lib.hid hin.out.1
      cases all with
      | false =>
        have e : algOf alg false = 0 := by simp [algOf]
        rw [e] at FIN
        go_wp2
        go_ret2
        exact FIN.out _ HC.out
      | true =>
        by_cases g0 : alg < 0
        · have e : algOf alg true = 0 := by simp [algOf, g0]
          rw [e] at FIN
          go_wp2
          go_ret2
          exact FIN.out _ HC.out
        · by_cases g2 : 2 < alg
          · have e : algOf alg true = 0 := by simp [algOf, g2]
            rw [e] at FIN
            go_wp2
            go_ret2
            exact FIN.out _ HC.out
          · have e : algOf alg true = alg := by simp [algOf, g0, g2]
            rw [e] at FIN
            go_wp2
            go_ret2
            exact FIN.out _ HC.out
end Go.Proofs.YtiellonfgcmaaaaGreat

/- The reference's members. -/
namespace Go.Proofs.YtiellonfgcmaaaaGreat
open Go.RowKit Go.ChangeShapes

set_option maxRecDepth 100000 in
theorem rcand_none (A : Option Addr) (c : Nat) (s : Nat → Int) (w : World) : Calls Tryz.prog 13 #[.slice A 0 c, .agg (esiL s).toArray] w (RCandPost w []) := by
  have FIN : Hid (∀ W, Below w.heap.size w W → RCandPost w [] (.returned (.tuple #[.slice none 0 0, .int .i64 0])) W) := fun W hW =>
    ⟨.slice none 0 0, [], -1, true, rfl, .inl ⟨rfl, rfl⟩, .nil, firsts_nil, .inl ⟨rfl, rfl, rfl⟩, by simp, hW⟩
  go_enter Tryz.func13, Tryz.ntmps13
  go_wp2
  refine wp_loop_rounds 1 ?_
  rw [rounds_succ]
  go_wp2
  go_ret2
  exact FIN.out _ ((Below.refl _ _).alloc (Nat.le_refl _) _)
theorem rcand_any (A : Option Addr) (c : Nat) (rs : List RT) (s : Nat → Int) (w : World) (hn : rs.length ≤ 60) (hf : ∀ r ∈ rs, r.fine ∧ r.lists w) (h : Routes w A rs) :
    Calls Tryz.prog 13 #[.slice A rs.length c, .agg (esiL s).toArray] w (RCandPost w (rs.filter (selR s))) := by
  rcases h with rfl | ⟨b, off, rfl, h⟩
  · exact rcand_none A c s w
  · exact rcand_some b off c rs s w hn hf h
def fsts (l : List (Int × Int)) : List Int := l.map (·.1)
def RMemPost (w : World) (fs : List RT) (e : Ending) (w' : World) : Prop := ∃ A' zs c' l, e = .returned (.slice A' zs.length c') ∧ Row w' A' zs.length c' 1 (u32s zs) ∧ zs = fsts l ∧ AscC l ∧ Firsts l (pairs fs) ∧ zs.length ≤ 60 ∧ Below w.heap.size w w'
set_option maxRecDepth 100000 in
set_option maxHeartbeats 2000000 in
theorem rmembers (A : Option Addr) (c : Nat) (rs : List RT) (s : Nat → Int) (w : World) (hn : rs.length ≤ 60) (hf : ∀ r ∈ rs, r.fine ∧ r.lists w) (h : Routes w A rs) :
    Calls Tryz.prog 17 #[.slice A rs.length c, .agg (esiL s).toArray] w (RMemPost w (rs.filter (selR s))) := by
  obtain ⟨i0, hi, hz0, hz1, hz2⟩ := info_parts info33w
  have RT0 := Lib.hid h
  have B0 : Hid (Below w.heap.size w (w.alloc (.cells (esiL s).toArray 24))) := (Below.refl _ _).alloc (Nat.le_refl _) _
  have BOX : (w.alloc (.cells (esiL s).toArray 24)).rangeAt w.heap.size 0 (esiL s) := range_new w (esiL s) 24
  obtain ⟨fs, hfs⟩ : ∃ fs, fs = rs.filter (selR s) := ⟨_, rfl⟩
  have HF := Lib.hid hf
  have RC := Lib.hid (fun W hf' hR => rcand_any A c rs s W hn hf' hR)
  rw [← hfs] at RC ⊢
  clear hfs h hf
  obtain ⟨n, hnn⟩ : ∃ n, n = rs.length := ⟨_, rfl⟩
  rw [← hnn] at RC hn ⊢
  clear hnn
  go_enter Tryz.func17, Tryz.ntmps17
  go_wp2_with (first
    | ((with_reducible show wpList _ _ _ _ _ _); (refine wpList_load_mid rfl 24 (.tmp 3) rfl w.heap.size 0 rfl (esiL s) _ BOX Tryz.underlying24 rfl info24w ?_))
    | (go_at_call 13; fail))
  refine (RC.out _ (fun r hr => ⟨(HF.out r hr).1, (HF.out r hr).2.below B0.out⟩) (RT0.out.below B0.out)).mono ?_
  rintro e w1 ⟨v, l, alg, all, rfl, hv, ha, hfi, _, hl60, q1⟩
  have b1 : Below w.heap.size w w1 := B0.out.trans (q1.mono B0.out.size)
  have B1 := Lib.hid b1
  have HA := Lib.hid ha
  have HFI := Lib.hid hfi
  obtain ⟨m, hm⟩ : ∃ m, m = l.length := ⟨_, rfl⟩
  have HM := Lib.hid hm
  clear q1 b1 BOX ha hfi
  have FIN : Hid (∀ W v, W.ownsRow w1.heap.size 33 1 v m (u32s (fsts l)) → Below w1.heap.size w1 W → RMemPost w fs (.returned v) W) := fun W v h1 h2 => by
    have hb : Below w.heap.size w W := B1.out.trans (h2.mono B1.out.size)
    have hlen : (fsts l).length = m := by rw [HM.out]; simp [fsts]
    rcases h1.2 with ⟨rfl, hz⟩ | ⟨g, cap, cur, rfl, hg, hh, hnc, _⟩
    · have e0 : fsts l = [] := List.eq_nil_of_length_eq_zero (by omega)
      exact ⟨none, fsts l, 0, l, by rw [hlen, hz], by rw [e0]; exact .inl ⟨rfl, rfl⟩, rfl, HA.out, HFI.out, by omega, hb⟩
    · refine ⟨_, fsts l, cap, l, by rw [hlen], .inr ⟨g, 0, rfl, (h1.lt g rfl).2, by omega, by simp [u32s], fun j u hj => ?_⟩, rfl, HA.out, HFI.out, by omega, hb⟩
      have hjl : j < (fsts l).length := by have := (List.getElem?_eq_some_iff.1 hj).1; simpa [u32s] using this
      rw [Nat.zero_add, h1.cellAt j (by omega)]; exact hj
  rcases hv with ⟨rfl, rfl⟩ | ⟨g, off, c', rfl, h0, hrow⟩
  · obtain rfl : m = 0 := hm
    go_wp2
    refine wp_loop_rounds 1 ?_
    rw [rounds_succ]
    go_wp2
    go_ret
    exact FIN.out _ _ (World.ownsRow_nil _ _ _ _) (Below.refl _ _)
  · rcases hrow with ⟨hz, _⟩ | ⟨b, o, hbo, hgl, hnc, hcl, hcells⟩
    · omega
    cases hbo
    rw [← hm] at h0 hl60 hnc ⊢
    have HCL := Lib.hid hcells
    have HGL := Lib.hid hgl
    clear hm hcl hcells hgl
    go_wp2
    go_loopw [7, 8] (fun v i wr => ∃ k : Nat, k ≤ m ∧ i = .int .i64 k ∧ wr.ownsRow w1.heap.size 33 1 v k (u32s (fsts (l.take k))) ∧ Below w1.heap.size w1 wr) (fun _ i _ => m - (intOf i).toNat)
    case atStart => exact ⟨0, Nat.zero_le _, rfl, World.ownsRow_nil _ _ _ _, Below.refl _ _⟩
    case round =>
      obtain ⟨k, hk, rfl, hown, hbl⟩ := hrel
      by_cases hlt : k < m
      · obtain ⟨⟨x, y⟩, hx⟩ : ∃ x, l[k]? = some x := ⟨_, List.getElem?_eq_getElem (by rw [← HM.out]; exact hlt)⟩
        have TS : Hid (l.take (k + 1) = l.take k ++ [(x, y)]) := take_snoc hx
        have hlt' : (k : Int) < m := by omega
        have h0' : (0 : Int) ≤ k := by omega
        have e0 : wr.cell? ⟨g, off + k * 2, none⟩ = some (.int .u32 x) := (hbl.cell (by exact HGL.out)).trans (HCL.out (k * 2) _ (candL_get hx).1)
        have m1 : k + 1 ≤ maxLen := by unfold maxLen; omega
        have m2 : (k + 1) * 4 ≤ 140737488355328 := by omega
        have hown2 : (wr.alloc (.cells #[.int .u32 x] 33)).ownsRow w1.heap.size 33 1 u7 k (u32s (fsts (l.take k))) := hown.alloc _
        have m4 : w1.heap.size ≤ (wr.alloc (.cells #[.int .u32 x] 33)).heap.size := by have := hbl.size; simp; omega
        have HO := Lib.hid hown
        have HBL := Lib.hid hbl
        clear hown hbl hx
        go_wp2_with (first
          | (at_builtin; refine wpList_append_own _ rfl (.tmp 21) (.tmp 27) 37 rfl w1.heap.size 33 i0 _ 1 4 Tryz.underlying37 hi hz0 hz1 hz2 rfl (by decide) u7 k _ rfl hown2 ⟨wr.heap.size, 0, none⟩ 1 1 [.int .u32 x] rfl rfl (cell_one_new _ _ _) (fun u hu => by rw [List.mem_singleton.1 hu]; rfl) m1 m2 m4 ?_; intro v' w2 hown3 hgrow hnil))
        exact ⟨⟨k + 1, by omega, by go_num, by rw [TS.out]; simpa [u32s, fsts] using hown3, (HBL.out.alloc HBL.out.size _).grown hgrow m4 (fun g hg => (HO.out.lt g hg).1)⟩, by simp [intOf]; omega⟩
      · obtain rfl : k = m := by omega
        rw [HM.out, List.take_length, ← HM.out] at hown
        go_wp2
        go_ret
        exact FIN.out _ _ hown hbl
end Go.Proofs.YtiellonfgcmaaaaGreat
