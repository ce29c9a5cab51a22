/- Routes: their cells, and what lies behind them. -/
import Derived.Test.YtiellonfgcmaaaaGreatR1
import Derived.Deep.RegionHeld3
import Derived.Deep.WholeRow
import Derived.Maps.AppendAt
import Derived.Great.BuildSlice
namespace Go.Proofs.YtiellonfgcmaaaaGreat
open Go.RowKit Go.ChangeShapes

/-- A route: its numbers and Booleans by the cell, its three lists by address, length, capacity and content. -/
structure RT where
  g : Nat → Int
  h : Nat → Bool
  pa : Option Addr
  pl : Nat
  pc : Nat
  ca : Option Addr
  cl : Nat
  cc : Nat
  ma : Option Addr
  ml : Nat
  mc : Nat
  px : Nat → Int
  cx : Nat → Int
  mx : Nat → Nat → Int
/-- Its 38 cells. -/
def RT.cells (r : RT) : List Value :=
  [.int .i64 (r.g 0), .int .u64 (r.g 1), .int .u8 (r.g 2), .int .u8 (r.g 3), .int .u8 (r.g 4), .int .u8 (r.g 5), .int .u8 (r.g 6), .int .u8 (r.g 7), .int .u8 (r.g 8), .int .u8 (r.g 9), .int .u8 (r.g 10), .int .u8 (r.g 11), .int .u32 (r.g 12), .int .u64 (r.g 13), .int .u32 (r.g 14), .bool (r.h 15), .int .u32 (r.g 16), .int .i64 (r.g 17), .int .u32 (r.g 18), .int .u32 (r.g 19), .int .u32 (r.g 20), .int .i64 (r.g 21), .slice r.pa r.pl r.pc, .int .u32 (r.g 23), .bool (r.h 24), .int .u32 (r.g 25), .bool (r.h 26), .int .u32 (r.g 27), .bool (r.h 28), .int .u32 (r.g 29), .slice r.ca r.cl r.cc, .slice r.ma r.ml r.mc, .int .i64 (r.g 32), .int .u32 (r.g 33), .int .u32 (r.g 34), .int .u32 (r.g 35), .int .u32 (r.g 36), .bool (r.h 37)]
/-- Its number cells, its attribute cells. -/
def RT.nlri (r : RT) : List Value := [.int .i64 (r.g 0), .int .u64 (r.g 1), .int .u8 (r.g 2), .int .u8 (r.g 3), .int .u8 (r.g 4), .int .u8 (r.g 5), .int .u8 (r.g 6), .int .u8 (r.g 7), .int .u8 (r.g 8), .int .u8 (r.g 9), .int .u8 (r.g 10), .int .u8 (r.g 11), .int .u32 (r.g 12), .int .u64 (r.g 13), .int .u32 (r.g 14), .bool (r.h 15), .int .u32 (r.g 16), .int .i64 (r.g 17), .int .u32 (r.g 18), .int .u32 (r.g 19), .int .u32 (r.g 20)]
def RT.attrs (r : RT) : List Value := [.int .i64 (r.g 21), .slice r.pa r.pl r.pc, .int .u32 (r.g 23), .bool (r.h 24), .int .u32 (r.g 25), .bool (r.h 26), .int .u32 (r.g 27), .bool (r.h 28), .int .u32 (r.g 29), .slice r.ca r.cl r.cc, .slice r.ma r.ml r.mc, .int .i64 (r.g 32), .int .u32 (r.g 33), .int .u32 (r.g 34), .int .u32 (r.g 35)]
theorem RT.cells_eq (r : RT) : r.cells = r.nlri ++ r.attrs ++ [.int .u32 (r.g 36), .bool (r.h 37)] := rfl
theorem RT.attrs_one (r : RT) : ∀ u ∈ r.attrs, u.oneCell' = true := by
  intro u hu
  simp only [RT.attrs, List.mem_cons, List.not_mem_nil, or_false] at hu
  rcases hu with rfl | rfl | rfl | rfl | rfl | rfl | rfl | rfl | rfl | rfl | rfl | rfl | rfl | rfl | rfl <;> rfl
theorem RT.len (r : RT) : r.cells.length = 38 := rfl
theorem RT.one (r : RT) : ∀ u ∈ r.cells, u.oneCell' = true := by
  intro u hu
  simp only [RT.cells, List.mem_cons, List.not_mem_nil, or_false] at hu
  rcases hu with rfl | rfl | rfl | rfl | rfl | rfl | rfl | rfl | rfl | rfl | rfl | rfl | rfl | rfl | rfl | rfl | rfl | rfl | rfl | rfl | rfl | rfl | rfl | rfl | rfl | rfl | rfl | rfl | rfl | rfl | rfl | rfl | rfl | rfl | rfl | rfl | rfl | rfl <;> rfl
def ints (n : Nat) (f : Nat → Int) : List Value := (List.range n).map fun i => .int .u32 (f i)
def comms (n : Nat) (f : Nat → Nat → Int) : List Value := (List.range n).flatMap fun i => [.int .u8 (f i 0), .int .u8 (f i 1), .int .u8 (f i 2), .int .u8 (f i 3), .int .u8 (f i 4), .int .u8 (f i 5), .int .u8 (f i 6), .int .u8 (f i 7)]
theorem ints_get {n i : Nat} {f : Nat → Int} (h : i < n) : (ints n f)[i]? = some (.int .u32 (f i)) := by simp [ints, h]
theorem ints_len (n : Nat) (f : Nat → Int) : (ints n f).length = n * 1 := by simp [ints]
theorem ints_one {n : Nat} {f : Nat → Int} : ∀ u ∈ ints n f, u.oneCell' = true := by
  intro u hu
  obtain ⟨i, _, rfl⟩ := List.mem_map.1 hu
  rfl
theorem comms_one {n : Nat} {f : Nat → Nat → Int} : ∀ u ∈ comms n f, u.oneCell' = true := by
  intro u hu
  obtain ⟨i, _, h⟩ := List.mem_flatMap.1 hu
  simp only [List.mem_cons, List.not_mem_nil, or_false] at h
  rcases h with rfl | rfl | rfl | rfl | rfl | rfl | rfl | rfl <;> rfl
theorem flat8 {α : Type} (k : Nat) {l : List α} {c : α → List Value} (hc : ∀ x, (c x).length = k) : (l.flatMap c).length = l.length * k := by
  induction l with
  | nil => simp
  | cons x l ih => rw [List.flatMap_cons, List.length_append, hc, ih, List.length_cons, Nat.succ_mul, Nat.add_comm]
theorem flat_at {α : Type} (k : Nat) {l : List α} {c : α → List Value} (hc : ∀ x, (c x).length = k) {i j : Nat} {x : α} (hx : l[i]? = some x) (hj : j < k) : (l.flatMap c)[i * k + j]? = (c x)[j]? := by
  induction l generalizing i with
  | nil => cases hx
  | cons y l ih =>
    rw [List.flatMap_cons]
    cases i with
    | zero =>
      obtain rfl : y = x := by simpa using hx
      rw [Nat.zero_mul, Nat.zero_add, List.getElem?_append_left (by rw [hc]; exact hj)]
    | succ i =>
      rw [List.getElem?_append_right (by rw [hc, Nat.succ_mul]; omega), hc, show (i + 1) * k + j - k = i * k + j by rw [Nat.succ_mul]; omega]
      exact ih (by simpa using hx)
theorem comms_len (n : Nat) (f : Nat → Nat → Int) : (comms n f).length = n * 8 := by
  rw [comms, flat8 8 (fun _ => rfl), List.length_range]
theorem comms_get {n i : Nat} {f : Nat → Nat → Int} (h : i < n) : ∀ j, j < 8 → (comms n f)[i * 8 + j]? = some (.int .u8 (f i j)) := by
  intro j hj
  rw [comms, flat_at 8 (fun _ => rfl) (x := i) (by simp [h]) hj]
  rcases (show j = 0 ∨ j = 1 ∨ j = 2 ∨ j = 3 ∨ j = 4 ∨ j = 5 ∨ j = 6 ∨ j = 7 by omega) with rfl | rfl | rfl | rfl | rfl | rfl | rfl | rfl <;> rfl

/-- What lies behind a route's lists. -/
def RT.lists (w : World) (r : RT) : Prop := Row w r.pa r.pl r.pc 1 (ints r.pl r.px) ∧ Row w r.ca r.cl r.cc 1 (ints r.cl r.cx) ∧ Row w r.ma r.ml r.mc 8 (comms r.ml r.mx)
theorem RT.lists.below {w w' : World} {r : RT} (h : r.lists w) (hb : Below w.heap.size w w') : r.lists w' := ⟨h.1.below hb, h.2.1.below hb, h.2.2.below hb⟩
/-- Short lists; no address, no element. -/
def RT.fine (r : RT) : Prop := (r.pl ≤ 20 ∧ r.cl ≤ 20 ∧ r.ml ≤ 20) ∧ (r.pa = none → r.pl = 0 ∧ r.pc = 0) ∧ (r.ca = none → r.cl = 0 ∧ r.cc = 0) ∧ (r.ma = none → r.ml = 0 ∧ r.mc = 0) ∧ ∀ i j, 0 ≤ r.mx i j ∧ r.mx i j ≤ 255
/-- The same but for where the lists lie. -/
def Alike (r s : RT) : Prop := s.g = r.g ∧ s.h = r.h ∧ s.pl = r.pl ∧ s.cl = r.cl ∧ s.ml = r.ml ∧ s.px = r.px ∧ s.cx = r.cx ∧ s.mx = r.mx
/-- Routes lie at a place. -/
def Lies (w : World) (b off : Nat) (rs : List RT) : Prop := b < w.heap.size ∧ ∀ (i j : Nat) (r : RT) (u : Value), rs[i]? = some r → r.cells[j]? = some u → w.cell? ⟨b, off + i * 38 + j, none⟩ = some u
theorem Lies.below {w w' : World} {b off : Nat} {rs : List RT} (h : Lies w b off rs) (hb : Below w.heap.size w w') : Lies w' b off rs :=
  ⟨Nat.lt_of_lt_of_le h.1 hb.size, fun i j r u hi hj => (hb.cell (by exact h.1)).trans (h.2 i j r u hi hj)⟩
end Go.Proofs.YtiellonfgcmaaaaGreat

/- A region that draws its order, with loads of cells that a store of the same region overwrites: the loads may be taken first all the same. -/
namespace Go.Proofs.YtiellonfgcmaaaaGreat
section
variable {P : Program} {md : Region.Mode} {ops : Array Oper} {Q : Exit → Act → World → Prop} {T : World → Prop} {k : Nat}

/-- Whatever order is picked from here on; till operation k has come up, T holds behind every operation. -/
def wpAnyT (P : Program) (md : Region.Mode) (ops : Array Oper) (Q : Exit → Act → World → Prop) (k : Nat) (T : World → Prop) : Nat → Array Bool → Act → World → Prop
  | 0, l, a, w => Region.ready md ops l = [] ∧ Q .normal a w
  | fuel + 1, l, a, w =>
    (Region.ready md ops l = [] → Q .normal a w) ∧
    ∀ i ∈ Region.ready md ops l, wpOp P ops Q i (fun a' w' => ((l.setIfInBounds i true).getD k true = false → T w') ∧ wpAnyT P md ops Q k T fuel (l.setIfInBounds i true) a' w') a w
theorem wpAny_of_T : ∀ (fuel : Nat) (l : Array Bool) (a : Act) (w : World), wpAnyT P md ops Q k T fuel l a w → wpAny P md ops Q fuel l a w
  | 0, _, _, _, h => h
  | fuel + 1, _, _, _, h => ⟨h.1, fun i hi => wpOp_mono (fun a' w' h' => wpAny_of_T fuel _ a' w' h'.2) (h.2 i hi)⟩
/-- Once k has come up, nothing is asked of T. -/
theorem wpAnyT_of_any : ∀ (fuel : Nat) (l : Array Bool) (a : Act) (w : World), l.getD k true = true → wpAny P md ops Q fuel l a w → wpAnyT P md ops Q k T fuel l a w
  | 0, _, _, _, _, h => h
  | fuel + 1, l, _, _, hk, h => ⟨h.1, fun i hi => wpOp_mono (fun a' w' h' => by
      have hk' : (l.setIfInBounds i true).getD k true = true := by
        by_cases hik : i = k
        · subst hik
          rcases Nat.lt_or_ge i l.size with h2 | h2
          · simp [h2]
          · simp
        · rw [getD_set_ne true hik]; exact hk
      exact ⟨fun h2 => (by rw [hk'] at h2; cases h2), wpAnyT_of_any fuel _ a' w' hk' h'⟩) (h.2 i hi)⟩
theorem wpAnyT_first {i : Nat} {oi ok : Oper} {v : Value} (hi : ops[i]? = some oi) (hsel : ∀ (j : Nat) (o : Oper) cs b, ops[j]? = some o → o.op ≠ .select cs b)
    (hQ : ∀ c a w, Q (.panic c) (a.put oi.dst v) w → Q (.panic c) a w) (hok : ops[k]? = some ok) (hwait : ∃ e ∈ ok.after, Region.binds md e = true ∧ e.on = i) (hki : ¬ i = k) :
    ∀ (fuel : Nat) (l : Array Bool) (a : Act) (w : World),
      (∀ j oj, ops[j]? = some oj → j ≠ i → l.getD j true = false → (∀ e ∈ oj.after, Region.binds md e = true → e.on ≠ i) → oi.apart ops oj = true) →
      i ∈ Region.ready md ops l → l.getD k true = false → YieldsIf P ops T oi v a → T w →
      wpAnyT P md ops Q k T fuel (l.setIfInBounds i true) (a.put oi.dst v) w → wpAnyT P md ops Q k T (fuel + 1) l a w := by
  intro fuel
  induction fuel with
  | zero =>
    intro l a w _ hr _ hy hT H
    refine ⟨fun h => (by rw [h] at hr; cases hr), fun j hj => ?_⟩
    by_cases hji : j = i
    · subst hji; exact hy.wpOp hi hT ⟨fun _ => hT, H⟩
    · have := ready_mono hj hji
      rw [H.1] at this
      cases this
  | succ fuel ih =>
    intro l a w hfree hr hk hy hT H
    refine ⟨fun h => (by rw [h] at hr; cases hr), fun j hj => ?_⟩
    by_cases hji : j = i
    · subst hji; exact hy.wpOp hi hT ⟨fun _ => hT, H⟩
    · have h1 := H.2 j (ready_mono hj hji)
      obtain ⟨hjun, oj, hoj, hall⟩ := mem_ready.1 hj
      have hnot : ∀ e ∈ oj.after, Region.binds md e = true → e.on ≠ i := fun e he hb heq => by
        have h1 := hall e he hb
        have h0 := (mem_ready.1 hr).1
        rw [heq] at h1
        rcases Nat.lt_or_ge i l.size with h' | h'
        · simp [h'] at h0 h1; rw [h0] at h1; cases h1
        · simp [Array.getElem?_eq_none h'] at h1
      have hjk : ¬ j = k := fun hjk => by
        subst hjk
        rw [hoj] at hok
        cases hok
        obtain ⟨e, he, hb, heq⟩ := hwait
        exact hnot e he hb heq
      have h2 := wpOp_putIf hoj (hfree j oj hoj hji hjun hnot) (fun cs b => hsel i oi cs b hi) (fun cs b => hsel j oj cs b hoj) hQ hy h1
      have hfree' : ∀ m om, ops[m]? = some om → m ≠ i → (l.setIfInBounds j true).getD m true = false →
          (∀ e ∈ om.after, Region.binds md e = true → e.on ≠ i) → oi.apart ops om = true := fun m om hm hmi hun hno => by
        refine hfree m om hm hmi ?_ hno
        by_cases hjm : j = m
        · subst hjm; exact hjun
        · rw [getD_set_ne true hjm] at hun; exact hun
      have hk' : (l.setIfInBounds j true).getD k true = false := by rw [getD_set_ne true hjk]; exact hk
      refine wpOp_mono (fun a' w' h3 => ?_) h2
      have hT' : T w' := h3.2.1 (by rw [getD_set_ne true hjk, getD_set_ne true hki]; exact hk)
      refine ⟨fun _ => hT', ih (l.setIfInBounds j true) a' w' hfree' (ready_mono hr (Ne.symm hji)) hk' h3.1 hT' ?_⟩
      rw [Array.setIfInBounds_comm _ _ hji]
      exact h3.2.2
/-- Take number i first: it yields v in every world that meets T, and operation k waits for it. -/
theorem wpAnyT_take {i : Nat} {oi ok : Oper} {v : Value} {fuel : Nat} {l : Array Bool} {a : Act} {w : World} (hi : ops[i]? = some oi)
    (hs : Region.noSelect ops = true) (hf : Region.free md ops l i = true) (hr : (Region.ready md ops l).contains i = true)
    (hQ : ∀ c a w, Q (.panic c) (a.put oi.dst v) w → Q (.panic c) a w) (hok : ops[k]? = some ok) (hwait : (ok.after.any fun e => Region.binds md e && e.on == i) = true) (hki : (i == k) = false) (hk : l.getD k true = false)
    (hy : YieldsIf P ops T oi v a) (hT : T w) (h : wpAnyT P md ops Q k T fuel (l.setIfInBounds i true) (a.put oi.dst v) w) : wpAnyT P md ops Q k T (fuel + 1) l a w := by
  refine wpAnyT_first hi (Region.noSelect_spec hs) hQ hok ?_ (by simpa using hki) fuel l a w (Region.free_spec hi hf) (by simpa using hr) hk hy hT h
  rw [← Array.any_toList, List.any_eq_true] at hwait
  obtain ⟨e, he, h2⟩ := hwait
  simp only [Bool.and_eq_true, beq_iff_eq] at h2
  exact ⟨e, by simpa using he, h2.1, h2.2⟩
def AllReadyT (P : Program) (md : Region.Mode) (ops : Array Oper) (Q : Exit → Act → World → Prop) (k : Nat) (T : World → Prop) (fuel : Nat) (l : Array Bool) (a : Act) (w : World) (rs : List Nat) : Prop :=
  ∀ i ∈ rs, wpOp P ops Q i (fun a' w' => ((l.setIfInBounds i true).getD k true = false → T w') ∧ wpAnyT P md ops Q k T fuel (l.setIfInBounds i true) a' w') a w
theorem AllReadyT.nil {fuel : Nat} {l : Array Bool} {a : Act} {w : World} : AllReadyT P md ops Q k T fuel l a w [] := fun _ h => by cases h
theorem AllReadyT.cons {fuel : Nat} {l : Array Bool} {a : Act} {w : World} {i : Nat} {o : Oper} {rs : List Nat} (ho : ops[i]? = some o)
    (h : ∀ K' : Act → World → Prop, Shut (∀ a w, T w → (T w → wpAnyT P md ops Q k T fuel (l.setIfInBounds i true) a w) → K' a w) → if Region.wanted o (yielded ops a.tmps) = true then Oper.wp P o a w K' Q else K' (a.put o.dst undef) w)
    (hs : AllReadyT P md ops Q k T fuel l a w rs) : AllReadyT P md ops Q k T fuel l a w (i :: rs) := fun j hj => by
  rcases List.mem_cons.1 hj with rfl | hj
  · exact wpOp_step ho (fun K' hK => h K' (fun a w hT hW => hK a w ⟨fun _ => hT, hW hT⟩))
  · exact hs j hj
theorem wpAnyT_ready {rs : List Nat} {fuel : Nat} {l : Array Bool} {a : Act} {w : World} (hr : Region.ready md ops l = rs) (hne : rs ≠ []) (h : AllReadyT P md ops Q k T fuel l a w rs) : wpAnyT P md ops Q k T (fuel + 1) l a w :=
  ⟨fun h0 => absurd (hr ▸ h0) hne, hr ▸ h⟩
/-- Operation k itself: behind it the rest goes in whatever order. -/
theorem wpAnyT_last {o : Oper} {fuel : Nat} {l : Array Bool} {a : Act} {w : World} (hr : Region.ready md ops l = [k]) (ho : ops[k]? = some o) (hin : k < l.size)
    (h : ∀ K' : Act → World → Prop, Shut (∀ a w, wpAny P md ops Q fuel (l.setIfInBounds k true) a w → K' a w) → if Region.wanted o (yielded ops a.tmps) = true then Oper.wp P o a w K' Q else K' (a.put o.dst undef) w) : wpAnyT P md ops Q k T (fuel + 1) l a w := by
  have hk' : (l.setIfInBounds k true).getD k true = true := by simp [hin]
  refine ⟨fun h0 => (by rw [hr] at h0; cases h0), fun j hj => ?_⟩
  rw [hr] at hj
  obtain rfl : j = k := by simpa using hj
  exact wpOp_step ho (fun K' hK => h K' (fun a w hW => hK a w ⟨fun h2 => (by rw [hk'] at h2; cases h2), wpAnyT_of_any fuel _ a w hk' hW⟩))
/-- The beginning. -/
theorem wp_region_T {id : Nat} {a : Act} {w : World} (k : Nat) (T : World → Prop) (hm : P.follows .mixedOrders = true) (hT : T w.drew)
    (h : T w.drew → wpAnyT P .any ops Q k T ops.size (Array.replicate ops.size false) a w.drew) : (Code.region id ops true).wp P Q a w :=
  wp_region_any hm (wpAny_of_T _ _ _ _ (h hT))
end
end Go.Proofs.YtiellonfgcmaaaaGreat

/- Copies of attributes. -/
namespace Go.Proofs.YtiellonfgcmaaaaGreat
open Go.RowKit Go.ChangeShapes

def Fresh (N : Nat) (r : RT) : Prop := (∀ a, r.pa = some a → N ≤ a.block) ∧ (∀ a, r.ca = some a → N ≤ a.block) ∧ ∀ a, r.ma = some a → N ≤ a.block
/-- What the three loads of 'OwnAttrs' read. -/
def T73 (r : RT) (B : Nat) (W : World) : Prop := W.cell? ⟨B, 1, none⟩ = some (.slice r.pa r.pl r.pc) ∧ W.cell? ⟨B, 9, none⟩ = some (.slice r.ca r.cl r.cc) ∧ W.cell? ⟨B, 10, none⟩ = some (.slice r.ma r.ml r.mc)
theorem T73.below {r : RT} {B N : Nat} {W W' : World} (h : T73 r B W) (hB : B < N) (hb : Below N W W') : T73 r B W' :=
  ⟨(hb.cell (by exact hB)).trans h.1, (hb.cell (by exact hB)).trans h.2.1, (hb.cell (by exact hB)).trans h.2.2⟩
theorem rangeAt_set {w : World} {b o j : Nat} {cs : List Value} {v : Value} (h : w.rangeAt b o cs) (hj : j < cs.length) : (w.setCell ⟨b, o + j, none⟩ v).rangeAt b o (cs.set j v) := by
  intro i u hi
  by_cases e : j = i
  · subst e
    have h1 := h j _ (List.getElem?_eq_getElem hj)
    rw [World.cell?_setCell_same _ _ _ h1]
    rw [List.getElem?_set_self hj] at hi
    exact hi
  · rw [List.getElem?_set_ne e] at hi
    rw [World.cell?_setCell_other _ _ _ _ (fun h' => e (by have h2 : o + j = o + i := congrArg Addr.off h'; omega))]
    exact h i u hi
theorem there_set {w : World} {b o n b' o' : Nat} {v : Value} (h : w.there b o n) : (w.setCell ⟨b', o', none⟩ v).there b o n := World.there_setCells h b' o' [v]
theorem Row.set {w : World} {A : Option Addr} {n c k b o : Nat} {xs : List Value} {v : Value} (h : Row w A n c k xs) (hne : ∀ a, A = some a → b < a.block) : Row (w.setCell ⟨b, o, none⟩ v) A n c k xs := by
  rcases h with h | ⟨g, off, rfl, h2, h3, h4, h5⟩
  · exact .inl h
  · have := hne _ rfl
    exact .inr ⟨g, off, rfl, by simpa using h2, h3, h4, fun j u hj => by
      rw [World.cell?_setCell_other _ _ _ _ (fun h' => by simp at h'; have h6 : b < g := this; omega)]
      exact h5 j u hj⟩
theorem Row.sets {w : World} {A : Option Addr} {n c k b o : Nat} {xs vs : List Value} (h : Row w A n c k xs) (hne : ∀ a, A = some a → b < a.block) : Row (w.setCells b o vs) A n c k xs := by
  induction vs generalizing w o with
  | nil => exact h
  | cons v vs ih => exact ih (h.set hne)
theorem below_sets {N : Nat} {w w' : World} {b o : Nat} {vs : List Value} (h : Below N w w') (hb : N ≤ b) : Below N w (w'.setCells b o vs) := by
  induction vs generalizing w' o with
  | nil => exact h
  | cons v vs ih => exact ih (h.setCell (by exact hb) _)
theorem size_sets {w : World} {b o : Nat} {vs : List Value} : (w.setCells b o vs).heap.size = w.heap.size := by
  induction vs generalizing w o with
  | nil => rfl
  | cons v vs ih => exact ih.trans (by simp)
/-- The same route, its lists elsewhere. -/
def RT.at (r : RT) (pa : Option Addr) (pc : Nat) (ca : Option Addr) (cc : Nat) (ma : Option Addr) (mc : Nat) : RT := { r with pa := pa, pc := pc, ca := ca, cc := cc, ma := ma, mc := mc }
set_option maxRecDepth 100000 in
set_option maxHeartbeats 8000000 in
theorem own_attrs (r : RT) (w : World) (hf : r.fine) (hl : r.lists w) :
    Calls Tryz.prog 73 #[.agg r.attrs.toArray] w fun e w' => ∃ r', Alike r r' ∧ r'.fine ∧ e = .returned (.agg r'.attrs.toArray) ∧ r'.lists w' ∧ Fresh w.heap.size r' ∧ Below w.heap.size w w' := by
  have HL := Lib.hid hl
  clear hl
  go_enter Tryz.func73, Tryz.ntmps73
  go_wp2
  obtain ⟨W0, hW0⟩ : ∃ W0, W0 = ((w.alloc (.cells r.attrs.toArray 56)).alloc (.cells #[.int .i64 0, .slice none 0 0, .int .u32 0, .bool false, .int .u32 0, .bool false, .int .u32 0, .bool false, .int .u32 0, .slice none 0 0, .slice none 0 0, .int .i64 0, .int .u32 0, .int .u32 0, .int .u32 0] 56)) := ⟨_, rfl⟩
  rw [← hW0]
  have b0 : Below w.heap.size w W0.drew := by rw [hW0]; exact (((Below.refl _ _).alloc (Nat.le_refl _) _).alloc (by simp) _).drew
  have sz0 : W0.drew.heap.size = w.heap.size + 2 := by rw [hW0]; simp
  have RA : Hid (W0.drew.rangeAt w.heap.size 0 r.attrs) := by
    intro j v hj
    rw [hW0, World.cell?_drew, World.cell?_alloc_lt _ _ _ (by simp), Nat.zero_add, World.cell?_alloc_new]
    simpa using hj
  have TH : Hid (W0.drew.there (w.heap.size + 1) 0 15 ∧ W0.drew.there w.heap.size 0 15) := by
    rw [hW0]
    constructor
    · intro j hj
      rcases (show j = 0 ∨ j = 1 ∨ j = 2 ∨ j = 3 ∨ j = 4 ∨ j = 5 ∨ j = 6 ∨ j = 7 ∨ j = 8 ∨ j = 9 ∨ j = 10 ∨ j = 11 ∨ j = 12 ∨ j = 13 ∨ j = 14 by omega) with rfl | rfl | rfl | rfl | rfl | rfl | rfl | rfl | rfl | rfl | rfl | rfl | rfl | rfl | rfl <;> simp
    · intro j hj
      rcases (show j = 0 ∨ j = 1 ∨ j = 2 ∨ j = 3 ∨ j = 4 ∨ j = 5 ∨ j = 6 ∨ j = 7 ∨ j = 8 ∨ j = 9 ∨ j = 10 ∨ j = 11 ∨ j = 12 ∨ j = 13 ∨ j = 14 by omega) with rfl | rfl | rfl | rfl | rfl | rfl | rfl | rfl | rfl | rfl | rfl | rfl | rfl | rfl | rfl <;> simp [RT.attrs]
  have hT0 : T73 r w.heap.size W0.drew := ⟨RA.out 1 _ rfl, RA.out 9 _ rfl, RA.out 10 _ rfl⟩
  clear hW0
  refine wp_region_T 10 (T73 r w.heap.size) (by kernel_rfl) hT0 (fun hT => ?_)
  refine wpAnyT_take (i := 0) (oi := { dst := some 3, op := Op.fieldAddr 56 (Operand.tmp 1) 1, type := 0, pos := "routes.go:30", after := #[], guard := none }) (v := ?_) rfl (by kernel_rfl) (by kernel_rfl) (by kernel_rfl) (fun _ _ _ h => h) rfl (by kernel_rfl) (by kernel_rfl) (by kernel_rfl) (Or.inl ⟨by rfl, ?_⟩) hT ?_
  rotate_left
  · intro W hTw; obtain ⟨_, _, _⟩ := hTw; go_simp; (try with_reducible rfl)
  (try simp only [Act.put, List.setIfInBounds_toArray, List.set_cons_zero, List.set_cons_succ])
  refine wpAnyT_take (i := 1) (oi := { dst := some 4, op := Op.load 51 (Operand.tmp 3), type := 51, pos := "routes.go:30", after := #[{ on := 0, ground := Ground.data }], guard := none }) (v := ?_) rfl (by kernel_rfl) (by kernel_rfl) (by kernel_rfl) (fun _ _ _ h => h) rfl (by kernel_rfl) (by kernel_rfl) (by kernel_rfl) (Or.inl ⟨by rfl, ?_⟩) hT ?_
  rotate_left
  · intro W hTw; obtain ⟨_, _, _⟩ := hTw; go_simp; (try with_reducible rfl)
  (try simp only [Act.put, List.setIfInBounds_toArray, List.set_cons_zero, List.set_cons_succ])
  refine wpAnyT_take (i := 3) (oi := { dst := some 6, op := Op.fieldAddr 56 (Operand.tmp 1) 9, type := 0, pos := "routes.go:30", after := #[], guard := none }) (v := ?_) rfl (by kernel_rfl) (by kernel_rfl) (by kernel_rfl) (fun _ _ _ h => h) rfl (by kernel_rfl) (by kernel_rfl) (by kernel_rfl) (Or.inl ⟨by rfl, ?_⟩) hT ?_
  rotate_left
  · intro W hTw; obtain ⟨_, _, _⟩ := hTw; go_simp; (try with_reducible rfl)
  (try simp only [Act.put, List.setIfInBounds_toArray, List.set_cons_zero, List.set_cons_succ])
  refine wpAnyT_take (i := 4) (oi := { dst := some 7, op := Op.load 37 (Operand.tmp 6), type := 37, pos := "routes.go:30", after := #[{ on := 3, ground := Ground.data }], guard := none }) (v := ?_) rfl (by kernel_rfl) (by kernel_rfl) (by kernel_rfl) (fun _ _ _ h => h) rfl (by kernel_rfl) (by kernel_rfl) (by kernel_rfl) (Or.inl ⟨by rfl, ?_⟩) hT ?_
  rotate_left
  · intro W hTw; obtain ⟨_, _, _⟩ := hTw; go_simp; (try with_reducible rfl)
  (try simp only [Act.put, List.setIfInBounds_toArray, List.set_cons_zero, List.set_cons_succ])
  refine wpAnyT_take (i := 6) (oi := { dst := some 9, op := Op.fieldAddr 56 (Operand.tmp 1) 10, type := 0, pos := "routes.go:30", after := #[], guard := none }) (v := ?_) rfl (by kernel_rfl) (by kernel_rfl) (by kernel_rfl) (fun _ _ _ h => h) rfl (by kernel_rfl) (by kernel_rfl) (by kernel_rfl) (Or.inl ⟨by rfl, ?_⟩) hT ?_
  rotate_left
  · intro W hTw; obtain ⟨_, _, _⟩ := hTw; go_simp; (try with_reducible rfl)
  (try simp only [Act.put, List.setIfInBounds_toArray, List.set_cons_zero, List.set_cons_succ])
  refine wpAnyT_take (i := 7) (oi := { dst := some 10, op := Op.load 52 (Operand.tmp 9), type := 52, pos := "routes.go:30", after := #[{ on := 6, ground := Ground.data }], guard := none }) (v := ?_) rfl (by kernel_rfl) (by kernel_rfl) (by kernel_rfl) (fun _ _ _ h => h) rfl (by kernel_rfl) (by kernel_rfl) (by kernel_rfl) (Or.inl ⟨by rfl, ?_⟩) hT ?_
  rotate_left
  · intro W hTw; obtain ⟨_, _, _⟩ := hTw; go_simp; (try with_reducible rfl)
  (try simp only [Act.put, List.setIfInBounds_toArray, List.set_cons_zero, List.set_cons_succ])
  refine wpAnyT_ready (rs := [2]) (by kernel_rfl) (by simp) (AllReadyT.cons (o := { dst := some 5, op := Op.call { callee := Callee.value (Operand.func 106), args := #[Operand.tmp 4], argTypes := #[51] }, type := 51, pos := "routes.go:30", after := #[{ on := 1, ground := Ground.data }], guard := none }) rfl (fun K hK => ?_) AllReadyT.nil)
  go_simp
  refine (own_u32 r.pa r.pl r.pc _ _ (by have := hf.1.1; omega) (HL.out.1.below b0) ints_one hf.2.1).mono ?_
  rintro e w2 ⟨A2, c2, rfl, row2, fr2, q2⟩
  have b2 : Below w.heap.size w w2 := b0.trans (q2.mono b0.size)
  replace hT := T73.below hT (by have := (Nat.le_of_eq sz0.symm); omega) q2
  have sz2 : w.heap.size + 2 ≤ w2.heap.size := Nat.le_trans (Nat.le_of_eq sz0.symm) q2.size
  go_simp
  refine hK.out _ _ hT (fun _ => ?_)
  clear hK K
  (try simp only [Act.put, List.setIfInBounds_toArray, List.set_cons_zero, List.set_cons_succ])
  refine wpAnyT_take (i := 9) (oi := { dst := some 12, op := Op.fieldAddr 56 (Operand.tmp 1) 1, type := 0, pos := "routes.go:30", after := #[{ on := 0, ground := Ground.phase }, { on := 1, ground := Ground.phase }, { on := 2, ground := Ground.phase }, { on := 3, ground := Ground.phase }, { on := 4, ground := Ground.phase }, { on := 5, ground := Ground.textOnly Departure.lateStoresUnsure }, { on := 6, ground := Ground.phase }, { on := 7, ground := Ground.phase }, { on := 8, ground := Ground.textOnly Departure.lateStoresUnsure }], guard := none }) (v := ?_) rfl (by kernel_rfl) (by kernel_rfl) (by kernel_rfl) (fun _ _ _ h => h) rfl (by kernel_rfl) (by kernel_rfl) (by kernel_rfl) (Or.inl ⟨by rfl, ?_⟩) hT ?_
  rotate_left
  · intro W hTw; obtain ⟨_, _, _⟩ := hTw; go_simp; (try with_reducible rfl)
  (try simp only [Act.put, List.setIfInBounds_toArray, List.set_cons_zero, List.set_cons_succ])
  refine wpAnyT_ready (rs := [5]) (by kernel_rfl) (by simp) (AllReadyT.cons (o := { dst := some 8, op := Op.call { callee := Callee.value (Operand.func 107), args := #[Operand.tmp 7], argTypes := #[37] }, type := 37, pos := "routes.go:30", after := #[{ on := 4, ground := Ground.data }, { on := 2, ground := Ground.chain }], guard := none }) rfl (fun K hK => ?_) AllReadyT.nil)
  go_simp
  refine (own_ip r.ca r.cl r.cc _ _ (by have := hf.1.2.1; omega) (HL.out.2.1.below b2) ints_one hf.2.2.1).mono ?_
  rintro e w5 ⟨A5, c5, rfl, row5, fr5, q5⟩
  have b5 : Below w.heap.size w w5 := b2.trans (q5.mono b2.size)
  replace hT := T73.below hT (by have := sz2; omega) q5
  have sz5 : w.heap.size + 2 ≤ w5.heap.size := Nat.le_trans sz2 q5.size
  go_simp
  refine hK.out _ _ hT (fun _ => ?_)
  clear hK K
  (try simp only [Act.put, List.setIfInBounds_toArray, List.set_cons_zero, List.set_cons_succ])
  refine wpAnyT_ready (rs := [8]) (by kernel_rfl) (by simp) (AllReadyT.cons (o := { dst := some 11, op := Op.call { callee := Callee.value (Operand.func 108), args := #[Operand.tmp 10], argTypes := #[52] }, type := 52, pos := "routes.go:30", after := #[{ on := 7, ground := Ground.data }, { on := 5, ground := Ground.chain }], guard := none }) rfl (fun K hK => ?_) AllReadyT.nil)
  go_simp
  refine (own_comm r.ma r.ml r.mc _ _ (by have := hf.1.2.2; omega) (HL.out.2.2.below b5) comms_one hf.2.2.2.1).mono ?_
  rintro e w8 ⟨A8, c8, rfl, row8, fr8, q8⟩
  have b8 : Below w.heap.size w w8 := b5.trans (q8.mono b5.size)
  replace hT := T73.below hT (by have := sz5; omega) q8
  have sz8 : w.heap.size + 2 ≤ w8.heap.size := Nat.le_trans sz5 q8.size
  go_simp
  refine hK.out _ _ hT (fun _ => ?_)
  clear hK K
  (try simp only [Act.put, List.setIfInBounds_toArray, List.set_cons_zero, List.set_cons_succ])
  have q08 : Below (w.heap.size + 2) W0.drew w8 := ((q2.mono (by omega)).trans (q5.mono sz2)).trans (q8.mono sz5)
  have th0 : w8.there w.heap.size 0 15 := fun j hj => ⟨by rw [q08.cell (by show w.heap.size < _; omega)]; exact (TH.out.2 j hj).1, by rw [q08.frozen (by show w.heap.size < _; omega)]; exact (TH.out.2 j hj).2⟩
  have th1 : w8.there (w.heap.size + 1) 0 15 := fun j hj => ⟨by rw [q08.cell (by show w.heap.size + 1 < _; omega)]; exact (TH.out.1 j hj).1, by rw [q08.frozen (by show w.heap.size + 1 < _; omega)]; exact (TH.out.1 j hj).2⟩
  have ra : w8.rangeAt w.heap.size 0 r.attrs := fun j v hj => (q08.cell (by show w.heap.size < _; omega)).trans (RA.out j v hj)
  have f1 : w8.frozen? ⟨w.heap.size, 1, none⟩ = false := (th0 1 (by decide)).2
  have f9 : w8.frozen? ⟨w.heap.size, 9, none⟩ = false := (th0 9 (by decide)).2
  have f10 : w8.frozen? ⟨w.heap.size, 10, none⟩ = false := (th0 10 (by decide)).2
  obtain ⟨hT1, hT9, hT10⟩ := hT
  have TH0 := Lib.hid th0
  have TH1 := Lib.hid th1
  have RA8 := Lib.hid ra
  clear th0 th1 ra
  refine wpAnyT_last (o := { dst := none, op := Op.store 51 (Operand.tmp 12) (Operand.tmp 5), type := 0, pos := "routes.go:30", after := #[{ on := 9, ground := Ground.data }, { on := 2, ground := Ground.data }, { on := 8, ground := Ground.chain }, { on := 0, ground := Ground.phase }, { on := 1, ground := Ground.phase }, { on := 2, ground := Ground.phase }, { on := 3, ground := Ground.phase }, { on := 4, ground := Ground.phase }, { on := 5, ground := Ground.textOnly Departure.lateStoresUnsure }, { on := 6, ground := Ground.phase }, { on := 7, ground := Ground.phase }, { on := 8, ground := Ground.textOnly Departure.lateStoresUnsure }], guard := none }) (by kernel_rfl) rfl (by decide) (fun K hK => ?_)
  go_simp
  refine hK.out _ _ ?_
  clear hK K
  (try simp only [Act.put, List.setIfInBounds_toArray, List.set_cons_zero, List.set_cons_succ])
  refine wpAny_ready (rs := [11]) (by kernel_rfl) (by simp) (AllReady.cons (o := { dst := some 13, op := Op.fieldAddr 56 (Operand.tmp 1) 9, type := 0, pos := "routes.go:30", after := #[{ on := 0, ground := Ground.phase }, { on := 1, ground := Ground.phase }, { on := 2, ground := Ground.phase }, { on := 3, ground := Ground.phase }, { on := 4, ground := Ground.phase }, { on := 5, ground := Ground.phase }, { on := 6, ground := Ground.phase }, { on := 7, ground := Ground.phase }, { on := 8, ground := Ground.textOnly Departure.lateStoresUnsure }, { on := 9, ground := Ground.phase }, { on := 10, ground := Ground.phase }], guard := none }) rfl (fun K hK => ?_) AllReady.nil)
  replace hK := Lib.hid hK
  go_simp
  refine hK.out _ _ ?_
  clear hK K
  (try simp only [Act.put, List.setIfInBounds_toArray, List.set_cons_zero, List.set_cons_succ])
  refine wpAny_ready (rs := [12]) (by kernel_rfl) (by simp) (AllReady.cons (o := { dst := none, op := Op.store 37 (Operand.tmp 13) (Operand.tmp 8), type := 0, pos := "routes.go:30", after := #[{ on := 11, ground := Ground.data }, { on := 5, ground := Ground.data }, { on := 10, ground := Ground.chain }, { on := 0, ground := Ground.phase }, { on := 1, ground := Ground.phase }, { on := 2, ground := Ground.phase }, { on := 3, ground := Ground.phase }, { on := 4, ground := Ground.phase }, { on := 5, ground := Ground.phase }, { on := 6, ground := Ground.phase }, { on := 7, ground := Ground.phase }, { on := 8, ground := Ground.textOnly Departure.lateStoresUnsure }, { on := 9, ground := Ground.phase }, { on := 10, ground := Ground.phase }], guard := none }) rfl (fun K hK => ?_) AllReady.nil)
  replace hK := Lib.hid hK
  go_simp
  refine hK.out _ _ ?_
  clear hK K
  (try simp only [Act.put, List.setIfInBounds_toArray, List.set_cons_zero, List.set_cons_succ])
  refine wpAny_ready (rs := [13]) (by kernel_rfl) (by simp) (AllReady.cons (o := { dst := some 14, op := Op.fieldAddr 56 (Operand.tmp 1) 10, type := 0, pos := "routes.go:30", after := #[{ on := 0, ground := Ground.phase }, { on := 1, ground := Ground.phase }, { on := 2, ground := Ground.phase }, { on := 3, ground := Ground.phase }, { on := 4, ground := Ground.phase }, { on := 5, ground := Ground.phase }, { on := 6, ground := Ground.phase }, { on := 7, ground := Ground.phase }, { on := 8, ground := Ground.phase }, { on := 9, ground := Ground.phase }, { on := 10, ground := Ground.phase }, { on := 11, ground := Ground.phase }, { on := 12, ground := Ground.phase }], guard := none }) rfl (fun K hK => ?_) AllReady.nil)
  replace hK := Lib.hid hK
  go_simp
  refine hK.out _ _ ?_
  clear hK K
  (try simp only [Act.put, List.setIfInBounds_toArray, List.set_cons_zero, List.set_cons_succ])
  refine wpAny_ready (rs := [14]) (by kernel_rfl) (by simp) (AllReady.cons (o := { dst := none, op := Op.store 52 (Operand.tmp 14) (Operand.tmp 11), type := 0, pos := "routes.go:30", after := #[{ on := 13, ground := Ground.data }, { on := 8, ground := Ground.data }, { on := 12, ground := Ground.chain }, { on := 0, ground := Ground.phase }, { on := 1, ground := Ground.phase }, { on := 2, ground := Ground.phase }, { on := 3, ground := Ground.phase }, { on := 4, ground := Ground.phase }, { on := 5, ground := Ground.phase }, { on := 6, ground := Ground.phase }, { on := 7, ground := Ground.phase }, { on := 8, ground := Ground.phase }, { on := 9, ground := Ground.phase }, { on := 10, ground := Ground.phase }, { on := 11, ground := Ground.phase }, { on := 12, ground := Ground.phase }], guard := none }) rfl (fun K hK => ?_) AllReady.nil)
  replace hK := Lib.hid hK
  go_simp
  refine hK.out _ _ ?_
  clear hK K
  (try simp only [Act.put, List.setIfInBounds_toArray, List.set_cons_zero, List.set_cons_succ])
  refine wpAny_done (by kernel_rfl) ?_ _
  obtain ⟨W9, hW9⟩ : ∃ W9, W9 = (((w8.setCell ⟨w.heap.size, 1, none⟩ (.slice A2 r.pl c2)).setCell ⟨w.heap.size, 9, none⟩ (.slice A5 r.cl c5)).setCell ⟨w.heap.size, 10, none⟩ (.slice A8 r.ml c8)) := ⟨_, rfl⟩
  rw [← hW9]
  have ra9 : W9.rangeAt w.heap.size 0 (r.at A2 c2 A5 c5 A8 c8).attrs := by
    rw [hW9]
    have h1 := rangeAt_set (j := 1) (v := .slice A2 r.pl c2) RA8.out (by simp [RT.attrs])
    have h2 := rangeAt_set (j := 9) (v := .slice A5 r.cl c5) h1 (by simp [RT.attrs])
    exact rangeAt_set (j := 10) (v := .slice A8 r.ml c8) h2 (by simp [RT.attrs])
  have th9 : W9.there (w.heap.size + 1) 0 15 := by rw [hW9]; exact there_set (there_set (there_set TH1.out))
  have b9 : Below w.heap.size w W9 := by rw [hW9]; exact ((b8.setCell (by simp) _).setCell (by simp) _).setCell (by simp) _
  have s9 : W9.heap.size = w8.heap.size := by rw [hW9]; simp
  have FR : Fresh (w.heap.size + 2) (r.at A2 c2 A5 c5 A8 c8) := ⟨fun a ha => by obtain ⟨a', h1, h2⟩ := fr2; cases h1.symm.trans ha; omega, fun a ha => by obtain ⟨a', h1, h2⟩ := fr5; cases h1.symm.trans ha; omega, fun a ha => by obtain ⟨a', h1, h2⟩ := fr8; cases h1.symm.trans ha; omega⟩
  have LI : RT.lists W9 (r.at A2 c2 A5 c5 A8 c8) := by
    rw [hW9]
    have e1 : Row w8 A2 r.pl c2 1 (ints r.pl r.px) := (row2.below q5).below q8
    have e2 : Row w8 A5 r.cl c5 1 (ints r.cl r.cx) := row5.below q8
    refine ⟨((e1.set ?_).set ?_).set ?_, ((e2.set ?_).set ?_).set ?_, ((row8.set ?_).set ?_).set ?_⟩ <;> intro a ha
    · have := FR.1 a ha; omega
    · have := FR.1 a ha; omega
    · have := FR.1 a ha; omega
    · have := FR.2.1 a ha; omega
    · have := FR.2.1 a ha; omega
    · have := FR.2.1 a ha; omega
    · have := FR.2.2 a ha; omega
    · have := FR.2.2 a ha; omega
    · have := FR.2.2 a ha; omega
  clear hW9 hT1 hT9 hT10 f1 f9 f10 TH0 TH1 RA8 RA TH
  have AL : Alike r (r.at A2 c2 A5 c5 A8 c8) := ⟨rfl, rfl, rfl, rfl, rfl, rfl, rfl, rfl⟩
  have n2 : A2 = none → r.pl = 0 ∧ c2 = 0 := fun h => by obtain ⟨a', h1, h2⟩ := fr2; rw [h1] at h; cases h
  have n5 : A5 = none → r.cl = 0 ∧ c5 = 0 := fun h => by obtain ⟨a', h1, h2⟩ := fr5; rw [h1] at h; cases h
  have n8 : A8 = none → r.ml = 0 ∧ c8 = 0 := fun h => by obtain ⟨a', h1, h2⟩ := fr8; rw [h1] at h; cases h
  have FI : (r.at A2 c2 A5 c5 A8 c8).fine := ⟨hf.1, n2, n5, n8, hf.2.2.2.2⟩
  generalize r.at A2 c2 A5 c5 A8 c8 = r' at ra9 LI AL FI FR
  have II : (Tryz.prog.info? 56).map (·.size) = some 15 := by kernel_rfl
  go_wp2_with (first | (refine wpList_load_mid rfl 56 (.tmp 1) rfl w.heap.size 0 rfl r'.attrs _ ra9 Tryz.underlying56 rfl II ?_) | (refine wpList_store_mid rfl 56 (.tmp 2) (.tmp 15) rfl (w.heap.size + 1) 0 r'.attrs.toArray rfl rfl th9 II (all_oneCell_toArray r'.attrs_one) ?_))
  have LV := run_loadVar_mid (P := Tryz.prog) (W9.setCells (w.heap.size + 1) 0 r'.attrs) (w.heap.size + 1) 0 56 r'.attrs _ (World.rangeAt_setCells_same W9 _ _ _ th9) Tryz.underlying56 rfl II
  refine bodyPost_ret (v := .agg r'.attrs.toArray) (by simp [results, Tryz.results73, Act.put, asAddr, LV]) rfl ⟨r', AL, FI, rfl, ⟨LI.1.sets ?_, LI.2.1.sets ?_, LI.2.2.sets ?_⟩, ⟨fun a ha => by have := FR.1 a ha; omega, fun a ha => by have := FR.2.1 a ha; omega, fun a ha => by have := FR.2.2 a ha; omega⟩, below_sets b9 (by omega)⟩
  · intro a ha; have := FR.1 a ha; omega
  · intro a ha; have := FR.2.1 a ha; omega
  · intro a ha; have := FR.2.2 a ha; omega
end Go.Proofs.YtiellonfgcmaaaaGreat

/- Copies of a route. -/
namespace Go.Proofs.YtiellonfgcmaaaaGreat
open Go.RowKit Go.ChangeShapes

theorem there_new (w : World) (C : Array Value) (t : TypeId) : (w.alloc (.cells C t)).there w.heap.size 0 C.size := fun j hj => by
  rw [Nat.zero_add, World.cell?_alloc_new, World.frozen?_alloc_new]
  exact ⟨by simp [hj], rfl⟩
theorem range_new (w : World) (cs : List Value) (t : TypeId) : (w.alloc (.cells cs.toArray t)).rangeAt w.heap.size 0 cs := fun j v hj => by
  rw [Nat.zero_add, World.cell?_alloc_new]
  simpa using hj
theorem rangeAt_sub {w : World} {b o : Nat} {cs : List Value} (h : w.rangeAt b o cs) (x y z : List Value) (e : cs = x ++ y ++ z) (k : Nat) (hk : k = o + x.length) : w.rangeAt b k y := fun j v hj => by
  have hjl : j < y.length := (List.getElem?_eq_some_iff.1 hj).1
  have := h (x.length + j) v (by rw [e, List.append_assoc, List.getElem?_append_right (by omega), List.getElem?_append_left (by omega), show x.length + j - x.length = j by omega]; exact hj)
  rwa [show o + (x.length + j) = k + j by omega] at this
theorem rangeAt_app {w : World} {b o : Nat} {x y : List Value} (h : w.rangeAt b o x) (h' : w.rangeAt b (o + x.length) y) : w.rangeAt b o (x ++ y) := fun j v hj => by
  rcases Nat.lt_or_ge j x.length with hl | hl
  · rw [List.getElem?_append_left hl] at hj; exact h j v hj
  · rw [List.getElem?_append_right hl] at hj
    have := h' (j - x.length) v hj
    rwa [show o + x.length + (j - x.length) = o + j by omega] at this
theorem rangeAt_below {w w' : World} {N b o : Nat} {cs : List Value} (h : w.rangeAt b o cs) (hN : b < N) (hb : Below N w w') : w'.rangeAt b o cs := fun j v hj => (hb.cell (by exact hN)).trans (h j v hj)
theorem there_below {w w' : World} {N b o n : Nat} (h : w.there b o n) (hN : b < N) (hb : Below N w w') : w'.there b o n := fun j hj =>
  ⟨by rw [hb.cell (by exact hN)]; exact (h j hj).1, by rw [hb.frozen (by exact hN)]; exact (h j hj).2⟩
theorem there_sub {w : World} {b o n : Nat} (h : w.there b o n) (k m : Nat) (hk : k + m ≤ n) : w.there b (o + k) m := fun j hj => by
  have := h (k + j) (by omega)
  rwa [show o + (k + j) = o + k + j by omega] at this
theorem wpList_store_list {P : Program} {ops : Array Oper} {rest : List Oper} {op : Oper} {a : Act} {w : World} {Q : Exit → Act → World → Prop} (hgd : op.guard = none) (hd : op.dst = none) (ty : TypeId) (x y : Operand) (ho : op.op = .store ty x y)
    (b o : Nat) (cs : List Value) (hx : a.eval x = .pointer (some ⟨b, o, none⟩)) (hy : a.eval y = .agg cs.toArray)
    (ht : w.there b o cs.length) (hi : (P.info? ty).map (·.size) = some cs.length) (h1 : ∀ u ∈ cs, u.oneCell' = true)
    (h : wpList P ops Q rest a (w.setCells b o cs)) : wpList P ops Q (op :: rest) a w := by
  refine wpList_store_mid hgd ty x y ho b o cs.toArray hx hy (by simpa using ht) (by simpa using hi) (all_oneCell_toArray h1) ?_
  rw [hd]
  exact h
theorem info58w : (Tryz.prog.info? 58).map (·.size) = some 38 := by kernel_rfl
theorem info56w : (Tryz.prog.info? 56).map (·.size) = some 15 := by kernel_rfl
theorem info50w : (Tryz.prog.info? 50).map (·.size) = some 21 := by kernel_rfl
theorem alike_cells {r s : RT} (h : Alike r s) : s.cells = r.nlri ++ s.attrs ++ [.int .u32 (r.g 36), .bool (r.h 37)] := by
  rw [s.cells_eq, h.1, h.2.1]
  simp only [RT.nlri, h.1, h.2.1]
set_option maxRecDepth 100000 in
set_option maxHeartbeats 8000000 in
theorem own_route (r : RT) (w : World) (hf : r.fine) (hl : r.lists w) :
    Calls Tryz.prog 40 #[.agg r.cells.toArray] w fun e w' => ∃ r', Alike r r' ∧ r'.fine ∧ e = .returned (.agg r'.cells.toArray) ∧ r'.lists w' ∧ Fresh w.heap.size r' ∧ Below w.heap.size w w' := by
  have HL := Lib.hid hl
  have HF := Lib.hid hf
  clear hl hf
  go_enter Tryz.func40, Tryz.ntmps40
  have F38 : Hid (∀ (W0 w1 : World) (Z : Array Value), Below W0.heap.size W0 w1 → W0 = (w.alloc (.cells r.cells.toArray 58)).alloc (.cells Z 58) → Z.size = 38 → Below w.heap.size w W0 ∧ W0.heap.size = w.heap.size + 2 ∧ W0.rangeAt w.heap.size 0 r.cells ∧ W0.there w.heap.size 0 38 ∧ W0.there (w.heap.size + 1) 0 38) := by
    rintro W0 w1 Z _ rfl hZ
    refine ⟨((Below.refl _ _).alloc (Nat.le_refl _) _).alloc (by simp) _, by simp, World.rangeAt_alloc (range_new w r.cells 58) _, World.there_alloc (there_new w r.cells.toArray 58) _, ?_⟩
    have := there_new (w.alloc (.cells r.cells.toArray 58)) Z 58
    rwa [hZ, show (w.alloc (.cells r.cells.toArray 58)).heap.size = w.heap.size + 1 by simp] at this
  go_wp2_with (first | (go_at_call 73; fail) | (refine wpList_load_mid rfl 56 (.tmp 3) rfl w.heap.size 21 rfl r.attrs _ (rangeAt_sub (World.rangeAt_alloc (range_new w r.cells 58) _) r.nlri r.attrs _ r.cells_eq 21 rfl) Tryz.underlying56 rfl info56w ?_))
  refine (own_attrs r _ HF.out (HL.out.below (F38.out _ _ _ (Below.refl _ _) (by rfl) (by rfl)).1)).mono ?_
  rintro e w1 ⟨r1, AL, FI, rfl, LI, FR, q1⟩
  obtain ⟨b0, s0, g0, t0, t1⟩ := F38.out _ _ _ q1 rfl rfl
  rw [s0] at q1 FR
  have b1 : Below w.heap.size w w1 := b0.trans (q1.mono (by omega))
  have s1 := q1.size
  rw [s0] at s1
  have R0 := Lib.hid (rangeAt_below g0 (show w.heap.size < w.heap.size + 2 by omega) q1)
  have T0 := Lib.hid (there_below t0 (show w.heap.size < w.heap.size + 2 by omega) q1)
  have T1 := Lib.hid (there_below t1 (show w.heap.size + 1 < w.heap.size + 2 by omega) q1)
  have HB1 := Lib.hid b1
  have HA := Lib.hid AL
  have T21 : w1.there w.heap.size 21 15 := by have := there_sub T0.out 21 15 (by omega); rwa [Nat.zero_add] at this
  have R1 : (w1.setCells w.heap.size 21 r1.attrs).rangeAt w.heap.size 0 r1.cells := by
    rw [alike_cells AL]
    have hn : w1.rangeAt w.heap.size 0 r.nlri := rangeAt_sub R0.out [] r.nlri _ (by rw [r.cells_eq, List.append_assoc]; rfl) 0 rfl
    have ht : w1.rangeAt w.heap.size 36 [.int .u32 (r.g 36), .bool (r.h 37)] := rangeAt_sub R0.out (r.nlri ++ r.attrs) _ [] (by rw [r.cells_eq]; simp) 36 rfl
    exact rangeAt_app (rangeAt_app (World.rangeAt_setCells_apart hn _ _ _ (.inr (.inl (Nat.le_refl 21)))) (World.rangeAt_setCells_same w1 _ 21 r1.attrs T21)) (World.rangeAt_setCells_apart ht _ _ _ (.inr (.inr (Nat.le_refl 36))))
  have T2 : (w1.setCells w.heap.size 21 r1.attrs).there (w.heap.size + 1) 0 38 := World.there_setCells T1.out _ _ _
  clear b0 s0 g0 t0 t1 b1 AL
  go_wp2_with
    (with_reducible show wpList _ _ _ _ _ _
     refine wpList_store_list rfl rfl 56 (.tmp 6) (.tmp 5) rfl w.heap.size 21 r1.attrs rfl rfl T21 info56w r1.attrs_one ?_
     generalize hW2 : w1.setCells w.heap.size 21 r1.attrs = W2 at R1 T2 ⊢
     replace hW2 := Lib.hid hW2
     apply wpList_nil
     go_step
     go_step
     go_step
     go_step
     refine wpList_load_mid rfl 58 (.tmp 1) rfl w.heap.size 0 rfl r1.cells _ R1 Tryz.underlying58 rfl info58w ?_
     refine wpList_store_list rfl rfl 58 (.tmp 2) (.tmp 7) rfl (w.heap.size + 1) 0 r1.cells rfl rfl T2 info58w r1.one ?_
     apply wpList_nil
     go_step
     go_step
     go_step
     have LV := run_loadVar_mid (P := Tryz.prog) (W2.setCells (w.heap.size + 1) 0 r1.cells) (w.heap.size + 1) 0 58 r1.cells _ (World.rangeAt_setCells_same _ _ _ _ T2) Tryz.underlying58 rfl info58w
     refine bodyPost_ret (v := .agg r1.cells.toArray) (by simp [results, Tryz.results40, Act.put, asAddr, LV]) rfl ⟨r1, HA.out, FI, rfl, ?_, ⟨fun a ha => by have := FR.1 a ha; omega, fun a ha => by have := FR.2.1 a ha; omega, fun a ha => by have := FR.2.2 a ha; omega⟩, by rw [← hW2.out]; exact below_sets (below_sets HB1.out (by omega)) (by omega)⟩
     rw [← hW2.out]
     refine ⟨(LI.1.sets ?_).sets ?_, (LI.2.1.sets ?_).sets ?_, (LI.2.2.sets ?_).sets ?_⟩
     · intro a ha; have := FR.1 a ha; omega
     · intro a ha; have := FR.1 a ha; omega
     · intro a ha; have := FR.2.1 a ha; omega
     · intro a ha; have := FR.2.1 a ha; omega
     · intro a ha; have := FR.2.2 a ha; omega
     · intro a ha; have := FR.2.2 a ha; omega)
end Go.Proofs.YtiellonfgcmaaaaGreat

/- Copies of routes. -/
namespace Go.Proofs.YtiellonfgcmaaaaGreat
open Go.RowKit Go.ChangeShapes

theorem info58z : (Tryz.prog.info? 58).map (fun i => (i.zero, i.size, i.bytes)) = some (some (.agg #[.int .i64 0, .int .u64 0, .int .u8 0, .int .u8 0, .int .u8 0, .int .u8 0, .int .u8 0, .int .u8 0, .int .u8 0, .int .u8 0, .int .u8 0, .int .u8 0, .int .u32 0, .int .u64 0, .int .u32 0, .bool false, .int .u32 0, .int .i64 0, .int .u32 0, .int .u32 0, .int .u32 0, .int .i64 0, .slice none 0 0, .int .u32 0, .bool false, .int .u32 0, .bool false, .int .u32 0, .bool false, .int .u32 0, .slice none 0 0, .slice none 0 0, .int .i64 0, .int .u32 0, .int .u32 0, .int .u32 0, .int .u32 0, .bool false]), 38, 224) := by kernel_rfl
theorem ownsRow_belowN {w w' : World} {N base e size n : Nat} {v : Value} {xs : List Value} (h : w.ownsRow base e size v n xs) (hb : Below N w w') (hN : ∀ g, v.ownBlock = some g → g < N) : w'.ownsRow base e size v n xs := by
  obtain ⟨h1, h2 | ⟨g, cap, cur, rfl, h3, h4, h5⟩⟩ := h
  · exact ⟨h1, .inl h2⟩
  · exact ⟨h1, .inr ⟨g, cap, cur, rfl, h3, by rw [hb.block g (hN g rfl)]; exact h4, h5⟩⟩
theorem Row.grown {w w' : World} {A : Option Addr} {n c k : Nat} {xs : List Value} {row : Option Nat} (h : Row w A n c k xs) (hg : w.grownBy w' row) (hne : n ≠ 0 → ∀ a, A = some a → some a.block ≠ row) : Row w' A n c k xs := by
  rcases Nat.eq_zero_or_pos n with h0 | h0
  · rcases h with ⟨_, h2⟩ | ⟨b, off, rfl, h2, h3, h4, h5⟩
    · exact .inl ⟨h0, h2⟩
    · exact .inl ⟨h0, List.eq_nil_of_length_eq_zero (by rw [h4, h0, Nat.zero_mul])⟩
  · rcases h with ⟨h1, _⟩ | ⟨b, off, rfl, h2, h3, h4, h5⟩
    · omega
    · have := hne (by omega) _ rfl
      exact .inr ⟨b, off, rfl, Nat.lt_of_lt_of_le h2 hg.size, h3, h4, fun j u hj => hg.cell (h5 j u hj) this⟩
theorem Row.lt {w : World} {A : Option Addr} {n c k : Nat} {xs : List Value} (h : Row w A n c k xs) (h0 : n ≠ 0) : ∀ a, A = some a → a.block < w.heap.size := by
  intro a ha
  rcases h with ⟨h1, _⟩ | ⟨b, off, rfl, h2, _⟩
  · exact absurd h1 h0
  · cases ha; exact h2
/-- None of a route's lists lies in a block. -/
def Away (row : Option Nat) (r : RT) : Prop := (r.pl ≠ 0 → ∀ a, r.pa = some a → some a.block ≠ row) ∧ (r.cl ≠ 0 → ∀ a, r.ca = some a → some a.block ≠ row) ∧ (r.ml ≠ 0 → ∀ a, r.ma = some a → some a.block ≠ row)
theorem lists_grown {w w' : World} {r : RT} {row : Option Nat} (h : r.lists w) (hg : w.grownBy w' row) (ha : Away row r) : r.lists w' := ⟨h.1.grown hg ha.1, h.2.1.grown hg ha.2.1, h.2.2.grown hg ha.2.2⟩
theorem away_new {w : World} {r : RT} {N : Nat} (h : r.lists w) (hN : w.heap.size ≤ N) : Away (some N) r :=
  ⟨fun h0 a ha e => by have := h.1.lt h0 a ha; injection e; omega, fun h0 a ha e => by have := h.2.1.lt h0 a ha; injection e; omega, fun h0 a ha e => by have := h.2.2.lt h0 a ha; injection e; omega⟩
theorem away_fresh {r : RT} {N : Nat} {row : Option Nat} (h : Fresh N r) (hr : ∀ g, row = some g → g < N) : Away row r :=
  ⟨fun _ a ha e => by have := h.1 a ha; have := hr _ e.symm; omega, fun _ a ha e => by have := h.2.1 a ha; have := hr _ e.symm; omega, fun _ a ha e => by have := h.2.2 a ha; have := hr _ e.symm; omega⟩
/-- Element by element the same but for where the lists lie. -/
inductive Alikes : List RT → List RT → Prop
  | nil : Alikes [] []
  | cons {r s : RT} {rs ss : List RT} : Alike r s → Alikes rs ss → Alikes (r :: rs) (s :: ss)
theorem Alikes.snoc {rs ss : List RT} {r s : RT} (h : Alikes rs ss) (h' : Alike r s) : Alikes (rs ++ [r]) (ss ++ [s]) := by
  induction h with
  | nil => exact .cons h' .nil
  | cons a _ ih => exact .cons a ih
theorem Alikes.length {rs ss : List RT} (h : Alikes rs ss) : ss.length = rs.length := by
  induction h with
  | nil => rfl
  | cons _ _ ih => simp [ih]
theorem Alikes.get {rs ss : List RT} (h : Alikes rs ss) : ∀ {i : Nat} {r s : RT}, rs[i]? = some r → ss[i]? = some s → Alike r s := by
  induction h with
  | nil => intro i r s h1; cases h1
  | cons a _ ih =>
    intro i r s h1 h2
    cases i with
    | zero => cases h1; cases h2; exact a
    | succ i => exact ih h1 h2
/-- A slice literal of one struct. -/
theorem wpList_sliceOf {P : Program} {ops : Array Oper} {rest : List Oper} {o : Oper} {a : Act} {w : World} {Q : Exit → Act → World → Prop} (hg : o.guard = none) (t e : TypeId) (x : Operand) (ho : o.op = .buildSlice t 1 #[(0, x)])
    (cs : List Value) (hx : a.eval x = .agg cs.toArray) (ie : TypeInfo) (z : Value) (hu : P.underlying t = some (.slice e)) (hie : P.info? e = some ie) (hz : ie.zero = some z) (hs : ie.size = cs.length) (hpos : 0 < cs.length) (hsm : cs.length ≤ 1000)
    (h : wpList P ops Q rest (a.put o.dst (.slice (some ⟨w.heap.size, 0, none⟩) 1 1)) (w.alloc (.cells cs.toArray e))) : wpList P ops Q (o :: rest) a w := by
  refine wpList_buildSlice hg t e 1 #[(0, x)] ho cs.toArray ie z hu hie hz (by omega) (by omega) ?_ h
  have := Great.fill_whole (s := cs.length) hpos [.agg cs.toArray] ((Array.range (1 * ie.size)).map (z.cells[· % z.cells.size]!)) (by simp [Value.cells]) (by simp [hs])
  simpa [hs, hx, Value.cells] using this
theorem take_snoc {α : Type} {l : List α} {k : Nat} {x : α} (h : l[k]? = some x) : l.take (k + 1) = l.take k ++ [x] := by
  rw [List.take_add_one, h]; rfl

set_option maxRecDepth 100000 in
set_option maxHeartbeats 8000000 in
theorem own_routes (b off c : Nat) (rs : List RT) (w : World) (hn : rs.length ≤ 60) (hlie : Lies w b off rs) (hls : ∀ r ∈ rs, r.fine ∧ r.lists w) :
    Calls Tryz.prog 11 #[.slice (some ⟨b, off, none⟩) rs.length c] w fun e w' => ∃ v ss, e = .returned v ∧ w'.ownsRow w.heap.size 58 38 v rs.length (ss.flatMap RT.cells) ∧ Alikes rs ss ∧ (∀ r ∈ ss, r.fine ∧ r.lists w') ∧ Below w.heap.size w w' := by
  obtain ⟨i0, hi, hz0, hz1, hz2⟩ := info_parts info58z
  have LIE := Lib.hid hlie
  have LS := Lib.hid hls
  obtain ⟨n, hnl⟩ : ∃ n, n = rs.length := ⟨_, rfl⟩
  rw [← hnl] at hn ⊢
  have NL := Lib.hid hnl
  clear hlie hls hnl
  go_enter Tryz.func11, Tryz.ntmps11
  go_wp2
  go_loopw [3, 4] (fun v i wr => ∃ (k : Nat) (ss : List RT), k ≤ n ∧ i = .int .i64 k ∧ wr.ownsRow w.heap.size 58 38 v k (ss.flatMap RT.cells) ∧ Hid (Alikes (rs.take k) ss ∧ ∀ r ∈ ss, r.fine ∧ r.lists wr ∧ Away v.ownBlock r) ∧ Below w.heap.size w wr) (fun _ i _ => n - (intOf i).toNat)
  case atStart => exact ⟨0, [], Nat.zero_le _, rfl, World.ownsRow_nil _ _ _ _, ⟨.nil, fun r hr => by cases hr⟩, Below.refl _ _⟩
  case round =>
    obtain ⟨k, ss, hk, rfl, hown, hss, hbl⟩ := hrel
    by_cases hlt : k < n
    · obtain ⟨r, hr⟩ : ∃ r, rs[k]? = some r := ⟨_, List.getElem?_eq_getElem (by rw [← NL.out]; exact hlt)⟩
      have hmem := List.mem_of_getElem? hr
      have HR := Lib.hid hr
      have HM := Lib.hid hmem
      have hlt' : (k : Int) < n := by omega
      have h0' : (0 : Int) ≤ k := by omega
      have RG : wr.rangeAt b (off + k * 38) r.cells := fun j v hj => (hbl.cell (by exact LIE.out.1)).trans (LIE.out.2 k j r v hr hj)
      clear hr hmem
      have FI0 := Lib.hid (LS.out r HM.out).1
      have LI0 := Lib.hid ((LS.out r HM.out).2.below hbl)
      have m1 : k + 1 ≤ maxLen := by unfold maxLen; omega
      have m2 : (k + 1) * 224 ≤ 140737488355328 := by omega
      have m3 := hbl.size
      have HO := Lib.hid hown
      have HBL := Lib.hid hbl
      clear hown hbl
      go_wp2_with (first
        | ((with_reducible show wpList _ _ _ _ _ _); first
            | (refine wpList_load_mid rfl 58 (.tmp 14) rfl b (off + k * 38) rfl r.cells _ RG Tryz.underlying58 rfl info58w ?_)
            | (refine wpList_sliceOf rfl 22 58 (.tmp 16) rfl r1.cells rfl i0 _ Tryz.underlying22 hi hz0 hz1 (by simp [RT.len]) (by simp [RT.len]) ?_)
            | (at_builtin; refine wpList_append_own_at _ rfl (.tmp 11) (.tmp 17) 22 rfl w.heap.size 58 i0 _ 38 224 Tryz.underlying22 hi hz0 hz1 hz2 rfl (by decide) u3 k (ss.flatMap RT.cells) rfl hown2 ⟨w1.heap.size, 0, none⟩ 1 1 r1.cells rfl (by rw [RT.len]) hnews r1.one m1 m2 m4 ?_; intro v' w2 hown3 hgrow hnil hat))
        | (go_at_call 40; refine (own_route r _ FI0.out LI0.out).mono ?_; rintro e w1 ⟨r1, AL, FI, rfl, LI, FR, q1⟩
           have hown2 : (w1.alloc (.cells r1.cells.toArray 58)).ownsRow w.heap.size 58 38 u3 k (ss.flatMap RT.cells) := (ownsRow_below HO.out q1).alloc _
           have hnews : ∀ j u, r1.cells[j]? = some u → (w1.alloc (.cells r1.cells.toArray 58)).cell? ((⟨w1.heap.size, 0, none⟩ : Addr).add j) = some u := fun j u hj => by rw [addr_add']; exact range_new w1 r1.cells 58 j u hj
           have m4 : w.heap.size ≤ (w1.alloc (.cells r1.cells.toArray 58)).heap.size := by have := q1.size; simp; omega
           replace AL := Lib.hid AL; replace LI := Lib.hid LI; replace FI := Lib.hid FI; replace FR := Lib.hid FR; have Q1 := Lib.hid q1; clear q1))
      have b1 : Below w.heap.size w (w1.alloc (.cells r1.cells.toArray 58)) := (HBL.out.trans (Q1.out.mono HBL.out.size)).alloc (by have := Q1.out.size; omega) _
      have step : ∀ q : RT, q.fine → q.lists (w1.alloc (.cells r1.cells.toArray 58)) → Away u3.ownBlock q → q.fine ∧ q.lists w2 ∧ Away v'.ownBlock q := fun q h1 h2 h3 =>
        ⟨h1, lists_grown h2 hgrow h3, by
          rcases hat with e | e
          · rw [e]; exact h3
          · rw [e]; exact away_new h2 (Nat.le_refl _)⟩
      refine ⟨⟨k + 1, ss ++ [r1], by omega, by go_num, by simpa [List.flatMap_append] using hown3, ⟨?_, ?_⟩, b1.grown hgrow m4 (fun g hg => (HO.out.lt g hg).1)⟩, by simp [intOf]; omega⟩
      · rw [take_snoc HR.out]; exact hss.out.1.snoc AL.out
      · intro q hq
        rcases List.mem_append.1 hq with hq | hq
        · obtain ⟨h1, h2, h3⟩ := hss.out.2 q hq
          exact step q h1 ((h2.below Q1.out).below ((Below.refl _ _).alloc (Nat.le_refl _) _)) h3
        · obtain rfl : q = r1 := by simpa using hq
          exact step q FI.out (LI.out.below ((Below.refl _ _).alloc (Nat.le_refl _) _)) (away_fresh FR.out fun g hg => (HO.out.lt g hg).2)
    · obtain rfl : k = n := by omega
      go_wp2
      go_ret
      refine ⟨_, ss, rfl, hown, ?_, fun q hq => ⟨(hss.out.2 q hq).1, (hss.out.2 q hq).2.1⟩, hbl⟩
      have h1 := hss.out.1
      rwa [NL.out, List.take_length] at h1
end Go.Proofs.YtiellonfgcmaaaaGreat

/- The segment routes of an identifier: moves and comparisons. -/
namespace Go.Proofs.YtiellonfgcmaaaaGreat
open Go.RowKit Go.ChangeShapes

theorem own_routes_none (c : Nat) (A : Option Addr) (w : World) :
    Calls Tryz.prog 11 #[.slice A 0 c] w fun e w' => e = .returned (.slice none 0 0) ∧ w' = w := by
  go_enter Tryz.func11, Tryz.ntmps11
  go_wp2
  refine wp_loop_rounds 1 ?_
  rw [rounds_succ]
  go_wp2
  go_ret
  exact ⟨rfl, rfl⟩

/-- A load under a guard that wants it. -/
theorem wpList_load_g {P : Program} {ops : Array Oper} {rest : List Oper} {op : Oper} {a : Act} {w : World} {Q : Exit → Act → World → Prop} (hw : Region.wanted op (yielded ops a.tmps) = true) (ty : TypeId) (x : Operand) (ho : op.op = .load ty x)
    (b o : Nat) (hx : a.eval x = .pointer (some ⟨b, o, none⟩)) (cs : List Value) (d : TypeDesc) (hc : w.rangeAt b o cs)
    (hu : P.underlying ty = some d) (hd : d.isRow = true) (hi : (P.info? ty).map (·.size) = some cs.length)
    (h : wpList P ops Q rest (a.put op.dst (.agg cs.toArray)) w) : wpList P ops Q (op :: rest) a w :=
  wpList_step fun _ hK => by rw [if_pos hw]; exact wp_load_mid ty x ho b o hx cs d hc hu hd hi (hK _ _ h)
/-- A whole struct into the block that was made last. -/
theorem wpList_store_new {P : Program} {ops : Array Oper} {rest : List Oper} {op : Oper} {a : Act} {w : World} {Q : Exit → Act → World → Prop} (hgd : op.guard = none) (hd : op.dst = none) (ty : TypeId) (x y : Operand) (ho : op.op = .store ty x y)
    (w0 : World) (C : Array Value) (cs : List Value) (hw : w = w0.alloc (.cells C ty)) (hx : a.eval x = .pointer (some ⟨w0.heap.size, 0, none⟩)) (hy : a.eval y = .agg cs.toArray)
    (hs : C.size = cs.length) (hi : (P.info? ty).map (·.size) = some cs.length) (h1 : ∀ u ∈ cs, u.oneCell' = true)
    (h : wpList P ops Q rest a (w0.alloc (.cells cs.toArray ty))) : wpList P ops Q (op :: rest) a w := by
  subst hw
  have hst := run_storeAt_new (P := P) w0 ty C cs.toArray (by simpa using hi) (by simpa using hs) (all_oneCell_toArray h1)
  refine wpList_plain hgd fun K hK => ?_
  unfold Oper.wp execOp
  simp only [ho, hx, hy, hst, Sem.run_bind, Result.andThen_ok]
  have := hK _ _ h
  simp only [Sem.run_pure, Oper.upon, hd]
  exact this

/-- '==' of two arrays: element by element. -/
theorem equal_array_dec {P : Program} (d : Nat) (t elem : TypeId) (len n : Nat) (xs ys : Array Value) (x y : Nat → Value) (q : Nat → Bool) (ht : P.underlying t = some (.array len elem))
    (hs : ∀ w, (Go.sizeOf elem).run P w = .ok n w) (hx : ∀ i, i < len → ∀ w, (part elem xs (i * n)).run P w = .ok (x i) w) (hy : ∀ i, i < len → ∀ w, (part elem ys (i * n)).run P w = .ok (y i) w)
    (he : ∀ i, i < len → ∀ w, (Op.equalIn d elem (x i) (y i)).run P w = .ok (q i) w) (w : World) :
    (Op.equalIn (d + 1) t (.agg xs) (.agg ys)).run P w = .ok ((List.range len).all q) w := by
  simp only [Op.equalIn, Sem.run_bind, run_underlying ht, Result.andThen_ok, hs]
  rw [Std.Legacy.Range.forIn_eq_forIn_range']
  simp only [Std.Legacy.Range.size, Nat.sub_zero, Nat.add_sub_cancel, Nat.div_one]
  have key : ∀ (l : List Nat), (∀ i ∈ l, i < len) → ∀ w, ∃ r : Option Bool × Unit, (forIn l (none, ()) (fun i (r : Option Bool × Unit) => (do
      if !(← Op.equalIn d elem (← part elem xs (i * n)) (← part elem ys (i * n))) then return ForInStep.done (some false, ()) else return ForInStep.yield (none, ()) : Sem (ForInStep (Option Bool × Unit))))).run P w = .ok r w ∧ r.1 = (if l.all q then none else some false) := by
    intro l
    induction l with
    | nil => intro _ w; exact ⟨(none, ()), by simp, by simp⟩
    | cons i l ih =>
      intro h w
      have hi := h i (by simp)
      cases hq : q i with
      | false =>
        refine ⟨(some false, ()), ?_, by simp [hq]⟩
        simp only [List.forIn_cons, Sem.run_bind, hx i hi, hy i hi, he i hi, hq, Result.andThen_ok, Bool.not_false, if_true, Sem.run_pure]
      | true =>
        obtain ⟨r, h1, h2⟩ := ih (fun j hj => h j (by simp [hj])) w
        refine ⟨r, ?_, by simpa [hq] using h2⟩
        simp only [List.forIn_cons, Sem.run_bind, hx i hi, hy i hi, he i hi, hq, Result.andThen_ok, Bool.not_true, Bool.false_eq_true, if_false, Sem.run_pure]
        exact h1
  obtain ⟨r, h1, h2⟩ := key (List.range' 0 len) (fun i hi => by have := List.mem_range'_1.1 hi; omega) w
  rw [h1]
  obtain ⟨r1, _⟩ := r
  simp only at h2
  subst h2
  rw [← List.range_eq_range']
  cases (List.range len).all q <;> rfl
/-- An identifier's ten cells. -/
def esiL (s : Nat → Int) : List Value := [.int .u8 (s 0), .int .u8 (s 1), .int .u8 (s 2), .int .u8 (s 3), .int .u8 (s 4), .int .u8 (s 5), .int .u8 (s 6), .int .u8 (s 7), .int .u8 (s 8), .int .u8 (s 9)]
def esiB (f s : Nat → Int) : Bool := (List.range 10).all fun j => f j == s j
set_option maxRecDepth 100000 in
theorem eq_esi (f s : Nat → Int) (w : World) : (Op.equalIn 10000 24 (.agg (esiL f).toArray) (.agg (esiL s).toArray)).run Tryz.prog w = .ok (esiB f s) w := by
  refine equal_array_dec (P := Tryz.prog) 9999 24 5 10 1 _ _ (fun i => .int .u8 (f i)) (fun i => .int .u8 (s i)) (fun i => f i == s i) Tryz.underlying24 (fun w => Tryz.sizeOf5 w) ?_ ?_ ?_ w
  · intro i hi w
    match i, hi with
    | 0, _ => rfl
    | 1, _ => rfl
    | 2, _ => rfl
    | 3, _ => rfl
    | 4, _ => rfl
    | 5, _ => rfl
    | 6, _ => rfl
    | 7, _ => rfl
    | 8, _ => rfl
    | 9, _ => rfl
  · intro i hi w
    match i, hi with
    | 0, _ => rfl
    | 1, _ => rfl
    | 2, _ => rfl
    | 3, _ => rfl
    | 4, _ => rfl
    | 5, _ => rfl
    | 6, _ => rfl
    | 7, _ => rfl
    | 8, _ => rfl
    | 9, _ => rfl
  · intro i hi w
    rw [run_equalIn_int _ _ _ _ _ _ _ Tryz.underlying5]
theorem info24w : (Tryz.prog.info? 24).map (·.size) = some 10 := by kernel_rfl
/-- A segment route of an identifier. -/
def selR (s : Nat → Int) (r : RT) : Bool := (r.g 0 == 4) && esiB (fun j => r.g (2 + j)) s
theorem esi_part (r : RT) : ∃ z, r.cells = [.int .i64 (r.g 0), .int .u64 (r.g 1)] ++ esiL (fun j => r.g (2 + j)) ++ z := ⟨_, rfl⟩
end Go.Proofs.YtiellonfgcmaaaaGreat

/- The segment routes of an identifier. -/
namespace Go.Proofs.YtiellonfgcmaaaaGreat
open Go.RowKit Go.ChangeShapes

/-- What stands in the world behind a round's own copy of a route. -/
theorem copy_facts (r : RT) (s : Nat → Int) (w0 wr W2 : World) (N : Nat) (hb : Below (N + 1) w0 wr) (_hs : N + 1 ≤ wr.heap.size) (hbox : w0.rangeAt N 0 (esiL s)) (hW : W2 = wr.alloc (.cells r.cells.toArray 58)) :
    W2.cell? ⟨wr.heap.size, 0, none⟩ = some (.int .i64 (r.g 0)) ∧ W2.rangeAt wr.heap.size 0 r.cells ∧ W2.rangeAt wr.heap.size 2 (esiL fun j => r.g (2 + j)) ∧ W2.rangeAt N 0 (esiL s) ∧ W2.heap.size = wr.heap.size + 1 ∧ Below wr.heap.size wr W2 := by
  subst hW
  have g := range_new wr r.cells 58
  obtain ⟨z, hz⟩ := esi_part r
  exact ⟨g 0 _ rfl, g, rangeAt_sub g _ _ z hz 2 rfl, World.rangeAt_alloc (rangeAt_below hbox (by omega) hb) _, by simp, (Below.refl _ _).alloc (Nat.le_refl _) _⟩
theorem ownsRow_base {w : World} {base base' e size n : Nat} {v : Value} {xs : List Value} (h : w.ownsRow base e size v n xs) (hb : base' ≤ base) : w.ownsRow base' e size v n xs := by
  obtain ⟨h1, h2 | ⟨g, cap, cur, rfl, h3, h4⟩⟩ := h
  · exact ⟨h1, .inl h2⟩
  · exact ⟨h1, .inr ⟨g, cap, cur, rfl, Nat.le_trans hb h3, h4⟩⟩
set_option maxRecDepth 100000 in
set_option maxHeartbeats 1000000 in
theorem of_some (b off c : Nat) (rs : List RT) (s : Nat → Int) (w : World) (hn : rs.length ≤ 60) (hlie : Lies w b off rs) :
    Calls Tryz.prog 41 #[.slice (some ⟨b, off, none⟩) rs.length c, .agg (esiL s).toArray] w fun e w' => ∃ v, e = .returned v ∧ w'.ownsRow w.heap.size 58 38 v (rs.filter (selR s)).length ((rs.filter (selR s)).flatMap RT.cells) ∧ Below w.heap.size w w' := by
  obtain ⟨i0, hi, hz0, hz1, hz2⟩ := info_parts info58z
  have LIE := Lib.hid hlie
  obtain ⟨n, hnl⟩ : ∃ n, n = rs.length := ⟨_, rfl⟩
  rw [← hnl] at hn ⊢
  have NL := Lib.hid hnl
  clear hlie hnl
  have BOX : Hid ((w.alloc (.cells (esiL s).toArray 24)).rangeAt w.heap.size 0 (esiL s)) := range_new w (esiL s) 24
  have B0 : Hid (Below w.heap.size w (w.alloc (.cells (esiL s).toArray 24))) := (Below.refl _ _).alloc (Nat.le_refl _) _
  go_enter Tryz.func41, Tryz.ntmps41
  go_wp2
  go_loopw [5, 10] (fun v i wr => ∃ (k m : Nat), k ≤ n ∧ i = .int .i64 k ∧ m ≤ k ∧ wr.ownsRow (w.heap.size + 1) 58 38 v m (((rs.take k).filter (selR s)).flatMap RT.cells) ∧ Hid (m = ((rs.take k).filter (selR s)).length) ∧ Below (w.heap.size + 1) (w.alloc (.cells (esiL s).toArray 24)) wr) (fun _ i _ => n - (intOf i).toNat)
  case atStart => exact ⟨0, 0, Nat.zero_le _, rfl, Nat.zero_le _, World.ownsRow_nil _ _ _ _, (rfl : 0 = 0), Below.refl _ _⟩
  case round =>
    obtain ⟨k, m, hk, rfl, hmk, hown, hm, hbl⟩ := hrel
    by_cases hlt : k < n
    · obtain ⟨r, hr⟩ : ∃ r, rs[k]? = some r := ⟨_, List.getElem?_eq_getElem (by rw [← NL.out]; exact hlt)⟩
      have HR := Lib.hid hr
      have hlt' : (k : Int) < n := by omega
      have h0' : (0 : Int) ≤ k := by omega
      have bw : Below w.heap.size w wr := B0.out.trans (hbl.mono (by omega))
      have RG : wr.rangeAt b (off + k * 38) r.cells := fun j v hj => (bw.cell (by exact LIE.out.1)).trans (LIE.out.2 k j r v hr hj)
      have sz : w.heap.size + 1 ≤ wr.heap.size := by have := hbl.size; simpa using this
      have CF := Lib.hid (copy_facts r s (w.alloc (.cells (esiL s).toArray 24)) wr _ w.heap.size hbl sz BOX.out rfl)
      have m1 : m + 1 ≤ maxLen := by unfold maxLen; omega
      have m2 : (m + 1) * 224 ≤ 140737488355328 := by omega
      have HO := Lib.hid hown
      have HBL := Lib.hid hbl
      have TS : Hid (rs.take (k + 1) = rs.take k ++ [r]) := take_snoc hr
      clear hown hbl hr bw
      have EQ := fun W => eq_esi (fun j => r.g (2 + j)) s W
      by_cases q4 : r.g 0 = 4
      · have q4' : (r.g 0 == 4) = true := by simpa using q4
        cases qe : esiB (fun j => r.g (2 + j)) s with
        | true =>
          have SN : Hid (selR s r = true) := by show selR s r = true; simp [selR, q4, qe]
          rw [qe] at EQ
          clear q4 qe
          go_wp2_with (first
            | ((with_reducible show wpList _ _ _ _ _ _); first
                | (refine wpList_load_mid rfl 58 (.tmp 12) rfl b (off + k * 38) rfl r.cells _ RG Tryz.underlying58 rfl info58w ?_)
                | (refine wpList_store_new rfl rfl 58 (.tmp 7) (.tmp 13) rfl _ _ r.cells rfl rfl rfl rfl info58w r.one ?_
                   obtain ⟨c0, RG2, RE, RS, s2, b2⟩ := CF.out
                   generalize hW2 : wr.alloc (.cells r.cells.toArray 58) = W2 at c0 RG2 RE RS s2 b2 ⊢
                   clear hW2
                   have hown2 : (W2.alloc (.cells r.cells.toArray 58)).ownsRow (w.heap.size + 1) 58 38 u5 m (((rs.take k).filter (selR s)).flatMap RT.cells) := (ownsRow_below HO.out b2).alloc _
                   have hnews : ∀ j u, r.cells[j]? = some u → (W2.alloc (.cells r.cells.toArray 58)).cell? ((⟨W2.heap.size, 0, none⟩ : Addr).add j) = some u := fun j u hj => by rw [addr_add']; exact range_new W2 r.cells 58 j u hj
                   have m4 : w.heap.size + 1 ≤ (W2.alloc (.cells r.cells.toArray 58)).heap.size := by simp; omega)
                | (refine wpList_load_g rfl 24 (.tmp 20) rfl wr.heap.size 2 rfl (esiL fun j => r.g (2 + j)) _ RE Tryz.underlying24 rfl info24w ?_)
                | (refine wpList_load_g rfl 24 (.tmp 3) rfl w.heap.size 0 rfl (esiL s) _ RS Tryz.underlying24 rfl info24w ?_)
                | (refine wpList_load_mid rfl 58 (.tmp 7) rfl wr.heap.size 0 rfl r.cells _ RG2 Tryz.underlying58 rfl info58w ?_)
                | (refine wpList_sliceOf rfl 22 58 (.tmp 26) rfl r.cells rfl i0 _ Tryz.underlying22 hi hz0 hz1 (by simp [RT.len]) (by simp [RT.len]) ?_)
                | (at_builtin; refine wpList_append_own_at _ rfl (.tmp 25) (.tmp 27) 22 rfl (w.heap.size + 1) 58 i0 _ 38 224 Tryz.underlying22 hi hz0 hz1 hz2 rfl (by decide) u5 m _ rfl hown2 ⟨W2.heap.size, 0, none⟩ 1 1 r.cells rfl (by rw [RT.len]) hnews r.one m1 m2 m4 ?_; intro v' w2 hown3 hgrow hnil hat)))
          have FF : (rs.take (k + 1)).filter (selR s) = (rs.take k).filter (selR s) ++ [r] := by rw [TS.out, List.filter_append]; simp [SN.out]
          exact ⟨⟨k + 1, m + 1, by omega, by go_num, by omega, by rw [FF, List.flatMap_append]; simpa using hown3, by show m + 1 = _; rw [FF, List.length_append, ← hm.out]; rfl, (HBL.out.trans ((b2.mono sz).alloc (by omega) _)).grown hgrow m4 (fun g hg => (HO.out.lt g hg).1)⟩, by simp [intOf]; omega⟩
        | false =>
          have SN : Hid (selR s r = false) := by show selR s r = false; simp [selR, qe]
          rw [qe] at EQ
          clear q4 qe
          go_wp2_with (first
            | ((with_reducible show wpList _ _ _ _ _ _); first
                | (refine wpList_load_mid rfl 58 (.tmp 12) rfl b (off + k * 38) rfl r.cells _ RG Tryz.underlying58 rfl info58w ?_)
                | (refine wpList_store_new rfl rfl 58 (.tmp 7) (.tmp 13) rfl _ _ r.cells rfl rfl rfl rfl info58w r.one ?_
                   obtain ⟨c0, RG2, RE, RS, s2, b2⟩ := CF.out
                   generalize hW2 : wr.alloc (.cells r.cells.toArray 58) = W2 at c0 RG2 RE RS s2 b2 ⊢
                   clear hW2)
                | (refine wpList_load_g rfl 24 (.tmp 20) rfl wr.heap.size 2 rfl (esiL fun j => r.g (2 + j)) _ RE Tryz.underlying24 rfl info24w ?_)
                | (refine wpList_load_g rfl 24 (.tmp 3) rfl w.heap.size 0 rfl (esiL s) _ RS Tryz.underlying24 rfl info24w ?_)))
          have FF : (rs.take (k + 1)).filter (selR s) = (rs.take k).filter (selR s) := by rw [TS.out, List.filter_append]; simp [SN.out]
          exact ⟨⟨k + 1, m, by omega, by go_num, by omega, by rw [FF]; exact ownsRow_below HO.out b2, by show m = _; rw [FF]; exact hm.out, HBL.out.trans (b2.mono sz)⟩, by simp [intOf]; omega⟩
      · have q4' : (r.g 0 == 4) = false := by simpa using q4
        have SN : Hid (selR s r = false) := by show selR s r = false; simp [selR, q4]
        clear q4 EQ
        go_wp2_with (first
          | ((with_reducible show wpList _ _ _ _ _ _); first
              | (refine wpList_load_mid rfl 58 (.tmp 12) rfl b (off + k * 38) rfl r.cells _ RG Tryz.underlying58 rfl info58w ?_)
              | (refine wpList_store_new rfl rfl 58 (.tmp 7) (.tmp 13) rfl _ _ r.cells rfl rfl rfl rfl info58w r.one ?_
                 obtain ⟨c0, RG2, RE, RS, s2, b2⟩ := CF.out
                 generalize hW2 : wr.alloc (.cells r.cells.toArray 58) = W2 at c0 RG2 RE RS s2 b2 ⊢
                 clear hW2)))
        have FF : (rs.take (k + 1)).filter (selR s) = (rs.take k).filter (selR s) := by rw [TS.out, List.filter_append]; simp [SN.out]
        exact ⟨⟨k + 1, m, by omega, by go_num, by omega, by rw [FF]; exact ownsRow_below HO.out b2, by show m = _; rw [FF]; exact hm.out, HBL.out.trans (b2.mono sz)⟩, by simp [intOf]; omega⟩
    · obtain rfl : k = n := by omega
      go_wp2
      go_ret
      have h1 := hm.out
      rw [NL.out, List.take_length] at h1 hown
      subst h1
      exact ⟨_, rfl, ownsRow_base hown (by omega), B0.out.trans (hbl.mono (by omega))⟩
set_option maxRecDepth 100000 in
theorem of_none (A : Option Addr) (c : Nat) (s : Nat → Int) (w : World) :
    Calls Tryz.prog 41 #[.slice A 0 c, .agg (esiL s).toArray] w fun e w' => e = .returned (.slice none 0 0) ∧ Below w.heap.size w w' := by
  go_enter Tryz.func41, Tryz.ntmps41
  go_wp2
  refine wp_loop_rounds 1 ?_
  rw [rounds_succ]
  go_wp2
  go_ret
  exact ⟨rfl, (Below.refl _ _).alloc (Nat.le_refl _) _⟩
/-- Routes that a slice reads as. -/
def Routes (w : World) (A : Option Addr) (rs : List RT) : Prop := rs = [] ∨ ∃ b off, A = some ⟨b, off, none⟩ ∧ Lies w b off rs
theorem Routes.below {w w' : World} {A : Option Addr} {rs : List RT} (h : Routes w A rs) (hb : Below w.heap.size w w') : Routes w' A rs := by
  rcases h with h | ⟨b, off, h1, h2⟩
  · exact .inl h
  · exact .inr ⟨b, off, h1, h2.below hb⟩
theorem of_any (A : Option Addr) (c : Nat) (rs : List RT) (s : Nat → Int) (w : World) (hn : rs.length ≤ 60) (h : Routes w A rs) :
    Calls Tryz.prog 41 #[.slice A rs.length c, .agg (esiL s).toArray] w fun e w' => ∃ v, e = .returned v ∧ w'.ownsRow w.heap.size 58 38 v (rs.filter (selR s)).length ((rs.filter (selR s)).flatMap RT.cells) ∧ Below w.heap.size w w' := by
  rcases h with rfl | ⟨b, off, rfl, h⟩
  · exact (of_none A c s w).mono fun e w' ⟨h1, h2⟩ => ⟨_, h1, World.ownsRow_nil _ _ _ _, h2⟩
  · exact of_some b off c rs s w hn h
/-- What a row of routes reads as. -/
theorem routes_of_row {w : World} {base : Nat} {v : Value} {fs : List RT} (h : w.ownsRow base 58 38 v fs.length (fs.flatMap RT.cells)) : ∃ A c, v = .slice A fs.length c ∧ Routes w A fs := by
  rcases h.2 with ⟨rfl, hz⟩ | ⟨g, cap, cur, rfl, hg, hh, hnc, _⟩
  · exact ⟨none, 0, by rw [hz], .inl (List.eq_nil_of_length_eq_zero hz)⟩
  · refine ⟨_, _, rfl, .inr ⟨g, 0, rfl, (h.lt g rfl).2, fun i j r u hi hj => ?_⟩⟩
    have hjl : j < 38 := by have := (List.getElem?_eq_some_iff.1 hj).1; rwa [r.len] at this
    have hil : i < fs.length := (List.getElem?_eq_some_iff.1 hi).1
    have := h.cellAt (i * 38 + j) (by omega)
    rw [flat_at 38 RT.len hi hjl] at this
    rw [Nat.zero_add, this]; exact hj
end Go.Proofs.YtiellonfgcmaaaaGreat
