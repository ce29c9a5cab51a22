/- The abstract evaluator 'Ce': regions that draw their order: one step, whichever operation is taken. -/
import Derived.Test.YtiellonfgcmaaaaGreatCeU
set_option linter.unusedVariables false
set_option linter.unusedSimpArgs false
set_option linter.unusedSectionVars false
namespace Go.Ce
variable {P : Program}

/-- The names below l alone. -/
def cut (φ : PM) (l : Nat) : PM := fun n => if n < l then φ n else none

theorem cut_some {φ : PM} {l n : Nat} {y : Nat × Nat} (h : cut φ l n = some y) : n < l ∧ φ n = some y := by
  unfold cut at h
  split at h
  · rename_i hl; exact ⟨hl, h⟩
  · cases h
theorem cut_of {φ : PM} {l n : Nat} {y : Nat × Nat} (hl : n < l) (h : φ n = some y) : cut φ l n = some y := by unfold cut; rw [if_pos hl]; exact h
theorem cut_le {φ : PM} {l l' : Nat} (h : l ≤ l') : Ext (cut φ l) (cut φ l') := fun _ _ hy => cut_of (Nat.lt_of_lt_of_le (cut_some hy).1 h) (cut_some hy).2
theorem cut_ext {φ φ' : PM} {l : Nat} (h : Ext φ φ') : Ext (cut φ l) (cut φ' l) := fun _ _ hy => cut_of (cut_some hy).1 (h _ _ (cut_some hy).2)
theorem cut_sub {φ : PM} {l : Nat} : Ext (cut φ l) φ := fun _ _ hy => (cut_some hy).2
theorem cut_fresh {φ : PM} {l : Nat} : Fresh (cut φ l) l := fun n hn => by unfold cut; rw [if_neg (by omega)]

structure Inv (nt : Nat) (st : Nat → St) (ev : Nat → Ev) (m : Nat) (φ0 : PM) (w0 : World) (a0 : Act) (S : Nat → Bool) (φ : PM) (a : Act) (w : World) : Prop where
  blk : ∀ n b l, oH st ev S m n = (some b, l) → BR (cut φ l) w n b.b
  inj : ∀ n k y z bn bk ln lk, oH st ev S m n = (some bn, ln) → oH st ev S m k = (some bk, lk) → φ n = some y → φ k = some z → y.1 = z.1 → n = k
  off : ∀ k, k < m → S k = false → ∀ n, (st k).x ≤ n → n < (st (k + 1)).x → φ n = none
  dom : ∀ n, n < (st 0).x ∨ (st m).x ≤ n → φ n = φ0 n
  ext : Ext φ0 φ
  frame : ∀ b, b < w0.heap.size → (∀ n y, ((st 0).H.get n).isSome = true → φ0 n = some y → y.1 ≠ b) → w.heap[b]? = w0.heap[b]?
  live : ∀ n b l y, oH st ev S m n = (some b, l) → φ n = some y → w0.heap.size ≤ y.1 ∨ ∃ k z, ((st 0).H.get k).isSome = true ∧ φ0 k = some z ∧ z.1 = y.1
  size : w0.heap.size ≤ w.heap.size
  os : w.os = w0.os
  tape : w.tape = w0.tape
  output : w.output = w0.output
  old : ∀ n b l, n < (st 0).x → oH st ev S m n = (some b, l) → ((st 0).H.get n).isSome = true
  ver : ∀ n b b' l, (st 0).H.get n = some b → oH st ev S m n = (some b', l) → b.v ≤ b'.v ∧ (b.v = b'.v → b' = b)
  same : ∀ n b b' l y, (st 0).H.get n = some b → oH st ev S m n = (some b', l) → b.v = b'.v → φ0 n = some y → w.heap[y.1]? = w0.heap[y.1]?
  tsize : a.tmps.size = nt
  tval : ∀ t u l, oT st ev S m t = (some u, l) → VR (cut φ l) u (a.tmps.getD t undef)
  defers : a.defers = a0.defers

/-- One more. -/
def more (S : Nat → Bool) (i : Nat) : Nat → Bool := fun k => if k = i then true else S k
theorem more_self {S : Nat → Bool} {i : Nat} : more S i i = true := if_pos rfl
theorem more_ne {S : Nat → Bool} {i k : Nat} (h : k ≠ i) : more S i k = S k := if_neg h

section
variable {E : Env} {rec : Rec} {nt km : Nat} {ops : Array Oper} {bef : Nat → Nat} {st : Nat → St} {rr : Nat → List Rcd} {ev : Nat → Ev} {m : Nat}

theorem dH_mem {k n : Nat} (h : (dH' st ev k n).isSome = true) : ∃ ob, (n, ob) ∈ (ev k).d := by
  unfold dH' at h
  cases hd : dget (ev k).d n with
  | none => rw [hd] at h; cases h
  | some ob => exact ⟨ob, dget_mem hd⟩

/-- What is known when i is to be taken: what it must stand behind has been taken, and so for all that have been taken. -/
structure Rdy (bef : Nat → Nat) (m : Nat) (S : Nat → Bool) (i : Nat) : Prop where
  lt : i < m
  off : S i = false
  ahead : ∀ j, Nat.testBit (bef i) j = true → S j = true
  cl : ∀ k, k < m → S k = true → ∀ j, Nat.testBit (bef k) j = true → S j = true

theorem Rdy.not {S : Nat → Bool} {i k : Nat} (h : Rdy bef m S i) (hk : k < m) (hb : Nat.testBit (bef k) i = true) : S k = false := by
  cases hs : S k with
  | false => rfl
  | true => have := h.cl k hk hs i hb; rw [h.off] at this; cases this

theorem d_mem (hev : ∀ k, k < m → EvOk E rec nt km ops bef st rr k (ev k)) {i n : Nat} {ob : Option Blk} (hi : i < m) (h : (n, ob) ∈ (ev i).d) : ob = (ev i).q.get n ∧ (n ∈ (ev i).p.keys [] ∨ ((st i).x ≤ n ∧ ((ev i).q.get n).isSome = true)) := by
  have he := hev i hi
  cases hw : (ev i).w with
  | true => rw [(he.run hw).2.2] at h; exact rcd_mem h
  | false => rw [(he.off hw).2.1] at h; cases h

theorem d_not (hev : ∀ k, k < m → EvOk E rec nt km ops bef st rr k (ev k)) {i n : Nat} (hi : i < m) (hn : n ∈ (ev i).p.keys []) (h : dget (ev i).d n = none) : ∃ b b', (ev i).p.get n = some b ∧ (ev i).q.get n = some b' ∧ b.v = b'.v := by
  have he := hev i hi
  have h2 := dget_none h
  cases hw : (ev i).w with
  | true => rw [(he.run hw).2.2] at h2; exact rcd_not hn h2
  | false => rw [(he.off hw).2.2.2.2.1] at hn; cases hn

/-- What i looks at stands as in the order of the text. -/
theorem foot_text (hev : ∀ k, k < m → EvOk E rec nt km ops bef st rr k (ev k)) {S : Nat → Bool} {i n : Nat} (hr : Rdy bef m S i) (hn : n ∈ (ev i).p.keys []) : oH st ev S m n = oH st ev (fun _ => true) i n := by
  unfold oH
  rw [ov_cut (i := i) (by have := hr.lt; omega) fun k h1 h2 h3 => ?_]
  · refine ov_agree fun k hk h3 => ?_
    exact hr.ahead k (conf hev hk hr.lt (.inl ⟨dH_mem h3, hn⟩))
  · by_cases e : k = i
    · rw [e]; exact hr.off
    · exact hr.not h2 (conf hev (by omega) h2 (.inr ⟨dH_mem h3, hn⟩))

theorem foot_get (hev : ∀ k, k < m → EvOk E rec nt km ops bef st rr k (ev k)) {S : Nat → Bool} {i n : Nat} {b : Blk} (h0 : KOk km (st 0)) (hr : Rdy bef m S i) (h : (ev i).p.get n = some b) : ∃ l, oH st ev S m n = (some b, l) ∧ l ≤ (st i).x := by
  have hle : i ≤ m := by have := hr.lt; omega
  have h1 := ((text_ok hev h0 hle).2.1 n b ((hev i hr.lt).sub n b h))
  have h2 := foot_text hev hr (Tr.get_keys h)
  refine ⟨(oH st ev (fun _ => true) i n).2, ?_, oH_lvl hev _ n hle⟩
  rw [h2, ← h1]

/-- What i writes is not written by a later one that has been taken. -/
theorem d_last (hev : ∀ k, k < m → EvOk E rec nt km ops bef st rr k (ev k)) {S : Nat → Bool} {i n : Nat} (hr : Rdy bef m S i) (hq : ∀ n, ((ev i).q.get n).isSome = true → n < (st (i + 1)).x) {ob : Option Blk} (hn : (n, ob) ∈ (ev i).d) {k : Nat} (hik : i < k) (hk : k < m) (hd : (dH' st ev k n).isSome = true) : S k = false := by
  obtain ⟨ob', hn'⟩ := dH_mem hd
  rcases (d_mem hev hk hn').2 with h1 | ⟨h1, _⟩
  · exact hr.not hk (conf hev hik hk (.inl ⟨⟨ob, hn⟩, h1⟩))
  · rcases (d_mem hev hr.lt hn).2 with h2 | ⟨_, h2⟩
    · exact hr.not hk (conf hev hik hk (.inr ⟨⟨ob', hn'⟩, h2⟩))
    · have h3 := hq n h2
      have h4 := x_mono hev (i := i + 1) (j := k) (by omega) (by omega)
      omega

/-- Where what stands at a name comes from, once i has been taken. -/
theorem after_get (hev : ∀ k, k < m → EvOk E rec nt km ops bef st rr k (ev k)) {S : Nat → Bool} {i n : Nat} (h0 : KOk km (st 0)) (hr : Rdy bef m S i) (hq : ∀ n, ((ev i).q.get n).isSome = true → n < (st (i + 1)).x)
    (hver : ∀ n b b', (ev i).p.get n = some b → (ev i).q.get n = some b' → b.v = b'.v → b' = b) {b : Blk} {l : Nat} (h : oH st ev (more S i) m n = (some b, l)) :
    ((ev i).q.get n = some b ∧ l = (st (i + 1)).x) ∨ (oH st ev S m n = (some b, l) ∧ (ev i).p.get n = some b ∧ (ev i).q.get n = some b) ∨ (oH st ev S m n = (some b, l) ∧ n ∉ (ev i).p.keys []) := by
  cases hd : dget (ev i).d n with
  | some ob =>
    have hmem := dget_mem hd
    have h1 : oH st ev (more S i) m n = (ob, (st (i + 1)).x) := by
      unfold oH
      refine ov_last hr.lt more_self (by unfold dH'; rw [hd]; rfl) fun k h1 h2 h3 => ?_
      rw [more_ne (by omega)]
      exact d_last hev hr hq hmem h1 h2 h3
    rw [h1] at h
    cases h
    exact .inl ⟨(d_mem hev hr.lt hmem).1.symm, rfl⟩
  | none =>
    have h1 : oH st ev (more S i) m n = oH st ev S m n := by
      unfold oH
      refine ov_agree fun k hk h3 => ?_
      by_cases e : k = i
      · subst e; unfold dH' at h3; rw [hd] at h3; cases h3
      · exact more_ne e
    rw [h1] at h
    by_cases hn : n ∈ (ev i).p.keys []
    · obtain ⟨b0, b', hp, hq', hv⟩ := d_not hev hr.lt hn hd
      obtain ⟨l', h2, _⟩ := foot_get hev h0 hr hp
      rw [h2] at h
      cases h
      have := hver n _ _ hp hq' hv
      subst this
      exact .inr (.inl ⟨h2, hp, hq'⟩)
    · exact .inr (.inr ⟨h, hn⟩)

/-- One more operation has been taken. -/
theorem inv_step (hev : ∀ k, k < m → EvOk E rec nt km ops bef st rr k (ev k)) {S : Nat → Bool} {i : Nat} {φ0 φ φi : PM} {w0 w w' : World} {a0 a : Act} {val : Value} (h0 : KOk km (st 0)) (hb0 : ∀ n, ((st 0).H.get n).isSome = true → n < (st 0).x) (hr : Rdy bef m S i)
    (htext : ∀ i j x y, ops[j]? = some x → ops[i]? = some y → j < i → Nat.testBit (bef i) j = true ∨ apartT ops x y = true)
    (hI : Inv nt st ev m φ0 w0 a0 S φ a w) (hst : Step (cut φ (st i).x) (ev i).p.get (st i).x w φi (ev i).q.get (st (i + 1)).x w') (hv : VR φi (ev i).v val) :
    ∃ φ', Inv nt st ev m φ0 w0 a0 (more S i) φ' (a.put (ev i).o.dst val) w' := by
  have hi := hr.lt
  have he := hev i hi
  have hxi : (st i).x ≤ (st (i + 1)).x := he.le
  have hq : ∀ n, ((ev i).q.get n).isSome = true → n < (st (i + 1)).x := hst.rel.bnd
  have hver : ∀ n b b', (ev i).p.get n = some b → (ev i).q.get n = some b' → b.v = b'.v → b' = b := fun n b b' hp hq' e => (hst.ver n b b' hp hq').2 e
  let φ' : PM := fun n => if (st i).x ≤ n ∧ n < (st (i + 1)).x then φi n else φ n
  have hin : ∀ n, (st i).x ≤ n → n < (st (i + 1)).x → φ' n = φi n := fun n h1 h2 => if_pos ⟨h1, h2⟩
  have hout : ∀ n, ¬ ((st i).x ≤ n ∧ n < (st (i + 1)).x) → φ' n = φ n := fun n h => if_neg h
  have hext : Ext φ φ' := fun n y hy => by
    by_cases h : (st i).x ≤ n ∧ n < (st (i + 1)).x
    · rw [hI.off i hi hr.off n h.1 h.2] at hy; cases hy
    · rw [hout n h]; exact hy
  have hcut : ∀ n y, φi n = some y → cut φ' (st (i + 1)).x n = some y := fun n y hy => by
    by_cases h1 : n < (st i).x
    · rw [hst.dom n (.inl h1)] at hy
      exact cut_of (by omega) (by rw [hout n (by omega)]; exact (cut_some hy).2)
    · by_cases h2 : n < (st (i + 1)).x
      · exact cut_of h2 (by rw [hin n (by omega) h2]; exact hy)
      · rw [hst.dom n (.inr (by omega))] at hy
        have := (cut_some hy).1
        omega
  have hphi : ∀ n, n < (st (i + 1)).x → ∀ y, φ' n = some y → φi n = some y := fun n hn y hy => by
    by_cases h1 : (st i).x ≤ n
    · rw [hin n h1 hn] at hy; exact hy
    · rw [hout n (by omega)] at hy
      rw [hst.dom n (.inl (by omega))]
      exact cut_of (by omega) hy
  have hget := fun {n : Nat} {b : Blk} {l : Nat} (h : oH st ev (more S i) m n = (some b, l)) => after_get hev h0 hr hq hver h
  have hfoot := fun {n : Nat} {b : Blk} (h : (ev i).p.get n = some b) => foot_get hev h0 hr h
  -- a block that i neither sees nor leaves
  have hfar : ∀ {n b l y}, oH st ev S m n = (some b, l) → n ∉ (ev i).p.keys [] → φ n = some y → ∀ k z, ((ev i).p.get k).isSome = true → cut φ (st i).x k = some z → z.1 ≠ y.1 := by
    intro n b l y hn hnot hy k z hk hz e
    obtain ⟨bk, hbk⟩ := Option.isSome_iff_exists.1 hk
    obtain ⟨lk, hlk, _⟩ := hfoot hbk
    have := hI.inj k n z y bk b lk l hlk hn (cut_some hz).2 hy e
    subst this
    exact hnot (Tr.get_keys hbk)
  have hold : ∀ {n b l}, oH st ev S m n = (some b, l) → ∃ y, φ n = some y ∧ y.1 < w.heap.size := by
    intro n b l hn
    obtain ⟨y, o, hy, ho⟩ := (hI.blk n b l hn).known
    exact ⟨y, (cut_some hy).2, (Array.getElem?_eq_some_iff.1 ho).1⟩
  have hx0 : (st 0).x ≤ (st i).x := x_mono hev (by omega) (by omega)
  have hxm : (st (i + 1)).x ≤ (st m).x := x_mono hev (by omega) (by omega)
  refine ⟨φ', ⟨?blk, ?inj, ?off, ?dom, hI.ext.trans hext, ?frame, ?live, Nat.le_trans hI.size hst.size, hst.os.trans hI.os, hst.tape.trans hI.tape, hst.output.trans hI.output, ?old, ?ver, ?same, ?tsize, ?tval, ?defers⟩⟩
  case blk =>
    intro n b l h
    rcases hget h with ⟨hqn, rfl⟩ | ⟨hn, hp, hqn⟩ | ⟨hn, hnot⟩
    · exact (hst.rel.blk n b hqn).kept hcut fun _ _ => rfl
    · refine (hI.blk n b l hn).kept (cut_ext hext) fun y hy => ?_
      obtain ⟨l', hl', hle⟩ := hfoot hp
      rw [hl'] at hn
      cases hn
      exact hst.same n b b y hp hqn rfl (cut_le hle _ _ hy)
    · refine (hI.blk n b l hn).kept (cut_ext hext) fun y hy => ?_
      obtain ⟨y', hy', hlt⟩ := hold hn
      obtain rfl := Option.some.inj (hy'.symm.trans (cut_some hy).2)
      exact hst.frame y'.1 hlt fun k z hk hz => hfar hn hnot hy' k z hk hz
  case inj =>
    -- each is a name of what i leaves, or far from it
    have hcl : ∀ {n b l}, oH st ev (more S i) m n = (some b, l) → (∃ b', (ev i).q.get n = some b') ∨ (oH st ev S m n = (some b, l) ∧ n ∉ (ev i).p.keys []) := by
      intro n b l h
      rcases hget h with ⟨hqn, _⟩ | ⟨_, _, hqn⟩ | ⟨hn, hnot⟩
      · exact .inl ⟨b, hqn⟩
      · exact .inl ⟨b, hqn⟩
      · exact .inr ⟨hn, hnot⟩
    have hfphi : ∀ {n b l y}, oH st ev S m n = (some b, l) → φ' n = some y → φ n = some y := by
      intro n b l y hn hy
      obtain ⟨y', hy', _⟩ := hold hn
      have := hext _ _ hy'
      rw [this] at hy; rw [hy', hy]
    have hmix : ∀ {n k y z b b' l'}, (ev i).q.get n = some b → oH st ev S m k = (some b', l') → k ∉ (ev i).p.keys [] → φ' n = some y → φ' k = some z → y.1 ≠ z.1 := by
      intro n k y z b b' l' hn hk hnot hy hz e
      have hz' := hfphi hk hz
      obtain ⟨z', hz'', hlt⟩ := hold hk
      rw [hz'] at hz''; cases hz''
      have hy' := hphi n (hq n (by rw [hn]; rfl)) y hy
      rcases hst.live n y (by rw [hn]; rfl) hy' with h1 | ⟨j, u, hj, hu, e2⟩
      · omega
      · exact hfar hk hnot hz' j u hj hu (e2.trans e)
    intro n k y z bn bk ln lk hn hk hy hz e
    rcases hcl hn with ⟨b1, h1⟩ | ⟨h1, h1'⟩ <;> rcases hcl hk with ⟨b2, h2⟩ | ⟨h2, h2'⟩
    · exact hst.rel.inj n k y z (by rw [h1]; rfl) (by rw [h2]; rfl) (hphi n (hq n (by rw [h1]; rfl)) y hy) (hphi k (hq k (by rw [h2]; rfl)) z hz) e
    · exact absurd e (hmix h1 h2 h2' hy hz)
    · exact absurd e.symm (hmix h2 h1 h1' hz hy)
    · exact hI.inj n k y z bn bk ln lk h1 h2 (hfphi h1 hy) (hfphi h2 hz) e
  case off =>
    intro k hk hs n h1 h2
    have hne : k ≠ i := fun e => by subst e; rw [more_self] at hs; cases hs
    rw [more_ne hne] at hs
    rw [hout n ?_]
    · exact hI.off k hk hs n h1 h2
    · rcases Nat.lt_or_ge k i with h | h
      · have := x_mono hev (i := k + 1) (j := i) (by omega) (by omega); omega
      · have := x_mono hev (i := i + 1) (j := k) (by omega) (by omega); omega
  case dom =>
    intro n hn
    rw [hout n (by omega)]
    exact hI.dom n hn
  case frame =>
    intro b hb hnot
    rw [hst.frame b (Nat.lt_of_lt_of_le hb hI.size) fun k z hk hz e => ?_]
    · exact hI.frame b hb hnot
    · obtain ⟨bk, hbk⟩ := Option.isSome_iff_exists.1 hk
      obtain ⟨lk, hlk, _⟩ := hfoot hbk
      rcases hI.live k bk lk z hlk (cut_some hz).2 with h1 | ⟨j, u, hj, hu, e2⟩
      · omega
      · exact hnot j u hj hu (e2.trans e)
  case live =>
    intro n b l y hn hy
    have hA : ∀ {b'}, (ev i).q.get n = some b' → w0.heap.size ≤ y.1 ∨ ∃ k z, ((st 0).H.get k).isSome = true ∧ φ0 k = some z ∧ z.1 = y.1 := by
      intro b' hqn
      rcases hst.live n y (by rw [hqn]; rfl) (hphi n (hq n (by rw [hqn]; rfl)) y hy) with h1 | ⟨j, u, hj, hu, e2⟩
      · exact .inl (Nat.le_trans hI.size h1)
      · obtain ⟨bj, hbj⟩ := Option.isSome_iff_exists.1 hj
        obtain ⟨lj, hlj, _⟩ := hfoot hbj
        rw [← e2]
        exact hI.live j bj lj u hlj (cut_some hu).2
    rcases hget hn with ⟨hqn, _⟩ | ⟨_, _, hqn⟩ | ⟨h1, _⟩
    · exact hA hqn
    · exact hA hqn
    · obtain ⟨y', hy', _⟩ := hold h1
      have := hext _ _ hy'
      rw [this] at hy; cases hy
      exact hI.live n b l y h1 hy'
  case old =>
    intro n b l hn h
    rcases hget h with ⟨hqn, _⟩ | ⟨h1, _, _⟩ | ⟨h1, _⟩
    · have := hst.old n (by omega) (by rw [hqn]; rfl)
      obtain ⟨bp, hbp⟩ := Option.isSome_iff_exists.1 this
      obtain ⟨lp, hlp, _⟩ := hfoot hbp
      exact hI.old n bp lp hn hlp
    · exact hI.old n b l hn h1
    · exact hI.old n b l hn h1
  case ver =>
    intro n b b' l hb h
    rcases hget h with ⟨hqn, _⟩ | ⟨h1, _, _⟩ | ⟨h1, _⟩
    · have hn := hb0 n (by rw [hb]; rfl)
      have := hst.old n (by omega) (by rw [hqn]; rfl)
      obtain ⟨bp, hbp⟩ := Option.isSome_iff_exists.1 this
      obtain ⟨lp, hlp, _⟩ := hfoot hbp
      have v1 := hI.ver n b bp lp hb hlp
      have v2 := hst.ver n bp b' hbp hqn
      refine ⟨Nat.le_trans v1.1 v2.1, fun e => ?_⟩
      rw [v2.2 (by omega), v1.2 (by omega)]
    · exact hI.ver n b b' l hb h1
    · exact hI.ver n b b' l hb h1
  case same =>
    intro n b b' l y hb h e hy
    have hyφ := hI.ext _ _ hy
    have hn := hb0 n (by rw [hb]; rfl)
    rcases hget h with ⟨hqn, _⟩ | ⟨h1, hp, hqn⟩ | ⟨h1, hnot⟩
    · have := hst.old n (by omega) (by rw [hqn]; rfl)
      obtain ⟨bp, hbp⟩ := Option.isSome_iff_exists.1 this
      obtain ⟨lp, hlp, _⟩ := hfoot hbp
      have v1 := hI.ver n b bp lp hb hlp
      have v2 := hst.ver n bp b' hbp hqn
      rw [hst.same n bp b' y hbp hqn (by omega) (cut_of (by omega) hyφ), hI.same n b bp lp y hb hlp (by omega) hy]
    · rw [hst.same n b' b' y hp hqn rfl (cut_of (by omega) hyφ), hI.same n b b' l y hb h1 e hy]
    · obtain ⟨y', hy', hlt⟩ := hold h1
      rw [hyφ] at hy'; cases hy'
      rw [hst.frame y.1 hlt fun k z hk hz => hfar h1 hnot hyφ k z hk hz, hI.same n b b' l y hb h1 e hy]
  case tsize =>
    rw [← hI.tsize]
    cases (ev i).o.dst with
    | none => rfl
    | some d => simp [Act.put]
  case tval =>
    intro t u l h
    have hput := putA_known he.put (text_ok hev h0 (k := i) (by omega)).1
    by_cases hd : (ev i).o.dst = some t
    · have h1 : oT st ev (more S i) m t = (some (ev i).v, (st (i + 1)).x) := by
        unfold oT
        refine ov_last hi more_self (by unfold dT'; rw [if_pos hd]) fun k h1 h2 h3 => ?_
        rw [more_ne (by omega)]
        have hdk : (ev k).o.dst = some t := by
          unfold dT' at h3
          split at h3
          · assumption
          · cases h3
        rcases htext k i _ _ he.o (hev k h2).o h1 with hb | hap
        · exact hr.not h2 hb
        · exact absurd hdk ((apartT_ok hap).1 t hd).2
      rw [h1] at h
      cases h
      have hlt : t < a.tmps.size := by rw [hI.tsize]; exact hput.2.2.1 t hd
      have : (a.put (ev i).o.dst val).tmps.getD t undef = val := by
        rw [hd]
        show (a.tmps.setIfInBounds t val).getD t undef = val
        simp [Array.getD, hlt]
      rw [this]
      exact hv.mono hcut
    · have h1 : oT st ev (more S i) m t = oT st ev S m t := by
        unfold oT
        refine ov_agree fun k hk h3 => ?_
        by_cases e : k = i
        · subst e; unfold dT' at h3; rw [if_neg hd] at h3; cases h3
        · exact more_ne e
      rw [h1] at h
      have h2 := (hI.tval t u l h).mono (cut_ext hext)
      have : (a.put (ev i).o.dst val).tmps.getD t undef = a.tmps.getD t undef := by
        cases hdd : (ev i).o.dst with
        | none => rfl
        | some d =>
          show (a.tmps.setIfInBounds d val).getD t undef = _
          rw [Array.getD_eq_getD_getElem?, Array.getD_eq_getD_getElem?, Array.getElem?_setIfInBounds, if_neg (fun e => hd (by rw [hdd, e]))]
      rw [this]
      exact h2
  case defers =>
    rw [← hI.defers]
    cases (ev i).o.dst <;> rfl

end

end Go.Ce
