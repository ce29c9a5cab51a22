/- The abstract evaluator 'Ce': a call from outside that the evaluator carries out to 'true' returns true, and nothing that was there has turned. -/
import Derived.Test.YtiellonfgcmaaaaGreatCeW
import Derived.Below
import Derived.Laws.Externs
import Derived.Lib.MakeNoZero
set_option linter.unusedVariables false
set_option linter.unusedSimpArgs false
set_option linter.unusedSectionVars false
namespace Go.Ce
open Go.RowKit
variable {P : Program}

theorem empty_rel (w : World) : Rel (fun _ => none) (Tr.e : Hp).get 0 w :=
  ⟨fun n b h => by simp [Tr.get, Tr.find_e] at h, fun n m y z h => by simp [Tr.get, Tr.find_e] at h, fun n h => by simp [Tr.get, Tr.find_e] at h⟩

theorem isTrue_ok {r : O3} (h : isTrue r = true) : ∃ H x, r = .ok (.bool true) H x := by
  unfold isTrue at h
  split at h
  · exact ⟨_, _, rfl⟩
  · cases h

/-- A function without parameters, which the evaluator carries out to 'true'. -/
theorem closed {E : Env} (hm : P.follows .mixedOrders = true) (hE : E.P = P) (hxt : XtOk E) {k : Nat} {f : FuncId} (hs : specOf f E.xt = none) (hfk : hasF f E.fk = false) (h : isTrue (runA E k f []) = true) (w : World) :
    Calls P f #[] w fun e w' => e = .returned (.bool true) ∧ Below w.heap.size w w' := by
  obtain ⟨H, x, hr⟩ := isTrue_ok h
  unfold runA callA at hr
  rw [hs] at hr
  have hr : bareCallA E (ex E k) f [] .e 0 = .ok (.bool true) H x := hr
  unfold bareCallA at hr
  rw [hfk, cond_false] at hr
  have hok := (bodyCallA_ok hE (sound hm hE hxt k) (empty_rel w) (fun _ _ => rfl) (by rw [hr]; exact good_ok) .nil).2 0
  rw [hr] at hok
  have hc : CallsIn Fence.wide 0 P f #[] w _ := hok
  refine (callsIn_wide.1 hc).mono fun e w' he => ?_
  cases e with
  | panicked c => obtain ⟨v, H', x', φ', he, _⟩ := he; cases he
  | outgrown => exact he.elim
  | returned v =>
    obtain ⟨v', H', x', ⟨rfl, rfl, rfl⟩, φ', hv, hst⟩ := he
    cases hv
    exact ⟨rfl, hst.os, hst.tape, hst.output, hst.size, fun b hb => hst.frame b hb fun n y hn => by simp [Tr.get, Tr.find_e] at hn⟩

/-- internal/bytealg.MakeNoZero. -/
theorem noZero_ok {f : FuncId} {fn : Func} {t el : TypeId} {ps : Array TypeId} (hf : P.funcs[f]? = some fn) (hname : (fn.name == "runtime.NumGoroutine") = false) (hb : fn.body.isNone = true) (hn : Extern.findNext fn = none)
    (he : Extern.find fn = some (Extern.BytealgMakeNoZero.makeNoZero ps #[t])) (ht : P.underlying t = some (.slice el)) : SpecOk P f (noZeroA el) := by
  intro args vals H x v H' x' φ w ro n h r hfr ha Rp
  unfold noZeroA at h
  split at h
  · rename_i m
    obtain ⟨hle, h2⟩ := condO_ok h
    have hle := bleT hle
    obtain ⟨l, hl, rfl, rfl, rfl⟩ := toN_ok h2
    cases hl
    cases ha with
    | cons h1 h3 =>
      cases h3
      cases h1
      obtain ⟨cs, hr, h4, _⟩ := Lib.run_makeNoZero (P := P) w ps t el ht m (by omega)
      have hrun : (callFunc f ([Value.int .i64 (Int.ofNat m)].toArray)).run P w = .ok (.value (.slice (some ⟨w.heap.size, 0, none⟩) m cs.size)) (w.drew.drew.alloc (.cells cs el)) := by
        rw [run_callFunc_extern hf hname hb hn he]
        show ((Extern.BytealgMakeNoZero.makeNoZero ps #[t] #[.int .i64 (m : Int)]).run P w).andThen _ = _
        rw [hr]; rfl
      rw [hrun]
      intro o a next Q hnext _
      refine hnext _ _ ⟨φ.add x (w.heap.size, cs.size), .slice PM.add_self h4 (fun e => by cases e) (by omega), ?_⟩
      have s1 : Step φ H.get x w φ H.get x w.drew.drew := step_heap r rfl rfl rfl rfl
      have hl2 : VRs φ (repS m [.junk] []) (cs.toList.take m) := by
        rw [repS_eq, List.append_nil]
        have key : ∀ (l : List Value), VRs φ (List.replicate l.length [AV.junk]).flatten l := by
          intro l
          induction l with
          | nil => exact .nil
          | cons u l ih => exact .cons (.junk u) ih
        have := key (cs.toList.take m)
        rw [List.length_take, Array.length_toList, Nat.min_eq_left h4] at this
        exact this
      have hb2 : BR (φ.add x (w.drew.drew.heap.size, cs.size)) (w.drew.drew.alloc (.cells cs el)) x (.cells el (repS m [.junk] [])) :=
        .cells PM.add_self (C := cs) (fr := (0, 0)) (alloc_last _ _) rfl (vs := cs.toList.take m) (rest := cs.toList.drop m) (List.take_append_drop m cs.toList).symm (hl2.mono (PM.add_ext (hfr _ (Nat.le_refl _)))) (fun i _ => by simp)
      exact s1.trans (step_new s1.rel (hfr _ (Nat.le_refl _)) (.cells cs el) (.cells el (repS m [.junk] [])) cs.size hb2)
  · cases h

theorem xt_all {P : Program} {keep : List Nat} {rc fk : List FuncId} : ∀ {xt : List (FuncId × ASpec)}, (∀ q ∈ xt, SpecOk P q.1 q.2) → XtOk ⟨P, xt, keep, rc, fk⟩ := by
  intro xt hall f sp hs
  have key : ∀ {l : List (FuncId × ASpec)}, specOf f l = some sp → ∃ q ∈ l, q.1 = f ∧ q.2 = sp := by
    intro l
    induction l with
    | nil => intro h; cases h
    | cons q l ih =>
      obtain ⟨g, s⟩ := q
      intro h
      have h : (bif Nat.beq g f then some s else specOf f l) = some sp := h
      cases hg : Nat.beq g f with
      | true => rw [hg, cond_true] at h; cases h; exact ⟨_, List.mem_cons_self .., beqT hg, rfl⟩
      | false =>
        rw [hg, cond_false] at h
        obtain ⟨q, h1, h2⟩ := ih h
        exact ⟨q, List.mem_cons_of_mem _ h1, h2⟩
  obtain ⟨q, hq, rfl, rfl⟩ := key hs
  exact hall q hq

/-! ### internal/bytealg.Compare -/

theorem loadBytes_run (w : World) : ∀ (ns : List Int) (B o : Nat) (acc : ByteArray), (∀ j u, ns[j]? = some u → w.cell? ⟨B, o + j, none⟩ = some (.int .u8 u)) →
    (Extern.Bytes.loadBytes ⟨B, o, none⟩ ns.length acc).run P w = .ok (ns.foldl (fun a n => a.push n.toNat.toUInt8) acc) w := by
  intro ns
  induction ns with
  | nil => intro B o acc _; rfl
  | cons u ns ih =>
    intro B o acc h
    have h0 : w.cell? ⟨B, o, none⟩ = some (.int .u8 u) := h 0 u rfl
    have hadd : (⟨B, o, none⟩ : Addr).add 1 = ⟨B, o + 1, none⟩ := add_mk _ _ _
    have hl : (load ⟨B, o, none⟩).run P w = .ok (.int .u8 u) w := by simp [load, Sem.run, h0]
    show (Extern.Bytes.loadBytes ⟨B, o, none⟩ (ns.length + 1) acc).run P w = _
    unfold Extern.Bytes.loadBytes
    rw [Sem.run_bind, hl, Result.andThen_ok]
    dsimp only
    rw [hadd]
    exact ih B (o + 1) _ fun j v hj => by
      have := h (j + 1) v hj
      rwa [show o + (j + 1) = o + 1 + j from by omega] at this

theorem push_data (ns : List Int) : ∀ acc : ByteArray, (ns.foldl (fun a n => a.push n.toNat.toUInt8) acc).data.toList = acc.data.toList ++ ns.map fun n => UInt8.ofNat n.toNat := by
  induction ns with
  | nil => intro acc; simp
  | cons u ns ih =>
    intro acc
    rw [List.foldl_cons, ih]
    simp [ByteArray.push]

theorem bytesX_ok {φ : PM} {w : World} {H : Hp} {x : Nat} (r : Rel φ H.get x w) {a : AV} {av : Value} {l : List UInt8} (h : strOfA H a = .ok (.str l)) (ha : VR φ a av) : ∃ s : ByteArray, (Extern.Bytes.bytesOf av).run P w = .ok s w ∧ s.data.toList = l := by
  unfold strOfA at h
  split at h
  · cases h; cases ha; exact ⟨.empty, rfl, rfl⟩
  · cases h
    cases ha with
    | emptySlice a cap => exact ⟨.empty, rfl, rfl⟩
  · rename_i m o n _ _ _
    obtain ⟨l0, hl, h2⟩ := R.bind_ok h
    obtain ⟨cs, hcs, h3⟩ := R.bind_ok h2
    obtain ⟨bs, hbs, h4⟩ := R.bind_ok h3
    cases h4
    cases ha with
    | slice hφ h1 hex h3 =>
      rename_i B sz cap
      obtain ⟨e1, e2⟩ := subS_ok hcs
      obtain ⟨ver, elc, hm⟩ := cellsOf_ok hl
      obtain ⟨B', sz', C, fr, ws, rest, hφ', hbk, hs, hC, hws, hfr⟩ := r.cells hm
      rw [hφ] at hφ'; cases hφ'
      have hv := (hws.drop o).take n
      rw [← e1] at hv
      have hlen := hv.length
      rw [e2] at hlen
      obtain ⟨ns, hns, rfl⟩ := bytesOf_ok hbs hv
      have hload := loadBytes_run (P := P) w ns B o .empty (fun j u hj => by
        rw [cell_of hbk]
        have h5 : ((ws.drop o).take n)[j]? = some (.int .u8 u) := by rw [hns, List.getElem?_map, hj]; rfl
        refine get_append hC ?_
        rw [List.getElem?_take] at h5
        split at h5
        · simpa using h5
        · cases h5)
      have hn : ns.length = n := by rw [← hlen, hns, List.length_map]
      rw [hn] at hload
      exact ⟨_, hload, by rw [push_data]; simp⟩
  · cases h

theorem cmp_ok {f : FuncId} {fn : Func} (hf : P.funcs[f]? = some fn) (hname : (fn.name == "runtime.NumGoroutine") = false) (hb : fn.body.isNone = true) (hn : Extern.findNext fn = none)
    (he : Extern.find fn = some Extern.BytealgCompare.compare) : SpecOk P f cmpA := by
  intro args vals H x v H' x' φ w ro n h r hfr ha Rp
  unfold cmpA at h
  split at h
  · rename_i a b
    obtain ⟨s, hs, h2⟩ := casesO_ok h
    obtain ⟨t, ht, h3⟩ := casesO_ok h2
    split at h3
    · rename_i l m
      cases h3
      obtain ⟨av, bv, rfl, h4, h5⟩ := VRs.two ha
      obtain ⟨sa, h6, h7⟩ := bytesX_ok (P := P) r hs h4
      obtain ⟨sb, h8, h9⟩ := bytesX_ok (P := P) r ht h5
      have hrun : (callFunc f [av, bv].toArray).run P w = .ok (.value (.int .i64 (Extern.BytealgCompare.cmp sa sb))) w := by
        rw [run_callFunc_extern hf hname hb hn he]
        show ((Extern.BytealgCompare.compare #[av, bv]).run P w).andThen _ = _
        rw [show Extern.BytealgCompare.compare #[av, bv] = (do pure (goInt (Extern.BytealgCompare.cmp (← Extern.Bytes.bytesOf av) (← Extern.Bytes.bytesOf bv)))) from rfl]
        rw [Sem.run_bind, h6, Result.andThen_ok, Sem.run_bind, h8, Result.andThen_ok]
        rfl
      have e1 : (⟨l.toArray⟩ : ByteArray) = sa := by rw [← h7]
      have e2 : (⟨m.toArray⟩ : ByteArray) = sb := by rw [← h9]
      rw [hrun, e1, e2]
      intro o a next Q hnext _
      exact hnext _ _ ⟨φ, .int .., .refl r⟩
    · cases h3
  · cases h

/-! ### Calls that are known -/

def MemoGood (P : Program) (f : FuncId) (e : Memo) : Prop :=
  ∀ vals H x φ w ro n, Rel φ H.get x w → Fresh φ x → VRs φ e.args vals → sameBlks H e.blks = true → ∀ {Rp}, Goes ro n P ((callFunc f vals.toArray).run P w) (Ret φ H x w e.v H x) Rp

theorem memo_spec {f : FuncId} : ∀ {es : List Memo}, (∀ e ∈ es, MemoGood P f e) → SpecOk P f (memoA es) := by
  intro es
  induction es with
  | nil => intro _ args vals H x v H' x' φ w ro n h; cases h
  | cons e es ih =>
    intro hall args vals H x v H' x' φ w ro n h r hfr ha Rp
    have h : (Bool.rec (memoA es args H x) (Bool.rec (memoA es args H x) (.ok e.v H x) (sameBlks H e.blks)) (eqL (eqV 32) e.args args) : O3) = .ok v H' x' := h
    have hrest := fun h => ih (fun e' he' => hall e' (List.mem_cons_of_mem _ he')) args vals H x v H' x' φ w ro n h r hfr ha (Rp := Rp)
    cases h1 : eqL (eqV 32) e.args args with
    | false => rw [h1] at h; exact hrest h
    | true =>
      rw [h1] at h
      have h : (Bool.rec (memoA es args H x) (.ok e.v H x) (sameBlks H e.blks) : O3) = .ok v H' x' := h
      cases h2 : sameBlks H e.blks with
      | false => rw [h2] at h; exact hrest h
      | true =>
        rw [h2] at h
        cases h
        have := eqL_ok (eqV_ok 32) _ _ h1
        rw [← this] at ha
        exact hall e (List.mem_cons_self ..) vals H x φ w ro n r hfr ha h2

theorem heapOf_mem : ∀ {l : List (Nat × AB)} {H : Hp} {n : Nat} {b : Blk}, (heapOf l H).get n = some b → (∃ q ∈ l, q.1 = n ∧ b = ⟨0, q.2⟩) ∨ H.get n = some b := by
  intro l
  induction l with
  | nil => intro H n b h; exact .inr h
  | cons q l ih =>
    intro H n b h
    rcases ih (H := H.ins dH q.1 ⟨0, q.2⟩) h with ⟨q', h1, h2, h3⟩ | h1
    · exact .inl ⟨q', List.mem_cons_of_mem _ h1, h2, h3⟩
    · rcases Tr.get_ins h1 with ⟨h2, h3⟩ | ⟨_, h3⟩
      · exact .inl ⟨q, List.mem_cons_self .., h2.symm, h3⟩
      · exact .inr h3

theorem sameBlks_mem {H : Hp} : ∀ {l : List (Nat × AB)}, sameBlks H l = true → ∀ q ∈ l, ∃ b, H.get q.1 = some b ∧ b.b = q.2 := by
  intro l
  induction l with
  | nil => intro _ q h; cases h
  | cons a l ih =>
    intro h q hq
    have h : (Option.rec false (fun b => Bool.rec false (sameBlks H l) (eqB a.2 b.b)) (H.get a.1) : Bool) = true := h
    cases hb : H.get a.1 with
    | none => rw [hb] at h; cases h
    | some b =>
      rw [hb] at h
      obtain ⟨h1, h2⟩ := recB_ok h
      cases hq with
      | head => exact ⟨b, hb, (eqB_ok h1).symm⟩
      | tail _ hq => exact ih h2 q hq

theorem belowB_mem {x : Nat} : ∀ {l : List (Nat × AB)}, belowB x l = true → ∀ q ∈ l, q.1 < x ∧ ((∃ t m, q.2 = .cells t m ∧ allL (below x 32) m = true) ∨ ∃ m c, q.2 = .map m c ∧ belowE x m = true) := by
  intro l
  induction l with
  | nil => intro _ q h; cases h
  | cons a l ih =>
    intro h q hq
    unfold belowB at h
    obtain ⟨h1, h2⟩ := condB_ok h
    split at h2
    · rename_i t m he
      obtain ⟨h3, h4⟩ := condB_ok h2
      cases hq with
      | head => exact ⟨bltT h1, .inl ⟨t, m, he, h3⟩⟩
      | tail _ hq => exact ih h4 q hq
    · rename_i m c he
      obtain ⟨h3, h4⟩ := condB_ok h2
      cases hq with
      | head => exact ⟨bltT h1, .inr ⟨m, c, he, h3⟩⟩
      | tail _ hq => exact ih h4 q hq
    · cases h2

theorem memo_good {E : Env} (hm : P.follows .mixedOrders = true) (hE : E.P = P) (hxt : XtOk E) {k : Nat} {f : FuncId} {x0 : Nat} {e : Memo} (h : memoOk E k f x0 e = true) : MemoGood P f e := by
  intro vals H x φ w ro n r hfr ha hsame Rp
  unfold memoOk at h
  obtain ⟨hba, h⟩ := condB_ok h
  obtain ⟨hbb, h⟩ := condB_ok h
  obtain ⟨hbv, h⟩ := condB_ok h
  rw [Tr.force_eq] at h
  generalize hpe : heapOf e.blks .e = p at h
  have hpm : ∀ {n b}, p.get n = some b → ∃ q ∈ e.blks, q.1 = n ∧ b = ⟨0, q.2⟩ := by
    intro n b hn
    rw [← hpe] at hn
    rcases heapOf_mem hn with h1 | h1
    · exact h1
    · simp [Tr.get, Tr.find_e] at h1
  have hdown : ∀ n y, n < x0 → φ n = some y → cut φ x0 n = some y := fun n y hn hy => cut_of hn hy
  have hpH : ∀ n b, p.get n = some b → (H.get n).isSome = true ∧ cut φ x0 n = φ n := by
    intro n b hn
    obtain ⟨q, hq, rfl, _⟩ := hpm hn
    obtain ⟨b', hb', _⟩ := sameBlks_mem hsame q hq
    refine ⟨by rw [hb']; rfl, ?_⟩
    have hlt := (belowB_mem hbb q hq).1
    unfold cut
    rw [if_pos hlt]
  have hrel : Rel (cut φ x0) p.get x0 w := by
    refine ⟨fun n b hn => ?_, fun n m y z hn hm hy hz e => ?_, fun n hn => ?_⟩
    · obtain ⟨q, hq, rfl, rfl⟩ := hpm hn
      obtain ⟨b', hb', he'⟩ := sameBlks_mem hsame q hq
      obtain ⟨hlt, hcase⟩ := belowB_mem hbb q hq
      have hbr := r.blk _ _ hb'
      rw [he'] at hbr
      show BR (cut φ x0) w q.1 q.2
      rcases hcase with ⟨t, m, he2, hall⟩ | ⟨m, c, he2, hall⟩
      · rw [he2] at hbr ⊢
        cases hbr with
        | cells h1 h2 h3 h4 h5 h6 => exact .cells (hdown _ _ hlt h1) h2 h3 h4 (vrs_down (vr_down hdown 32) hall h5) h6
      · rw [he2] at hbr ⊢
        cases hbr with
        | map h1 h2 h3 => exact .map (hdown _ _ hlt h1) h2 (belowE_down hdown hall h3)
    · obtain ⟨bn, hbn⟩ := Option.isSome_iff_exists.1 hn
      obtain ⟨bm, hbm⟩ := Option.isSome_iff_exists.1 hm
      exact r.inj n m y z (hpH n bn hbn).1 (hpH m bm hbm).1 (cut_some hy).2 (cut_some hz).2 e
    · obtain ⟨bn, hbn⟩ := Option.isSome_iff_exists.1 hn
      obtain ⟨q, hq, rfl, _⟩ := hpm hbn
      exact (belowB_mem hbb q hq).1
  have hargs : VRs (cut φ x0) e.args vals := vrs_down (vr_down hdown 32) hba ha
  unfold memoRun at h
  split at h
  · rename_i u q y hrun
    obtain ⟨huv, hdl⟩ := condB_ok h
    have huv := eqV_ok 32 _ _ huv
    subst huv
    have hdel : deltaOld p q (p.keys []) [] = [] := by
      split at hdl
      · assumption
      · cases hdl
    obtain ⟨h1, h2⟩ := bodyCallA_ok hE (sound hm hE hxt k) hrel cut_fresh (by rw [hrun]; exact good_ok) hargs
    rw [h1 w]
    have hgo := CallOk.goes (ro := ro) (n := n) h2
    rw [hrun] at hgo
    refine (Goes.one (Rp := Rp) hgo).mono (fun val w' hr => ?_) (fun _ _ h => h)
    obtain ⟨φ1, hv, hst⟩ := hr
    refine ⟨φ, vr_down (fun n y hn hy => ?_) 32 _ _ hbv hv, step_pure r hpH hst fun n hn => unchanged hdel hn⟩
    rw [hst.dom n (.inl hn)] at hy
    exact (cut_some hy).2
  · cases h

theorem all_nil : ∀ q ∈ ([] : List (FuncId × ASpec)), SpecOk P q.1 q.2 := fun q h => by cases h
theorem all_cons {f : FuncId} {sp : ASpec} {l : List (FuncId × ASpec)} (h : SpecOk P f sp) (t : ∀ q ∈ l, SpecOk P q.1 q.2) : ∀ q ∈ (f, sp) :: l, SpecOk P q.1 q.2 := fun q hq => by
  cases hq with
  | head => exact h
  | tail _ hq => exact t q hq
theorem good_nil {f : FuncId} : ∀ e ∈ ([] : List Memo), MemoGood P f e := fun q h => by cases h
theorem good_cons {f : FuncId} {e : Memo} {l : List Memo} (h : MemoGood P f e) (t : ∀ e ∈ l, MemoGood P f e) : ∀ e' ∈ e :: l, MemoGood P f e' := fun q hq => by
  cases hq with
  | head => exact h
  | tail _ hq => exact t q hq

end Go.Ce
