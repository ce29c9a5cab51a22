/- The abstract evaluator 'Ce': regions that draw their order, whole; and the evaluator's soundness. -/
import Derived.Test.YtiellonfgcmaaaaGreatCeV
set_option linter.unusedVariables false
set_option linter.unusedSimpArgs false
set_option linter.unusedSectionVars false
namespace Go.Ce
variable {P : Program}

section
variable {E : Env} {rec : Rec} {c : Ctx} {ops : Array Oper} {bef : Nat → Nat} {st : Nat → St} {rr : Nat → List Rcd} {ev : Nat → Ev} {m : Nat}
theorem looks_text (hev : ∀ k, k < m → EvOk E rec c.nt c.km ops bef st rr k (ev k)) {S : Nat → Bool} {i t : Nat} (hr : Rdy bef m S i) (htext : ∀ i j x y, ops[j]? = some x → ops[i]? = some y → j < i → Nat.testBit (bef i) j = true ∨ apartT ops x y = true) (ht : t ∈ (ev i).o.looksAt ops) :
    oT st ev S m t = oT st ev (fun _ => true) i t := by
  have hi := hr.lt
  have hdk : ∀ {k}, (dT' st ev k t).isSome = true → (ev k).o.dst = some t := by
    intro k h3
    unfold dT' at h3
    split at h3
    · assumption
    · cases h3
  unfold oT
  rw [ov_cut (i := i) (by omega) fun k h1 h2 h3 => ?_]
  · refine ov_agree fun k hk h3 => ?_
    rcases htext i k _ _ (hev k (by omega)).o (hev i hi).o hk with hb | hap
    · exact hr.ahead k hb
    · exact absurd ht ((apartT_ok hap).1 t (hdk h3)).1
  · by_cases e : k = i
    · rw [e]; exact hr.off
    · rcases htext k i _ _ (hev i hi).o (hev k h2).o (by omega) with hb | hap
      · exact hr.not h2 hb
      · exact absurd ht ((apartT_ok hap).2 t (hdk h3))

theorem looks_val (hev : ∀ k, k < m → EvOk E rec c.nt c.km ops bef st rr k (ev k)) {S : Nat → Bool} {i t : Nat} {φ0 φ : PM} {w0 w : World} {a0 a : Act} (h0 : KOk c.km (st 0)) (hr : Rdy bef m S i) (htext : ∀ i j x y, ops[j]? = some x → ops[i]? = some y → j < i → Nat.testBit (bef i) j = true ∨ apartT ops x y = true)
    (hI : Inv c.nt st ev m φ0 w0 a0 S φ a w) (ht : t ∈ (ev i).o.looksAt ops) : VR (cut φ (st i).x) (getT (st i).L (st i).T t) (a.tmps.getD t undef) := by
  have hi := hr.lt
  rcases getT_known (st i) t with h | h
  · rw [h]; exact .junk _
  · have h1 := (text_ok hev h0 (k := i) (by omega)).2.2 t _ h
    have h2 := looks_text hev hr htext ht
    have h3 : oT st ev S m t = (some (getT (st i).L (st i).T t), (oT st ev (fun _ => true) i t).2) := by rw [h2, ← h1]
    exact (hI.tval t _ _ h3).mono (cut_le (oT_lvl hev _ t (by omega)))

theorem foot_rel (hev : ∀ k, k < m → EvOk E rec c.nt c.km ops bef st rr k (ev k)) {S : Nat → Bool} {i : Nat} {φ0 φ : PM} {w0 w : World} {a0 a : Act} (h0 : KOk c.km (st 0)) (hr : Rdy bef m S i) (hI : Inv c.nt st ev m φ0 w0 a0 S φ a w) : Rel (cut φ (st i).x) (ev i).p.get (st i).x w := by
  have hf := fun {n : Nat} {b : Blk} (h : (ev i).p.get n = some b) => foot_get hev h0 hr h
  refine ⟨fun n b hb => ?_, fun n k y z hn hk hy hz e => ?_, fun n hn => ?_⟩
  · obtain ⟨l, h1, h2⟩ := hf hb
    exact (hI.blk n b l h1).kept (cut_le h2) fun _ _ => rfl
  · obtain ⟨bn, hbn⟩ := Option.isSome_iff_exists.1 hn
    obtain ⟨bk, hbk⟩ := Option.isSome_iff_exists.1 hk
    obtain ⟨ln, h1, _⟩ := hf hbn
    obtain ⟨lk, h2, _⟩ := hf hbk
    exact hI.inj n k y z bn bk ln lk h1 h2 (cut_some hy).2 (cut_some hz).2 e
  · obtain ⟨bn, hbn⟩ := Option.isSome_iff_exists.1 hn
    obtain ⟨ln, h1, h2⟩ := hf hbn
    obtain ⟨y, o, hy, _⟩ := (hI.blk n bn ln h1).known
    have := (cut_some hy).1
    omega

/-- Taking i. -/
theorem take_ok (hev : ∀ k, k < m → EvOk E rec c.nt c.km ops bef st rr k (ev k)) {S : Nat → Bool} {i : Nat} {φ0 φ : PM} {w0 w : World} {a0 a : Act} {ro : Option Nat} {n : Nat} (hE : E.P = P) (hxt : XtOk E) (hrec : RecOk P rec) (h0 : KOk c.km (st 0)) (hb0 : ∀ n, ((st 0).H.get n).isSome = true → n < (st 0).x) (hr : Rdy bef m S i)
    (htext : ∀ i j x y, ops[j]? = some x → ops[i]? = some y → j < i → Nat.testBit (bef i) j = true ∨ apartT ops x y = true) (hI : Inv c.nt st ev m φ0 w0 a0 S φ a w) {K : Act → World → Prop} {Q : Exit → Act → World → Prop}
    (hK : ∀ a' w' φ', Inv c.nt st ev m φ0 w0 a0 (more S i) φ' a' w' → K a' w') : wpOpIn (FW ro) n P ops Q i K a w := by
  have hi := hr.lt
  have he := hev i hi
  have hval := fun {t : Nat} (ht : t ∈ (ev i).o.looksAt ops) => looks_val hev h0 hr htext hI ht
  have hwant : Region.wanted (ev i).o (yielded ops a.tmps) = (ev i).w := by
    refine wantedA_ok' (φ := cut φ (st i).x) (fun j want d hg hd => hval ?_) he.w
    unfold Oper.looksAt
    refine List.mem_append_right _ ?_
    rw [hg]
    have hd : (ops[j]?).bind (·.dst) = some d := hd
    show d ∈ ((ops[j]?).bind (·.dst)).toList
    rw [hd]
    simp
  unfold wpOpIn
  simp only [he.o]
  rw [hwant]
  cases hw : (ev i).w with
  | true =>
    rw [if_pos rfl]
    refine ⟨fun _ _ => trivial, ?_⟩
    obtain ⟨hx, _, _⟩ := he.run hw
    have hdec := Classical.propDecidable
    let ρ' : Operand → AV := fun o => if o ∈ (ev i).o.op.operands then evalT (st i).L (st i).T o else .junk
    have hρ : ∀ o, VR (cut φ (st i).x) (ρ' o) (a.eval o) := by
      intro o
      show VR (cut φ (st i).x) (if o ∈ (ev i).o.op.operands then evalT (st i).L (st i).T o else .junk) (a.eval o)
      by_cases hm : o ∈ (ev i).o.op.operands
      · rw [if_pos hm]
        cases o with
        | tmp t =>
          refine hval ?_
          unfold Oper.looksAt
          refine List.mem_append_left _ (List.mem_filterMap.2 ⟨.tmp t, by simpa using hm, rfl⟩)
        | const v => exact VR.ofVal _ v
        | global g => exact .junk _
        | func f => exact .func .nil .nil
      · rw [if_neg hm]; exact .junk _
    have hx' : execA (ev i).o.op E rec ρ' (ev i).p (st i).x = .ok (ev i).v (ev i).q (st (i + 1)).x := by
      rw [← hx]
      exact execA_congr (fun x hx => if_pos hx) _ _
    have hgo := execA_ok (ro := ro) (n := n) hE hxt hrec (foot_rel hev h0 hr hI) cut_fresh hρ (o := (ev i).o) (by rw [hx']; exact good_ok)
    rw [hx'] at hgo
    refine (Goes.one (Rp := fun _ _ => False) hgo) (ev i).o a _ _ (fun val w' hret => ?_) (fun _ _ h => h.elim)
    obtain ⟨φi, hv, hst⟩ := hret
    obtain ⟨φ', hI'⟩ := inv_step hev h0 hb0 hr htext hI hst hv
    exact hK _ _ _ hI'
  | false =>
    rw [if_neg (by decide)]
    refine ⟨fun _ _ => trivial, ?_⟩
    obtain ⟨hv, _, _, hx, hp, hq⟩ := he.off hw
    have hst : Step (cut φ (st i).x) (ev i).p.get (st i).x w (cut φ (st i).x) (ev i).q.get (st (i + 1)).x w := by
      have := Step.refl (foot_rel hev h0 hr hI)
      rw [hx, hq, ← hp]; exact this
    obtain ⟨φ', hI'⟩ := inv_step (val := undef) hev h0 hb0 hr htext hI hst (by rw [hv]; exact .tup .nil)
    exact hK _ _ _ hI'

end

/-! ### All of them -/

theorem count_more {S : Nat → Bool} {i : Nat} : ∀ {m : Nat}, i < m → S i = false → (List.range m).countP (fun k => !S k) = (List.range m).countP (fun k => !more S i k) + 1 := by
  intro m
  induction m with
  | zero => intro h; omega
  | succ m ih =>
    intro h hs
    rw [List.range_succ, List.countP_append, List.countP_append]
    by_cases e : i = m
    · subst e
      have h1 : (List.range i).countP (fun k => !S k) = (List.range i).countP (fun k => !more S i k) := by
        refine List.countP_congr fun k hk => ?_
        rw [more_ne (by have := List.mem_range.1 hk; omega)]
      rw [h1]
      simp [hs, more_self]
    · have h2 := ih (by omega) hs
      rw [h2]
      simp only [List.countP_cons, List.countP_nil]
      rw [more_ne (fun h => e h.symm)]
      omega

theorem bef_closed {ops : Array Oper} {bef : Nat → Nat} {S : Nat → Bool} (hedge : ∀ i o, ops[i]? = some o → ∀ e ∈ o.after, Region.binds .any e = true → e.on < i)
    (hbef : ∀ i o, ops[i]? = some o → ∀ b, Nat.testBit (bef i) b = true → ∃ e ∈ o.after, Region.binds .any e = true ∧ (b = e.on ∨ Nat.testBit (bef e.on) b = true))
    (hcl : ∀ k, k < ops.size → S k = true → ∀ o, ops[k]? = some o → ∀ e ∈ o.after, Region.binds .any e = true → S e.on = true) :
    ∀ (k : Nat), k < ops.size → (∀ o, ops[k]? = some o → ∀ e ∈ o.after, Region.binds .any e = true → S e.on = true) → ∀ j, Nat.testBit (bef k) j = true → S j = true := by
  intro k
  induction k using Nat.strongRecOn with
  | _ k ih =>
    intro hk hone j hj
    have ho : ops[k]? = some ops[k] := Array.getElem?_eq_getElem hk
    obtain ⟨e, he, hb, h⟩ := hbef k _ ho j hj
    have hS := hone _ ho e he hb
    rcases h with h | h
    · rw [h]; exact hS
    · have hlt := hedge k _ ho e he hb
      exact ih e.on hlt (by omega) (fun o ho' e' he' hb' => hcl e.on (by omega) hS o ho' e' he' hb') j h

theorem getD_listed {listed : Array Bool} {k : Nat} (hk : k < listed.size) (d d' : Bool) : listed.getD k d = listed.getD k d' := by simp [Array.getD, hk]

theorem any_ok {E : Env} {rec : Rec} {c : Ctx} {ops : Array Oper} {st : Nat → St} {rr : Nat → List Rcd} {ev : Nat → Ev} {bef : Nat → Nat} {φ0 : PM} {w0 : World} {a0 : Act} {ro : Option Nat} {n : Nat} (hE : E.P = P) (hxt : XtOk E) (hrec : RecOk P rec)
    (hev : ∀ k, k < ops.size → EvOk E rec c.nt c.km ops bef st rr k (ev k)) (h0 : KOk c.km (st 0)) (hb0 : ∀ n, ((st 0).H.get n).isSome = true → n < (st 0).x)
    (hedge : ∀ i o, ops[i]? = some o → ∀ e ∈ o.after, Region.binds .any e = true → e.on < i)
    (htext : ∀ i j x y, ops[j]? = some x → ops[i]? = some y → j < i → Nat.testBit (bef i) j = true ∨ apartT ops x y = true)
    (hbef : ∀ i o, ops[i]? = some o → ∀ b, Nat.testBit (bef i) b = true → ∃ e ∈ o.after, Region.binds .any e = true ∧ (b = e.on ∨ Nat.testBit (bef e.on) b = true))
    {Q : Exit → Act → World → Prop} (hQ : ∀ S φ a w, (∀ k, k < ops.size → S k = true) → Inv c.nt st ev ops.size φ0 w0 a0 S φ a w → Q .normal a w) :
    ∀ (fuel : Nat) (listed : Array Bool) (a : Act) (w : World) (φ : PM), listed.size = ops.size → (List.range ops.size).countP (fun k => !(listed.getD k false)) ≤ fuel →
      (∀ k, k < ops.size → listed.getD k false = true → ∀ o, ops[k]? = some o → ∀ e ∈ o.after, Region.binds .any e = true → listed.getD e.on false = true) →
      Inv c.nt st ev ops.size φ0 w0 a0 (fun k => listed.getD k false) φ a w → wpAnyIn (FW ro) n P .any ops Q fuel listed a w := by
  have hnil : ∀ (listed : Array Bool), listed.size = ops.size → Region.ready .any ops listed = [] → ∀ k, k < ops.size → listed.getD k false = true := by
    intro listed hsz hnil k
    induction k using Nat.strongRecOn with
    | _ k ih =>
      intro hk
      cases hs : listed.getD k false with
      | true => rfl
      | false =>
        have ho : ops[k]? = some ops[k] := Array.getElem?_eq_getElem hk
        have : k ∈ Region.ready .any ops listed := mem_ready.2 ⟨by rw [getD_listed (by omega) true false]; exact hs, _, ho, fun e he hb => ih e.on (hedge k _ ho e he hb) (by have := hedge k _ ho e he hb; omega)⟩
        rw [hnil] at this
        cases this
  intro fuel
  induction fuel with
  | zero =>
    intro listed a w φ hsz hcnt hcl hI
    have hall : ∀ k, k < ops.size → listed.getD k false = true := by
      intro k hk
      have h1 : (List.range ops.size).countP (fun k => !(listed.getD k false)) = 0 := by omega
      rw [List.countP_eq_zero] at h1
      have := h1 k (List.mem_range.2 hk)
      simpa using this
    refine ⟨?_, hQ _ φ a w hall hI⟩
    cases hrd : Region.ready .any ops listed with
    | nil => rfl
    | cons i l =>
      have hi : i ∈ Region.ready .any ops listed := by rw [hrd]; exact List.mem_cons_self ..
      obtain ⟨h1, o, ho, _⟩ := mem_ready.1 hi
      have hlt : i < ops.size := (Array.getElem?_eq_some_iff.1 ho).1
      rw [getD_listed (by omega) true false, hall i hlt] at h1
      cases h1
  | succ fuel ih =>
    intro listed a w φ hsz hcnt hcl hI
    refine ⟨fun hrd => hQ _ φ a w (hnil listed hsz hrd) hI, fun i hi => ?_⟩
    obtain ⟨h1, o, ho, h2⟩ := mem_ready.1 hi
    have hlt : i < ops.size := (Array.getElem?_eq_some_iff.1 ho).1
    have hoff : listed.getD i false = false := by rw [getD_listed (by omega) false true]; exact h1
    have hedges : ∀ o', ops[i]? = some o' → ∀ e ∈ o'.after, Region.binds .any e = true → listed.getD e.on false = true := by
      intro o' ho' e he hb
      rw [ho] at ho'; cases ho'
      exact h2 e he hb
    have hr : Rdy bef ops.size (fun k => listed.getD k false) i :=
      ⟨hlt, hoff, bef_closed hedge hbef hcl i hlt hedges, fun k hk hs => bef_closed hedge hbef hcl k hk fun o ho e he hb => hcl k hk hs o ho e he hb⟩
    have hset : (fun k => (listed.setIfInBounds i true).getD k false) = more (fun k => listed.getD k false) i := by
      funext k
      unfold more
      by_cases e : k = i
      · subst e; simp [Array.getD, hsz, hlt]
      · rw [if_neg e]
        show (listed.setIfInBounds i true).getD k false = listed.getD k false
        rw [Array.getD_eq_getD_getElem?, Array.getD_eq_getD_getElem?, Array.getElem?_setIfInBounds, if_neg (fun h => e h.symm)]
    refine take_ok hev hE hxt hrec h0 hb0 hr htext hI fun a' w' φ' hI' => ?_
    refine ih (listed.setIfInBounds i true) a' w' φ' (by simpa using hsz) ?_ ?_ (by rw [hset]; exact hI')
    · have h3 := count_more (S := fun k => listed.getD k false) hlt hoff
      have h4 : (fun k => !((listed.setIfInBounds i true).getD k false)) = fun k => !more (fun k => listed.getD k false) i k := by
        funext k; rw [← hset]
      rw [h4]; omega
    · intro k hk hs o' ho' e he hb
      have hs' : more (fun k => listed.getD k false) i k = true := by rw [← hset]; exact hs
      have goal : more (fun k => listed.getD k false) i e.on = true := by
        by_cases e1 : e.on = i
        · rw [e1]; exact more_self
        · rw [more_ne e1]
          by_cases e2 : k = i
          · subst e2; exact hedges o' ho' e he hb
          · rw [more_ne e2] at hs'
            exact hcl k hk hs' o' ho' e he hb
      rw [← hset] at goal
      exact goal

/-- Before the first. -/
theorem init_ok {E : Env} {rec : Rec} {c : Ctx} {ops : Array Oper} {bef : Nat → Nat} {st : Nat → St} {rr : Nat → List Rcd} {ev : Nat → Ev} {m : Nat} {φ0 : PM} {w : World} {a0 : Act} {ro : Option Nat} {s : St}
    (hev : ∀ k, k < m → EvOk E rec c.nt c.km ops bef st rr k (ev k)) (e1 : st 0 = s) (hs : StOk φ0 c s a0 w ro) : Inv c.nt st ev m φ0 w.drew a0 (fun _ => false) φ0 a0 w.drew := by
  have hdrew : Step φ0 s.H.get s.x w φ0 s.H.get s.x w.drew := step_heap hs.rel rfl rfl rfl rfl
  have hov : ∀ {β : Type} {δ : Nat → Nat → Option β} {h : Nat → β} {n : Nat} (k : Nat), ov δ (fun _ => false) h k n = h n := by
    intro β δ h n k
    induction k with
    | zero => rfl
    | succ k ih => rw [ov_succ_false (.inl rfl), ih]
  have hcutEq : cut φ0 (st 0).x = φ0 := by
    funext n
    unfold cut
    split
    · rfl
    · rename_i hn; rw [e1] at hn; exact (hs.fresh n (by omega)).symm
  have hH0 : ∀ {n b l}, oH st ev (fun _ => false) m n = (some b, l) → s.H.get n = some b ∧ l = (st 0).x := by
    intro n b l hn
    unfold oH at hn
    rw [hov] at hn
    have h1 : (st 0).H.get n = some b := congrArg Prod.fst hn
    have h2 : (st 0).x = l := congrArg Prod.snd hn
    rw [e1] at h1
    exact ⟨h1, h2.symm⟩
  refine ⟨fun n b l hn => ?_, fun n k y z bn bk ln lk hn hk hy hz e => ?_, fun k hk _ n h1 _ => ?_, fun _ _ => rfl, Ext.refl _, fun _ _ _ => rfl, fun n b l y hn hy => ?_, Nat.le_refl _, rfl, rfl, rfl, fun n b l _ hn => ?_, fun n b b' l hb hn => ?_,
    fun _ _ _ _ _ _ _ _ _ => rfl, hs.tmps.kept.1, fun t u l ht => ?_, rfl⟩
  · obtain ⟨h1, rfl⟩ := hH0 hn
    rw [hcutEq]
    exact hdrew.rel.blk n b h1
  · exact hs.rel.inj n k y z (by rw [(hH0 hn).1]; rfl) (by rw [(hH0 hk).1]; rfl) hy hz e
  · have h2 := x_mono hev (i := 0) (j := k) (by omega) (by omega)
    rw [e1] at h2
    exact hs.fresh n (by omega)
  · exact .inr ⟨n, y, by rw [e1, (hH0 hn).1]; rfl, hy, rfl⟩
  · rw [e1, (hH0 hn).1]; rfl
  · rw [e1] at hb
    rw [(hH0 hn).1] at hb
    cases hb
    exact ⟨Nat.le_refl _, fun _ => rfl⟩
  · unfold oT at ht
    rw [hov] at ht
    unfold hT at ht
    have h1 : known (st 0) t = some u := congrArg Prod.fst ht
    have h2 : (st 0).x = l := congrArg Prod.snd ht
    rw [← h2, hcutEq]
    have h3 := hs.tmps.get t
    rw [e1] at h1
    unfold known at h1
    unfold getT at h3
    cases hl : lookL s.L t with
    | some v => rw [hl] at h1 h3; cases h1; exact h3
    | none =>
      rw [hl] at h1 h3
      have h1 : s.T.get t = some u := h1
      have h3 : VR φ0 (orJunk (s.T.get t)) (a0.tmps.getD t undef) := h3
      rw [h1] at h3
      exact h3

/-- Behind the last. -/
theorem all_ok {E : Env} {rec : Rec} {c : Ctx} {ops : Array Oper} {bef : Nat → Nat} {st : Nat → St} {rr : Nat → List Rcd} {ev : Nat → Ev} {m : Nat} {φ0 φ : PM} {w w' : World} {a0 a : Act} {ro : Option Nat} {s s' : St} {S : Nat → Bool}
    (hev : ∀ k, k < m → EvOk E rec c.nt c.km ops bef st rr k (ev k)) (e1 : st 0 = s) (e3 : st m = s') (hs : StOk φ0 c s a0 w ro) (hall : ∀ k, k < m → S k = true) (hI : Inv c.nt st ev m φ0 w.drew a0 S φ a w') :
    StOk φ c s' a w' ro ∧ Step φ0 s.H.get s.x w φ s'.H.get s'.x w' := by
  have hdrew : Step φ0 s.H.get s.x w φ0 s.H.get s.x w.drew := step_heap hs.rel rfl rfl rfl rfl
  have h0 : KOk c.km (st 0) := by rw [e1]; exact ⟨fun t a ht => (hs.tmps.loc t a ht).1, fun t a ht => (hs.tmps.kept.2 t a ht).1⟩
  have hSH : ∀ n, oH st ev S m n = oH st ev (fun _ => true) m n := fun n => ov_agree fun k hk _ => hall k hk
  have hST : ∀ n, oT st ev S m n = oT st ev (fun _ => true) m n := fun n => ov_agree fun k hk _ => hall k hk
  obtain ⟨hk1, hk2, hk3⟩ := text_ok hev h0 (Nat.le_refl _)
  rw [e3] at hk1 hk2 hk3
  have hgetH : ∀ {n b}, s'.H.get n = some b → ∃ l, oH st ev S m n = (some b, l) ∧ l ≤ s'.x := by
    intro n b hn
    have h1 := hk2 n b hn
    refine ⟨(oH st ev (fun _ => true) m n).2, by rw [hSH n, ← h1], ?_⟩
    have := oH_lvl hev (fun _ => true) n (Nat.le_refl _)
    rw [e3] at this; exact this
  have hgetT : ∀ {t u}, known s' t = some u → VR φ u (a.tmps.getD t undef) := by
    intro t u ht
    have h1 := hk3 t u ht
    have h2 : oT st ev S m t = (some u, (oT st ev (fun _ => true) m t).2) := by rw [hST t, ← h1]
    exact (hI.tval t u _ h2).mono cut_sub
  have hle : s.x ≤ s'.x := by
    have := x_mono hev (i := 0) (j := m) (by omega) (Nat.le_refl _)
    rw [e1, e3] at this; exact this
  have hD : ∀ {k}, k ≤ m → (st k).D = s.D := by
    intro k
    induction k with
    | zero => intro _; rw [e1]
    | succ k ih =>
      intro hk
      rw [(putA_known (hev k (by omega)).put (text_ok hev h0 (k := k) (by omega)).1).2.2.2.2.2, ih (by omega)]
  have hDs : s'.D = s.D := by rw [← e3]; exact hD (Nat.le_refl _)
  have hIdom := hI.dom
  have hIframe := hI.frame
  have hIlive := hI.live
  have hIold := hI.old
  have hIver := hI.ver
  have hIsame := hI.same
  rw [e1] at hIdom hIframe hIlive hIold hIver hIsame
  rw [e3] at hIdom
  have hrel : Rel φ s'.H.get s'.x w' := by
    refine ⟨fun n b hb => ?_, fun n k y z hn hk hy hz e => ?_, fun n hn => ?_⟩
    · obtain ⟨l, h1, _⟩ := hgetH hb
      exact (hI.blk n b l h1).kept cut_sub fun _ _ => rfl
    · obtain ⟨bn, hbn⟩ := Option.isSome_iff_exists.1 hn
      obtain ⟨bk, hbk⟩ := Option.isSome_iff_exists.1 hk
      obtain ⟨ln, h1, _⟩ := hgetH hbn
      obtain ⟨lk, h2, _⟩ := hgetH hbk
      exact hI.inj n k y z bn bk ln lk h1 h2 hy hz e
    · obtain ⟨bn, hbn⟩ := Option.isSome_iff_exists.1 hn
      obtain ⟨ln, h1, h2⟩ := hgetH hbn
      obtain ⟨y, o, hy, _⟩ := (hI.blk n bn ln h1).known
      have := (cut_some hy).1
      omega
  have hstep : Step φ0 s.H.get s.x w.drew φ s'.H.get s'.x w' :=
    { rel := hrel, ext := hI.ext, dom := hIdom, le := hle, frame := hIframe, size := hI.size, os := hI.os, tape := hI.tape, output := hI.output, bnd := hs.rel.bnd
      live := fun n y hn hy => by
        obtain ⟨bn, hbn⟩ := Option.isSome_iff_exists.1 hn
        obtain ⟨ln, h1, _⟩ := hgetH hbn
        exact hIlive n bn ln y h1 hy
      old := fun n hlt hn => by
        obtain ⟨bn, hbn⟩ := Option.isSome_iff_exists.1 hn
        obtain ⟨ln, h1, _⟩ := hgetH hbn
        exact hIold n bn ln hlt h1
      ver := fun n b b' hb hb' => by
        obtain ⟨ln, h1, _⟩ := hgetH hb'
        exact hIver n b b' ln hb h1
      same := fun n b b' y hb hb' e hy => by
        obtain ⟨ln, h1, _⟩ := hgetH hb'
        exact hIsame n b b' ln y hb h1 e hy }
  refine ⟨⟨hrel, ?_, ⟨⟨hI.tsize, fun t u ht => ⟨hk1.kep t u ht, hgetT ?_⟩⟩, fun t u ht => ⟨hk1.loc t u ht, hgetT ?_⟩⟩, ?_, hs.ro.mono hI.ext⟩, hdrew.trans hstep⟩
  · intro n hn
    rw [hIdom n (.inr hn)]
    exact hs.fresh n (by omega)
  · unfold known
    cases hl : lookL s'.L t with
    | some v => have h1 := hk1.loc t v hl; rw [hk1.kep t u ht] at h1; cases h1
    | none => exact ht
  · unfold known; rw [ht]
  · rw [hI.defers, hDs]; exact hs.defers.mono hI.ext

theorem lastOf_ok : ∀ {l : List Oper} {q : List Oper × Oper}, lastOf l = some q → l = q.1 ++ [q.2] := by
  intro l
  induction l with
  | nil => intro q h; cases h
  | cons o l ih =>
    intro q h
    unfold lastOf at h
    split at h
    · rename_i hl
      cases h
      have : l = [] := by
        cases l with
        | nil => rfl
        | cons a l => unfold lastOf at hl; split at hl <;> cases hl
      rw [this]; rfl
    · rename_i q' hl
      cases h
      rw [ih hl]; rfl

theorem lenO_eq : ∀ (l : List Oper) (n : Nat), lenO l n = l.length + n := by
  intro l
  induction l with
  | nil => intro n; simp [lenO]
  | cons a l ih => intro n; show lenO l (n + 1) = _; rw [ih, List.length_cons]; omega

/-- The last, behind all others. -/
theorem any_last_ok {E : Env} {rec : Rec} {c : Ctx} {ops : Array Oper} {st : Nat → St} {rr : Nat → List Rcd} {ev : Nat → Ev} {bef : Nat → Nat} {φ0 : PM} {w0 : World} {a0 : Act} {ro : Option Nat} {n m : Nat} (hm : ops.size = m + 1) (hE : E.P = P) (hxt : XtOk E) (hrec : RecOk P rec)
    (hev : ∀ k, k < m → EvOk E rec c.nt c.km ops bef st rr k (ev k)) (h0 : KOk c.km (st 0)) (hb0 : ∀ n, ((st 0).H.get n).isSome = true → n < (st 0).x)
    (hedge : ∀ i o, ops[i]? = some o → ∀ e ∈ o.after, Region.binds .any e = true → e.on < i)
    (htext : ∀ i j x y, ops[j]? = some x → ops[i]? = some y → j < i → Nat.testBit (bef i) j = true ∨ apartT ops x y = true)
    (hbef : ∀ i o, ops[i]? = some o → ∀ b, Nat.testBit (bef i) b = true → ∃ e ∈ o.after, Region.binds .any e = true ∧ (b = e.on ∨ Nat.testBit (bef e.on) b = true))
    (hlast : ∀ k, k < m → Nat.testBit (bef m) k = true)
    {Q : Exit → Act → World → Prop} (hQ : ∀ S φ a w, (∀ k, k < m → S k = true) → Inv c.nt st ev m φ0 w0 a0 S φ a w → wpOpIn (FW ro) n P ops Q m (fun a w => Q .normal a w) a w) :
    ∀ (fuel : Nat) (listed : Array Bool) (a : Act) (w : World) (φ : PM), listed.size = ops.size → (List.range ops.size).countP (fun k => !(listed.getD k false)) ≤ fuel → listed.getD m false = false →
      (∀ k, k < ops.size → listed.getD k false = true → ∀ o, ops[k]? = some o → ∀ e ∈ o.after, Region.binds .any e = true → listed.getD e.on false = true) →
      Inv c.nt st ev m φ0 w0 a0 (fun k => listed.getD k false) φ a w → wpAnyIn (FW ro) n P .any ops Q fuel listed a w := by
  have hnil : ∀ (listed : Array Bool), listed.size = ops.size → Region.ready .any ops listed = [] → ∀ k, k < ops.size → listed.getD k false = true := by
    intro listed hsz hnil k
    induction k using Nat.strongRecOn with
    | _ k ih =>
      intro hk
      cases hs : listed.getD k false with
      | true => rfl
      | false =>
        have ho : ops[k]? = some ops[k] := Array.getElem?_eq_getElem hk
        have : k ∈ Region.ready .any ops listed := mem_ready.2 ⟨by rw [getD_listed (by omega) true false]; exact hs, _, ho, fun e he hb => ih e.on (hedge k _ ho e he hb) (by have := hedge k _ ho e he hb; omega)⟩
        rw [hnil] at this
        cases this
  intro fuel
  induction fuel with
  | zero =>
    intro listed a w φ hsz hcnt hoff hcl hI
    exfalso
    have h1 : (List.range ops.size).countP (fun k => !(listed.getD k false)) = 0 := by omega
    rw [List.countP_eq_zero] at h1
    have := h1 m (List.mem_range.2 (by omega))
    rw [hoff] at this
    exact this rfl
  | succ fuel ih =>
    intro listed a w φ hsz hcnt hoffm hcl hI
    refine ⟨fun hrd => ?_, fun i hi => ?_⟩
    · have := hnil listed hsz hrd m (by omega)
      rw [hoffm] at this; cases this
    obtain ⟨h1, o, ho, h2⟩ := mem_ready.1 hi
    have hlt : i < ops.size := (Array.getElem?_eq_some_iff.1 ho).1
    have hoff : listed.getD i false = false := by rw [getD_listed (by omega) false true]; exact h1
    have hedges : ∀ o', ops[i]? = some o' → ∀ e ∈ o'.after, Region.binds .any e = true → listed.getD e.on false = true := by
      intro o' ho' e he hb
      rw [ho] at ho'; cases ho'
      exact h2 e he hb
    have hahead := bef_closed (S := fun k => listed.getD k false) hedge hbef hcl i hlt hedges
    have hset : (fun k => (listed.setIfInBounds i true).getD k false) = more (fun k => listed.getD k false) i := by
      funext k
      unfold more
      by_cases e : k = i
      · subst e; simp [Array.getD, hsz, hlt]
      · rw [if_neg e]
        show (listed.setIfInBounds i true).getD k false = listed.getD k false
        rw [Array.getD_eq_getD_getElem?, Array.getD_eq_getD_getElem?, Array.getElem?_setIfInBounds, if_neg (fun h => e h.symm)]
    by_cases him : i = m
    · subst him
      have hall : ∀ k, k < i → listed.getD k false = true := fun k hk => hahead k (hlast k hk)
      refine wpOpIn_mono (fun a' w' hq => ?_) (hQ _ φ a w hall hI)
      have hrd : Region.ready .any ops (listed.setIfInBounds i true) = [] := by
        cases hr : Region.ready .any ops (listed.setIfInBounds i true) with
        | nil => rfl
        | cons k l =>
          have hk : k ∈ Region.ready .any ops (listed.setIfInBounds i true) := by rw [hr]; exact List.mem_cons_self ..
          obtain ⟨h3, o', ho', _⟩ := mem_ready.1 hk
          have hklt : k < ops.size := (Array.getElem?_eq_some_iff.1 ho').1
          rw [getD_listed (by simpa [hsz] using hklt) true false] at h3
          have h4 : more (fun k => listed.getD k false) i k = true := by
            by_cases e : k = i
            · rw [e]; exact more_self
            · rw [more_ne e]; exact hall k (by omega)
          rw [← hset] at h4
          have h4 : (listed.setIfInBounds i true).getD k false = true := h4
          rw [h3] at h4; cases h4
      cases fuel with
      | zero => exact ⟨hrd, hq⟩
      | succ fuel => exact ⟨fun _ => hq, fun k hk => by rw [hrd] at hk; cases hk⟩
    · have him : i < m := by omega
      have hr : Rdy bef m (fun k => listed.getD k false) i :=
        ⟨him, hoff, hahead, fun k hk hs => bef_closed hedge hbef hcl k (by omega) fun o ho e he hb => hcl k (by omega) hs o ho e he hb⟩
      refine take_ok hev hE hxt hrec h0 hb0 hr htext hI fun a' w' φ' hI' => ?_
      refine ih (listed.setIfInBounds i true) a' w' φ' (by simpa using hsz) ?_ ?_ ?_ (by rw [hset]; exact hI')
      · have h3 := count_more (S := fun k => listed.getD k false) hlt hoff
        have h4 : (fun k => !((listed.setIfInBounds i true).getD k false)) = fun k => !more (fun k => listed.getD k false) i k := by
          funext k; rw [← hset]
        rw [h4]; omega
      · have h3 : more (fun k => listed.getD k false) i m = false := by rw [more_ne (by omega)]; exact hoffm
        rw [← hset] at h3
        exact h3
      · intro k hk hs o' ho' e he hb
        have hs' : more (fun k => listed.getD k false) i k = true := by rw [← hset]; exact hs
        have goal : more (fun k => listed.getD k false) i e.on = true := by
          by_cases e1 : e.on = i
          · rw [e1]; exact more_self
          · rw [more_ne e1]
            by_cases e2 : k = i
            · subst e2; exact hedges o' ho' e he hb
            · rw [more_ne e2] at hs'
              exact hcl k hk hs' o' ho' e he hb
        rw [← hset] at goal
        exact goal

theorem replicate_getD (k n : Nat) : (Array.replicate n false).getD k false = false := by
  rw [Array.getD_eq_getD_getElem?]
  by_cases hk : k < n
  · simp [hk]
  · simp [hk]

/-- Regions that draw their order. -/
theorem draw_ok {E : Env} (hm : P.follows .mixedOrders = true) (hE : E.P = P) (hxt : XtOk E) {rec : Rec} (hrec : RecOk P rec) : DrawOk P E rec := by
  intro c id ops s hc hreg h φ0 a0 w ro n hs
  obtain ⟨hedge, htext, hbef⟩ := regionOk_ok hreg
  refine wpIn_region_any hm ?_
  show wpAnyIn (FW ro) n P .any ops _ ops.size (Array.replicate ops.size false) a0 w.drew
  have hs := noL_ok hs
  have hS0 : (fun k => (Array.replicate ops.size false).getD k false) = fun _ => false := funext fun k => replicate_getD k _
  have hcl0 : ∀ k, k < ops.size → (Array.replicate ops.size false).getD k false = true → ∀ o, ops[k]? = some o → ∀ e ∈ o.after, Region.binds .any e = true → (Array.replicate ops.size false).getD e.on false = true := by
    intro k hk hs
    rw [replicate_getD] at hs
    cases hs
  have hcnt : (List.range ops.size).countP (fun k => !((Array.replicate ops.size false).getD k false)) ≤ ops.size := Nat.le_trans List.countP_le_length (by simp)
  have trace : ∀ {l : List Oper} {s' : St} {m : Nat}, l.length = m → (∀ j, j < l.length → l[j]? = ops[0 + j]?) → drawA E rec c.nt c.km ops (nthN (befL ops.toList [])) l 0 [] (noL s) = .ok s' →
      ∃ (st : Nat → St) (rr : Nat → List Rcd) (ev : Nat → Ev), st 0 = noL s ∧ st m = s' ∧ (∀ k, k < m → EvOk E rec c.nt c.km ops (nthN (befL ops.toList [])) st rr k (ev k)) := by
    intro l s' m hlm hl hd
    obtain ⟨st, rr, e1, _, e3, hex⟩ := drawA_trace hl hd
    rw [Nat.zero_add, hlm] at e3 hex
    obtain ⟨ev, hev⟩ := Classical.axiomOfChoice (r := fun k e => k < m → EvOk E rec c.nt c.km ops (nthN (befL ops.toList [])) st rr k e) (fun k => by
      by_cases hk : k < m
      · obtain ⟨e, he⟩ := hex k (Nat.zero_le _) hk
        exact ⟨e, fun _ => he⟩
      · exact ⟨⟨default, false, .junk, .e, .e, []⟩, fun h => absurd h hk⟩)
    exact ⟨st, rr, ev, e1, e3, hev⟩
  unfold exDraw at h ⊢
  cases hlo : lastOf ops.toList with
  | none => rw [hlo] at h; exact absurd rfl (h 312)
  | some q =>
    rw [hlo] at h
    dsimp only at h ⊢
    have hops := lastOf_ok hlo
    have hsz : ops.size = q.1.length + 1 := by rw [← Array.length_toList, hops]; simp
    cases hb : Nat.beq (Nat.succ (nthN (befL ops.toList []) (lenO q.1 0))) (Nat.pow 2 (lenO q.1 0)) with
    | false =>
      rw [hb, cond_false] at h
      rw [cond_false]
      obtain ⟨s', hd, he⟩ := exNormal_good h
      rw [he]
      obtain ⟨st, rr, ev, e1, e3, hev⟩ := trace (m := ops.size) (by simp) (fun j _ => by simp) hd
      have h0 : KOk c.km (st 0) := by rw [e1]; exact ⟨fun t a ht => (hs.tmps.loc t a ht).1, fun t a ht => (hs.tmps.kept.2 t a ht).1⟩
      have hb0 : ∀ n, ((st 0).H.get n).isSome = true → n < (st 0).x := by rw [e1]; exact hs.rel.bnd
      refine any_ok hE hxt hrec hev h0 hb0 hedge htext hbef ?_ ops.size _ a0 w.drew φ0 (by simp) hcnt hcl0 (by rw [hS0]; exact init_ok hev e1 hs)
      intro S φ a w' hall hI
      obtain ⟨h1, h2⟩ := all_ok hev e1 e3 hs hall hI
      exact ⟨.normal, s', ⟨rfl, rfl⟩, φ, .normal, h1, h2⟩
    | true =>
      rw [hb, cond_true] at h
      rw [cond_true]
      have hgood := goX_good h
      obtain ⟨s', hd, he⟩ := exNormal_good hgood
      rw [he] at h ⊢
      have h : (opsA E rec c ops [q.2] s').good := h
      show wpAnyIn (FW ro) n P .any ops (PostX φ0 c s w ro (opsA E rec c ops [q.2] s')) ops.size (Array.replicate ops.size false) a0 w.drew
      obtain ⟨st, rr, ev, e1, e3, hev⟩ := trace (m := q.1.length) rfl (fun j hj => by
        rw [Nat.zero_add, ← Array.getElem?_toList, hops, List.getElem?_append_left hj]) hd
      have h0 : KOk c.km (st 0) := by rw [e1]; exact ⟨fun t a ht => (hs.tmps.loc t a ht).1, fun t a ht => (hs.tmps.kept.2 t a ht).1⟩
      have hb0 : ∀ n, ((st 0).H.get n).isSome = true → n < (st 0).x := by rw [e1]; exact hs.rel.bnd
      have hlast : ∀ k, k < q.1.length → Nat.testBit (nthN (befL ops.toList []) q.1.length) k = true := by
        intro k hk
        have h1 := beqT hb
        rw [lenO_eq, Nat.add_zero] at h1
        have h2 : nthN (befL ops.toList []) q.1.length = 2 ^ q.1.length - 1 := by
          have : Nat.pow 2 q.1.length = 2 ^ q.1.length := rfl
          omega
        rw [h2, Nat.testBit_two_pow_sub_one]
        simpa using hk
      refine any_last_ok hsz hE hxt hrec hev h0 hb0 hedge htext hbef hlast ?_ ops.size _ a0 w.drew φ0 (by simp) hcnt (replicate_getD _ _) hcl0 (by rw [hS0]; exact init_ok hev e1 hs)
      intro S φ a w' hall hI
      obtain ⟨h1, h2⟩ := all_ok hev e1 e3 hs hall hI
      have := opsA_ok (ro := ro) (n := n) hE hxt hrec hc (ops := ops) (Q := PostX φ0 c s w ro (opsA E rec c ops [q.2] s')) [q.2] q.1.length s' φ a w' (fun j => by
        rw [← Array.getElem?_toList, hops, List.getElem?_append_right (by omega)]
        simp) h h1 (fun ex a' w' hp => hp.trans h2 fun _ _ h => h)
      have h3 : wpOpsIn (FW ro) n P ops (PostX φ0 c s w ro (opsA E rec c ops [q.2] s')) [q.1.length] a w' := this
      rw [wpOpsIn_cons] at h3
      exact h3

/-- The evaluator is sound. -/
theorem sound {E : Env} (hm : P.follows .mixedOrders = true) (hE : E.P = P) (hxt : XtOk E) (k : Nat) : RecOk P (ex E k) := (ex_ok hE hxt (fun _ hrec => draw_ok hm hE hxt hrec) k).1

end Go.Ce
