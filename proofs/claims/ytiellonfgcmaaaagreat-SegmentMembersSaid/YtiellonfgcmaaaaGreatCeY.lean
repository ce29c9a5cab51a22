/- The abstract evaluator 'Ce': maps' entries, ranges over maps and strings: whatever entry the model's step draws is one of those that the evaluator tells. -/
import Derived.Test.YtiellonfgcmaaaaGreatCeM
import Derived.Maps.RangeRun
set_option linter.unusedVariables false
set_option linter.unusedSimpArgs false
set_option linter.unusedSectionVars false
namespace Go.Ce
variable {P : Program} {φ : PM} {w : World} {H H' : Hp} {x x' : Nat} {v : AV}

/-! ### One of several -/

/-- What an operation may leave. -/
def InO (r : O3) (v : AV) (H : Hp) (x : Nat) : Prop :=
  match r with
  | .ok v' H' x' => v = v' ∧ H = H' ∧ x = x'
  | .or l => (v, H, x) ∈ l
  | _ => False

/-! ### Entries -/

theorem bornAt_ok : ∀ {i : Nat} {es : List (AV × AV × Nat)} {ev : List MapEntry}, ERs φ es ev → ((ev[i]?).map (·.born)).getD 0 = bornAt i es := by
  intro i
  induction i with
  | zero => intro es ev h; cases h <;> rfl
  | succ i ih =>
    intro es ev h
    cases h with
    | nil => rfl
    | cons _ _ h => exact ih h

theorem setKey_ok {k : AV} {kv : Value} (hk : VR φ k kv) : ∀ {i : Nat} {es es' : List (AV × AV × Nat)} {ev : List MapEntry}, setKey i k es = .ok es' → ERs φ es ev →
    ∃ e, ev[i]? = some e ∧ Instr.sameBits 10000 e.key kv = true ∧ ERs φ es' (ev.modify i fun e => { e with key := kv }) := by
  intro i
  induction i with
  | zero =>
    intro es es' ev h he
    cases he with
    | nil => cases h
    | cons h1 h2 h3 =>
      obtain ⟨hs, h4⟩ := cond_ok (show (bif sameA _ k then R.ok _ else R.no 105) = _ from h)
      cases h4
      rename_i kk u e lst es
      exact ⟨_, rfl, sameA_ok hs h1 hk 9999, .cons (e := { e with key := kv }) hk h2 h3⟩
  | succ i ih =>
    intro es es' ev h he
    cases he with
    | nil => cases h
    | cons h1 h2 h3 =>
      obtain ⟨r, hr, h4⟩ := R.bind_ok (show (setKey i k _).bind _ = _ from h)
      cases h4
      obtain ⟨e, e1, e2, e3⟩ := ih hr h3
      exact ⟨e, e1, e2, .cons h1 h2 e3⟩

theorem run_mapEntry_some {t kt et : TypeId} {b c i : Nat} {el : List MapEntry} {kv u : Value} {e : MapEntry} (hu : P.underlying t = some (.map kt et)) (hb : w.heap[b]? = some (.map el.toArray c)) (hc : (Instr.checkKey false 10000 kt kv).run P w = .ok () w)
    (hf : (Instr.findKey kt kv el).run P w = .ok (some (i, u)) w) (he : el[i]? = some e) (hs : Instr.sameBits 10000 e.key kv = true) :
    (Instr.mapEntry t (.map (some b)) kv).run P w = .ok (.tuple #[u, goInt e.born]) { w with heap := w.heap.setIfInBounds b (.map (el.toArray.modify i fun e => { e with key := kv }) c) } := by
  unfold Instr.mapEntry
  rw [Sem.run_bind, run_underlying hu, Result.andThen_ok]
  dsimp only
  rw [Sem.run_bind, run_getObj_map hb, Result.andThen_ok]
  dsimp only
  rw [Sem.run_bind, hc, Result.andThen_ok, Sem.run_bind, hf, Result.andThen_ok]
  dsimp only
  have he : el.toArray[i]? = some e := by simpa using he
  generalize hes : el.toArray = es at *
  have hf : (Instr.findKey kt kv es.toList).run P w = .ok (some (i, u)) w := by rw [← hes]; exact hf
  have e6 : ((es[i]?).map (·.key)).getD kv = e.key := by rw [he]; rfl
  have e7 : ((es[i]?).map fun x => (x.born : Int)).getD 0 = e.born := by rw [he]; rfl
  rw [e6, e7, Sem.run_bind, run_keyStays hs, Result.andThen_ok, Sem.run_bind, run_setObj_map _ hb, Result.andThen_ok, Sem.run_pure]

theorem run_mapEntry_none {t kt et : TypeId} {b c : Nat} {el : List MapEntry} {kv z : Value} (hu : P.underlying t = some (.map kt et)) (hb : w.heap[b]? = some (.map el.toArray c)) (hc : (Instr.checkKey false 10000 kt kv).run P w = .ok () w)
    (hf : (Instr.findKey kt kv el).run P w = .ok none w) (hz : (zeroValue et).run P w = .ok z w) :
    (Instr.mapEntry t (.map (some b)) kv).run P w = .ok (.tuple #[z, goInt c]) { w with heap := w.heap.setIfInBounds b (.map (el.toArray.push { key := kv, val := z, born := c }) (c + 1)) } := by
  generalize hes : el.toArray = es at *
  have hf : (Instr.findKey kt kv es.toList).run P w = .ok none w := by rw [← hes]; exact hf
  unfold Instr.mapEntry
  rw [Sem.run_bind, run_underlying hu, Result.andThen_ok]
  dsimp only
  rw [Sem.run_bind, run_getObj_map hb, Result.andThen_ok]
  dsimp only
  rw [Sem.run_bind, hc, Result.andThen_ok, Sem.run_bind, hf, Result.andThen_ok]
  dsimp only
  rw [Sem.run_bind, hz, Result.andThen_ok, Sem.run_bind, run_setObj_map _ hb, Result.andThen_ok, Sem.run_pure]

theorem mapEntryA_ok (r : Rel φ H.get x w) {t : TypeId} {m k : AV} {q : AV × Hp} {mv kv : Value} (h : mapEntryA P H t m k = .ok q) (hm : VR φ m mv) (hk : VR φ k kv) :
    VRun P φ H x w (Instr.mapEntry t mv kv) q.1 q.2 x := by
  unfold mapEntryA at h
  obtain ⟨ty, hq, h2⟩ := R.bind_ok h
  obtain ⟨hkey, h3⟩ := cond_ok h2
  have hty := mapTy_ok hq
  obtain ⟨qd, hqd⟩ := keyA_und hkey
  split at h3
  · rename_i n
    obtain ⟨b, hb, h4⟩ := R.bind_ok h3
    obtain ⟨f, hf, h5⟩ := R.bind_ok h4
    obtain ⟨z, hz, h6⟩ := R.bind_ok h5
    obtain ⟨i0, zv, hi0, hzv, rfl⟩ := zeroA_ok hz
    have hn := mapOf_ok hb
    obtain ⟨B, sz, el, hφ, hB, hel⟩ := r.map hn
    cases hm with
    | map hφ' =>
      rw [hφ] at hφ'; cases hφ'
      obtain ⟨rv, h7, h8⟩ := findA_ok (w := w) hqd hk hf hel
      have h9 := keyA_ok (w := w) false dE 10000 ty.1 k kv (by decide) hkey hk
      unfold entryIn at h6
      cases h8 with
      | none =>
        have hrun := run_mapEntry_none hty hB h9 h7 (run_zeroValue hi0 hzv)
        have hsn := snoc_ok (e := { key := kv, val := zv, born := b.2.2 }) hk (VR.ofVal φ zv) hel
        have hst := map_set (l' := snoc b.2.1 (k, ofVal zv, b.2.2)) (c' := b.2.2 + 1) r hn hφ ⟨_, hB⟩ (ev := el.toArray.push { key := kv, val := zv, born := b.2.2 }) (by simpa using hsn)
        have hv : VR φ (.tup [ofVal zv, .int .i64 (Int.ofNat b.2.2)]) (.tuple [zv, goInt (b.2.2 : Nat)].toArray) := .tup (.cons (VR.ofVal φ zv) (.cons (.int ..) .nil))
        cases h6
        exact ⟨φ, _, _, hrun, hv, hst⟩
      | some i hi =>
        rename_i a u
        obtain ⟨es', he', h10⟩ := R.bind_ok h6
        obtain ⟨e, e1, e2, e3⟩ := setKey_ok hk he' hel
        have e7 : e.born = bornAt i b.2.1 := by have := bornAt_ok (i := i) hel; rw [e1] at this; exact this
        rw [← e7] at h10
        have hst := map_set (l' := es') (c' := b.2.2) r hn hφ ⟨_, hB⟩ (ev := el.toArray.modify i fun e => { e with key := kv }) (by simpa using e3)
        have hrun := run_mapEntry_some (el := el) hty hB h9 h7 e1 e2
        have hv : VR φ (.tup [a, .int .i64 (Int.ofNat e.born)]) (.tuple [u, goInt (e.born : Nat)].toArray) := .tup (.cons hi (.cons (.int ..) .nil))
        have hq : q = (.tup [a, .int .i64 (Int.ofNat e.born)], H.ins dH n ⟨b.1 + 1, .map es' b.2.2⟩) := by injection h10 with h; exact h.symm
        rw [hq]
        exact ⟨φ, _, _, hrun, hv, hst⟩
  · cases h3

theorem storeEntry_ok {born : Nat} {v : AV} {val : Value} (hv : VR φ v val) : ∀ {es es' : List (AV × AV × Nat)} {ev : List MapEntry}, storeEntry born v es = .ok es' → ERs φ es ev →
    ∃ i, ev.findIdx? (fun e => (e.born : Int) == (born : Int)) = some i ∧ ERs φ es' (ev.modify i fun e => { e with val := val }) := by
  intro es
  induction es with
  | nil => intro es' ev h; cases h
  | cons a l ih =>
    intro es' ev h he
    cases he with
    | cons h1 h2 h3 =>
      rename_i k u e es
      have h : (bif Nat.beq e.born born then .ok ((k, v, e.born) :: l) else (storeEntry born v l).bind fun r => .ok ((k, u, e.born) :: r) : R (List (AV × AV × Nat))) = .ok es' := h
      cases hb : Nat.beq e.born born with
      | true =>
        rw [hb, cond_true] at h
        cases h
        refine ⟨0, ?_, .cons (e := { e with val := val }) h1 hv h3⟩
        have := beqT hb
        rw [List.findIdx?_cons]
        simp [this]
      | false =>
        rw [hb, cond_false] at h
        obtain ⟨r, hr, h4⟩ := R.bind_ok h
        cases h4
        obtain ⟨i, e1, e2⟩ := ih hr h3
        refine ⟨i + 1, ?_, .cons h1 h2 e2⟩
        have hne := beqN hb
        rw [List.findIdx?_cons, e1]
        have : ((e.born : Int) == (born : Int)) = false := by simp; omega
        rw [this]; rfl

theorem entryStoreA_ok (r : Rel φ H.get x w) {t : TypeId} {m s u : AV} {mv sv uv : Value} (h : entryStoreA H m s u = .ok H') (hm : VR φ m mv) (hs : VR φ s sv) (hu : VR φ u uv) :
    ∃ φ' w', (Instr.entryStore t mv sv uv).run P w = .ok () w' ∧ Step φ H.get x w φ' H'.get x w' := by
  unfold entryStoreA at h
  split at h
  · rename_i n
    obtain ⟨born, hb, h2⟩ := R.bind_ok h
    obtain ⟨b, hb2, h3⟩ := R.bind_ok h2
    obtain ⟨es, hes, h4⟩ := R.bind_ok h3
    cases h4
    have hn := mapOf_ok hb2
    obtain ⟨B, sz, el, hφ, hB, hel⟩ := r.map hn
    cases hm with
    | map hφ' =>
      rw [hφ] at hφ'; cases hφ'
      obtain ⟨i, e1, e2⟩ := storeEntry_ok hu hes hel
      obtain ⟨k, rfl⟩ : ∃ k, sv = .int k (born : Int) := by
        unfold idxOf at hb
        split at hb
        · cases hs
          rename_i k z
          cases z with
          | ofNat n => cases hb; exact ⟨k, rfl⟩
          | negSucc n => cases hb
        · cases hb
      refine ⟨φ, _, ?_, map_set r hn hφ ⟨_, hB⟩ (ev := el.toArray.modify i fun e => { e with val := uv }) (by simpa using e2)⟩
      unfold Instr.entryStore
      dsimp only
      rw [Sem.run_bind, run_getObj_map hB, Result.andThen_ok]
      dsimp only
      have : el.toArray.findIdx? (fun e => (e.born : Int) == (born : Int)) = some i := by simpa using e1
      rw [Sem.run_bind, show (asInt (.int k (born : Int))).run P w = .ok (born : Int) w from rfl, Result.andThen_ok, this]
      dsimp only
      rw [run_setObj_map _ hB]
  · cases h

/-! ### Ranges -/

theorem memB_eq (b : Nat) : ∀ l : List Nat, memB b l = l.contains b := by
  intro l
  induction l with
  | nil => rfl
  | cons a l ih =>
    show (bif Nat.beq a b then true else memB b l) = _
    rw [ih, List.contains_cons]
    by_cases h : a = b
    · subst h; simp
    · rw [beqF h]; simp [Ne.symm h]

theorem leftOf_ok {seen : List Nat} : ∀ {es : List (AV × AV × Nat)} {ev : List MapEntry}, ERs φ es ev → ERs φ (leftOf seen es) (ev.filter fun e => !seen.contains e.born) := by
  intro es
  induction es with
  | nil => intro ev h; cases h; exact .nil
  | cons a l ih =>
    intro ev h
    cases h with
    | cons h1 h2 h3 =>
      rename_i k u e ev
      show ERs φ (bif memB e.born seen then leftOf seen l else (k, u, e.born) :: leftOf seen l) _
      rw [memB_eq, List.filter_cons]
      cases seen.contains e.born with
      | true => simpa using ih h3
      | false => simpa using ERs.cons h1 h2 (ih h3)

theorem allOld_ok {since : Nat} : ∀ {es : List (AV × AV × Nat)} {ev : List MapEntry}, allOld since es = true → ERs φ es ev → ∀ e ∈ ev, e.born < since := by
  intro es
  induction es with
  | nil => intro ev _ h e he; cases h; cases he
  | cons a l ih =>
    intro ev hall h e he
    cases h with
    | cons h1 h2 h3 =>
      rename_i k u e0 ev
      have hall : (bif Nat.blt e0.born since then allOld since l else false) = true := hall
      cases hb : Nat.blt e0.born since with
      | false => rw [hb] at hall; cases hall
      | true =>
        rw [hb, cond_true] at hall
        cases he with
        | head => exact bltT hb
        | tail _ he => exact ih hall h3 e he

theorem ERs.mem {es : List (AV × AV × Nat)} {ev : List MapEntry} (h : ERs φ es ev) {e : MapEntry} (he : e ∈ ev) : ∃ k u, (k, u, e.born) ∈ es ∧ VR φ k e.key ∧ VR φ u e.val := by
  induction h with
  | nil => cases he
  | cons h1 h2 _ ih =>
    cases he with
    | head => exact ⟨_, _, List.mem_cons_self .., h1, h2⟩
    | tail _ he => obtain ⟨k, u, h3, h4⟩ := ih he; exact ⟨k, u, List.mem_cons_of_mem _ h3, h4⟩

theorem Rel.iter (r : Rel φ H.get x w) {n ver m since : Nat} {seen : List Nat} (h : H.get n = some ⟨ver, .mapIter m since seen⟩) :
    ∃ b sz bm szm, φ n = some (b, sz) ∧ φ m = some (bm, szm) ∧ w.heap[b]? = some (.mapIter (some bm) since seen.reverse.toArray since) := by
  have := r.blk n _ h
  cases this with
  | mapIter h hm hb => exact ⟨_, _, _, _, h, hm, hb⟩

theorem Rel.str (r : Rel φ H.get x w) {n ver pos : Nat} {l : List UInt8} (h : H.get n = some ⟨ver, .strIter l pos⟩) :
    ∃ b sz s, φ n = some (b, sz) ∧ w.heap[b]? = some (.stringIter s pos) ∧ s.data.toList = l := by
  have h1 := r.blk n _ h
  cases h1 with
  | strIter h2 hb => exact ⟨_, _, _, h2, hb, rfl⟩

theorem Rel.nilIter (r : Rel φ H.get x w) {n ver : Nat} (h : H.get n = some ⟨ver, .nilIter⟩) : ∃ b sz, φ n = some (b, sz) ∧ w.heap[b]? = some (.mapIter none 0 #[] 0) := by
  have := r.blk n _ h
  cases this with
  | nilIter h hb => exact ⟨_, _, h, hb⟩

theorem rangeIt_ok (r : Rel φ H.get x w) (hf : φ x = none) {t : TypeId} {a : AV} {av : Value} (h : rangeIt P H x t a = .ok v H' x') (ha : VR φ a av) : VRun P φ H x w (Instr.range t av) v H' x' := by
  have hal : ∀ o : Obj, (w.alloc o).heap[w.heap.size]? = some o := fun o => by show (w.heap.push _)[w.heap.size]? = _; simp
  unfold rangeIt at h
  split at h
  · rename_i hu
    split at h
    · rename_i l
      generalize hav : AV.str l = a at ha
      cases ha <;> cases hav
      rename_i s
      cases h
      have hst := step_new r hf (.stringIter s 0) (.strIter s.data.toList 0) 0 (.strIter PM.add_self (hal _))
      refine ⟨_, _, .pointer (some ⟨w.heap.size, 0, none⟩), ?_, .ptr PM.add_self, hst⟩
      unfold Instr.range
      simp only [Sem.run_bind, run_underlying hu, Result.andThen_ok]
      rfl
    · cases h
  · rename_i k e hu
    split at h
    · cases h
      cases ha
      have hst := step_new r hf (.mapIter none 0 #[] 0) .nilIter 0 (.nilIter PM.add_self (hal _))
      refine ⟨_, _, .pointer (some ⟨w.heap.size, 0, none⟩), ?_, .ptr PM.add_self, hst⟩
      unfold Instr.range
      simp only [Sem.run_bind, run_underlying hu, Result.andThen_ok]
      rfl
    · rename_i m
      obtain ⟨b, hb, h2⟩ := casesO_ok h
      cases h2
      have hm := mapOf_ok hb
      obtain ⟨B, sz, el, hφ, hB, hel⟩ := r.map hm
      cases ha with
      | map hφ' =>
        rw [hφ] at hφ'; cases hφ'
        have hne : m ≠ x := fun e => by rw [e, hf] at hφ; cases hφ
        have hst := step_new r hf (.mapIter (some B) b.2.2 #[] b.2.2) (.mapIter m b.2.2 []) 0 (.mapIter PM.add_self ((PM.add_ne hne).trans hφ) (hal _))
        refine ⟨_, _, .pointer (some ⟨w.heap.size, 0, none⟩), ?_, .ptr PM.add_self, hst⟩
        unfold Instr.range
        simp only [Sem.run_bind, run_underlying hu, Result.andThen_ok, run_getObj_map hB]
        rfl
    · cases h
  · cases h

/-- A block that is no row of cells is set. -/
theorem obj_set (r : Rel φ H.get x w) {n ver b sz : Nat} {ab : AB} {ab' : AB} {o' : Obj} {w1 : World} (hn : H.get n = some ⟨ver, ab⟩) (hφ : φ n = some (b, sz)) (hw : w1 = w ∨ w1 = w.drew)
    (hb : BR φ { w1 with heap := w1.heap.setIfInBounds b o' } n ab') : Step φ H.get x w φ (H.ins dH n ⟨Nat.succ ver, ab'⟩).get x { w1 with heap := w1.heap.setIfInBounds b o' } := by
  refine step_put r hn hφ ab' _ ?_ ?_ ?_ ?_ (fun k hk => ?_) hb
  · rcases hw with rfl | rfl <;> rfl
  · rcases hw with rfl | rfl <;> rfl
  · rcases hw with rfl | rfl <;> rfl
  · rcases hw with rfl | rfl <;> exact Array.size_setIfInBounds ..
  · have : w1.heap = w.heap := by rcases hw with rfl | rfl <;> rfl
    show (w1.heap.setIfInBounds b _)[k]? = _
    rw [this, Array.getElem?_setIfInBounds, if_neg (fun e => hk e.symm)]

theorem stepAll_mem {n ver m since : Nat} {seen : List Nat} {e : AV × AV × Nat} : ∀ {es : List (AV × AV × Nat)}, e ∈ es → stepTo H x n ver m since seen e ∈ stepAll H x n ver m since seen es := by
  intro es
  induction es with
  | nil => intro h; cases h
  | cons a l ih =>
    intro h
    cases h with
    | head => exact List.mem_cons_self ..
    | tail _ h => exact List.mem_cons_of_mem _ (ih h)

theorem decode_ascii (s : ByteArray) (pos : Nat) (b : UInt8) (h : s.data.toList[pos]? = some b) (hb : b.toNat < 128) : Utf8.decode s pos = (b.toNat, 1) := by
  have hlt : pos < s.data.size := by simpa using (List.getElem?_eq_some_iff.1 h).1
  have hget : s.get! (pos + 0) = b := by
    have h2 : s.data[pos]? = some b := by simpa using h
    show s.data[pos + 0]! = b
    rw [Nat.add_zero, getElem!_def, h2]
  unfold Utf8.decode
  simp only [hget]
  rw [if_pos hb]

theorem run_next_str (ty : TypeId) {b pos : Nat} {s : ByteArray} (hb : w.heap[b]? = some (.stringIter s pos)) :
    (Instr.next (.pointer (some ⟨b, 0, none⟩)) true ty).run P w = (if pos < s.size then do setObj b (.stringIter s (pos + (Utf8.decode s pos).2)); pure (.tuple #[.bool true, goInt pos, .int .i32 (Utf8.decode s pos).1])
      else (pure (.tuple #[.bool false]) : Sem Value) : Sem Value).run P w := by
  have hg : (getObj b).run P w = .ok (.stringIter s pos) w := by simp [getObj, Sem.run, hb]
  have h1 : (Instr.next (.pointer (some ⟨b, 0, none⟩)) true ty).run P w = ((getObj b).run P w).andThen fun o w' => (match o, true with
    | .stringIter s pos, true => (if pos < s.size then do setObj b (.stringIter s (pos + (Utf8.decode s pos).2)); pure (.tuple #[.bool true, goInt pos, .int .i32 (Utf8.decode s pos).1])
      else (pure (.tuple #[.bool false]) : Sem Value) : Sem Value)
    | o, _ => stuck "").run P w' := by
    unfold Instr.next
    simp only [Sem.run_bind, hg, Result.andThen_ok]
  rw [h1, hg, Result.andThen_ok]

/-- A step of a range: whichever entry is drawn, it is told. -/
theorem nextA_ok (r : Rel φ H.get x w) {a : AV} {av : Value} {isS : Bool} {ty : TypeId} {res : O3} (h : nextA H x a isS = res) (hno : ∀ c, res ≠ .no c) (ha : VR φ a av) :
    ∃ v H' x', InO res v H' x' ∧ VRun P φ H x w (Instr.next av isS ty) v H' x' := by
  unfold nextA at h
  split at h
  · rename_i n
    cases ha with
    | ptr hφ =>
      rename_i b sz
      split at h
      · rename_i ver l pos hn
        obtain ⟨b', sz', s, hφ', hb, rfl⟩ := r.str hn
        rw [hφ] at hφ'; cases hφ'
        cases isS with
        | false => exact absurd h.symm (hno _)
        | true =>
          rw [cond_true] at h
          unfold strNext at h
          rw [nthB_eq] at h
          have hsz : s.data.toList.length = s.size := by rw [Array.length_toList]; rfl
          have hg : (getObj b).run P w = .ok (.stringIter s pos) w := by simp [getObj, Sem.run, hb]
          split at h
          · rename_i hnone
            subst h
            refine ⟨_, _, _, ⟨rfl, rfl, rfl⟩, VRun.pure r ⟨.tuple #[.bool false], ?_, .tup (.cons (.bool _) .nil)⟩⟩
            have hlt : ¬ pos < s.size := by
              have := List.getElem?_eq_none_iff.1 hnone
              omega
            rw [run_next_str ty hb, if_neg hlt]
            rfl
          · rename_i c hc
            cases hlt128 : Nat.blt c.toNat 128 with
            | false => rw [hlt128] at h; exact absurd h.symm (hno _)
            | true =>
              rw [hlt128, cond_true] at h
              subst h
              have hlt : pos < s.size := by
                have := (List.getElem?_eq_some_iff.1 hc).1
                omega
              have hdec := decode_ascii s pos c hc (bltT hlt128)
              have hset := obj_set (ab' := .strIter s.data.toList (Nat.succ pos)) (o' := .stringIter s (pos + 1)) r hn hφ (.inl rfl) (.strIter hφ (by
                show (w.heap.setIfInBounds b _)[b]? = _
                rw [Array.getElem?_setIfInBounds_self, if_pos (Array.getElem?_eq_some_iff.1 hb).1]))
              refine ⟨_, _, _, ⟨rfl, rfl, rfl⟩, φ, _, .tuple #[.bool true, goInt pos, .int .i32 (c.toNat : Int)], ?_, .tup (.cons (.bool _) (.cons (.int ..) (.cons (.int ..) .nil))), hset⟩
              have hso : (setObj b (.stringIter s (pos + 1))).run P w = .ok () { w with heap := w.heap.setIfInBounds b (.stringIter s (pos + 1)) } := by simp [setObj, Sem.run, hb]
              rw [run_next_str ty hb, if_pos hlt, hdec]
              dsimp only
              rw [Sem.run_bind, hso, Result.andThen_ok, Sem.run_pure]
      · rename_i ver hn
        obtain ⟨b', sz', hφ', hb⟩ := r.nilIter hn
        rw [hφ] at hφ'; cases hφ'
        cases isS with
        | true => exact absurd h.symm (hno _)
        | false =>
          rw [cond_false] at h
          subst h
          refine ⟨_, _, _, ⟨rfl, rfl, rfl⟩, VRun.pure r ⟨.tuple #[.bool false], ?_, .tup (.cons (.bool _) .nil)⟩⟩
          have hg : (getObj b).run P w = .ok (.mapIter none 0 #[] 0) w := by simp [getObj, Sem.run, hb]
          unfold Instr.next
          simp only [Sem.run_bind, hg, Result.andThen_ok]
          rfl
      · rename_i ver m since seen hn
        obtain ⟨b', sz', bm, szm, hφ', hφm, hb⟩ := r.iter hn
        rw [hφ] at hφ'; cases hφ'
        cases isS with
        | true => exact absurd h.symm (hno _)
        | false =>
          rw [cond_false] at h
          cases hmo : mapOf (H.get m) with
          | no c => rw [hmo] at h; exact absurd h.symm (hno _)
          | ok q =>
            rw [hmo] at h
            have h : (bif Nat.beq q.2.2 since && allOld since q.2.1 then nextOf H x n ver m since seen (leftOf seen q.2.1) else .no 346 : O3) = res := h
            cases hc : (Nat.beq q.2.2 since && allOld since q.2.1) with
            | false => rw [hc] at h; exact absurd h.symm (hno _)
            | true =>
              rw [hc, cond_true] at h
              simp only [Bool.and_eq_true] at hc
              have hclk := beqT hc.1
              obtain ⟨bm', szm', el, hφm', hB, hel⟩ := r.map (mapOf_ok hmo)
              rw [hφm] at hφm'; cases hφm'
              have hleft := leftOf_ok (seen := seen) hel
              have hfil : (Go.leftOf el.toArray seen.reverse.toArray).toList = el.filter fun e => !seen.contains e.born := by
                unfold Go.leftOf
                simp
              have hstep : ∀ e ∈ (Go.leftOf el.toArray seen.reverse.toArray).toList, ∀ w1 : World, (w1 = w ∨ w1 = w.drew) →
                  (Instr.next (.pointer (some ⟨b, 0, none⟩)) false ty).run P w = .ok (.tuple #[.bool true, e.key, e.val]) (ChangeMaps.setBlock w1 b (.mapIter (some bm) since (seen.reverse.toArray.push e.born) q.2.2)) →
                  ∃ e', e' ∈ leftOf seen q.2.1 ∧ VRun P φ H x w (Instr.next (.pointer (some ⟨b, 0, none⟩)) false ty) (stepTo H x n ver m since seen e').1 (stepTo H x n ver m since seen e').2.1 (stepTo H x n ver m since seen e').2.2 := by
                intro e he w1 hw1 hrun
                rw [hfil] at he
                obtain ⟨k, u, hmem, hk, hu⟩ := hleft.mem he
                refine ⟨_, hmem, φ, _, _, hrun, .tup (.cons (.bool _) (.cons hk (.cons hu .nil))), ?_⟩
                refine obj_set (o' := .mapIter (some bm) since (seen.reverse.toArray.push e.born) q.2.2) r hn hφ hw1 (.mapIter hφ hφm ?_)
                have hlt : b < w1.heap.size := by
                  have : w1.heap = w.heap := by rcases hw1 with rfl | rfl <;> rfl
                  rw [this]; exact (Array.getElem?_eq_some_iff.1 hb).1
                show (w1.heap.setIfInBounds b _)[b]? = _
                rw [Array.getElem?_setIfInBounds_self, if_pos hlt, hclk]
                simp
              rcases run_next_at (P := P) w ty b bm since since seen.reverse.toArray el.toArray q.2.2 hb hB (allOld_ok hc.2 hel) (Nat.le_refl _) with ⟨h0, hrun⟩ | ⟨e, he, w1, hw1, hrun⟩
              · have hnil : leftOf seen q.2.1 = [] := by
                  have : (el.filter fun e => !seen.contains e.born) = [] := by
                    rw [← hfil]
                    simpa using h0
                  rw [this] at hleft
                  generalize leftOf seen q.2.1 = l at hleft
                  cases hleft; rfl
                rw [hnil] at h
                have h : O3.ok (.tup [.bool false]) H x = res := h
                subst h
                exact ⟨_, _, _, ⟨rfl, rfl, rfl⟩, VRun.pure r ⟨_, hrun, .tup (.cons (.bool _) .nil)⟩⟩
              · obtain ⟨e', hmem, hv⟩ := hstep e he w1 hw1 hrun
                refine ⟨_, _, _, ?_, hv⟩
                unfold nextOf at h
                split at h
                · rename_i hl; rw [hl] at hmem; cases hmem
                · rename_i e1 hl
                  rw [hl] at hmem
                  cases hmem with
                  | head => subst h; exact ⟨rfl, rfl, rfl⟩
                  | tail _ hm => cases hm
                · subst h
                  exact stepAll_mem hmem
      · exact absurd h.symm (hno _)
  · exact absurd h.symm (hno _)

theorem bornIs_ok {b : Nat} : ∀ {es : List (AV × AV × Nat)} {ev : List MapEntry} {q : AV × AV}, bornIs b es = some q → ERs φ es ev → ∃ e, ev.find? (fun e => e.born == b) = some e ∧ VR φ q.1 e.key ∧ VR φ q.2 e.val := by
  intro es
  induction es with
  | nil => intro ev q h; cases h
  | cons a l ih =>
    intro ev q h he
    cases he with
    | cons h1 h2 h3 =>
      rename_i k u e ev
      have h : (bif Nat.beq e.born b then some (k, u) else bornIs b l) = some q := h
      cases hb : Nat.beq e.born b with
      | true =>
        rw [hb, cond_true] at h
        cases h
        exact ⟨e, by rw [List.find?_cons]; simp [beqT hb], h1, h2⟩
      | false =>
        rw [hb, cond_false] at h
        obtain ⟨e', h4, h5⟩ := ih h h3
        refine ⟨e', ?_, h5⟩
        rw [List.find?_cons, h4]
        have : (e.born == b) = false := by simpa using beqN hb
        rw [this]

theorem entryA_ok (r : Rel φ H.get x w) {a : AV} {av : Value} (h : entryA H a = .ok v) (ha : VR φ a av) : ∃ val, (Instr.entry av).run P w = .ok val w ∧ VR φ v val := by
  unfold entryA at h
  split at h
  · rename_i n
    cases ha with
    | ptr hφ =>
      rename_i b sz
      split at h
      · rename_i ver m since s0 seen hn
        obtain ⟨q, hq, h2⟩ := R.bind_ok h
        obtain ⟨hc, h3⟩ := cond_ok h2
        have hclk := beqT hc
        obtain ⟨b', sz', bm, szm, hφ', hφm, hb⟩ := r.iter hn
        rw [hφ] at hφ'; cases hφ'
        obtain ⟨bm', szm', el, hφm', hB, hel⟩ := r.map (mapOf_ok hq)
        rw [hφm] at hφm'; cases hφm'
        split at h3
        · rename_i e he
          cases h3
          obtain ⟨e', h4, h5, h6⟩ := bornIs_ok he hel
          refine ⟨.tuple #[e'.key, e'.val], ?_, .tup (.cons h5 (.cons h6 .nil))⟩
          have hf : el.toArray.find? (fun e => e.born == s0) = some e' := by rw [← Array.find?_toList]; exact h4
          have hback : ((s0 :: seen).reverse.toArray).back? = some s0 := by simp
          rw [hclk] at hB
          unfold Instr.entry
          simp only [getObj, Sem.run_bind, Sem.run, hb, hB, Result.andThen, hback, bne_self_eq_false, Bool.false_eq_true, if_false, hf]
          rfl
        · cases h3
      · cases h
  · cases h

end Go.Ce
