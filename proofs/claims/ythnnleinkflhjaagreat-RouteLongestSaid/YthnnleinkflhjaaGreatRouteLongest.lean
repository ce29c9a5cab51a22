/- 'RouteLongest' returns true, whatever the table (nil too), the tenant and the address, and whatever the world that it begins in; it leaves all that was there as it was. There are no conditions. -/
import Derived.Test.YthnnleinkflhjaaGreatRows
import Derived.Test.YthnnleinkflhjaaGreatWd
import Derived.ProofKit
import Derived.OpenShut
import Derived.Lib.RowBridge
import Derived.Deep.Slices
import Derived.Deep.Fields
import Derived.ChangeSame
import Derived.Carry
namespace Go.Proofs.YthnnleinkflhjaaGreat.routeLongest
open Go.ChangeShapes Go.WideShapes Go.ChangeAt Go.RowKit Go.Deep

theorem own : ownKnob Tryz.prog.godebug = none := by kernel_rfl
theorem laidOut : laidOutB Tryz.prog = true := by kernel_rfl
theorem cells3 : Tryz.prog.cellsOf 3 = 1 := by kernel_rfl
theorem cells23 : Tryz.prog.cellsOf 23 = 1 := by kernel_rfl
theorem cells24 : Tryz.prog.cellsOf 24 = 1 := by kernel_rfl
theorem cells29 : Tryz.prog.cellsOf 29 = 1 := by kernel_rfl
theorem cells27 : Tryz.prog.cellsOf 27 = 2 := by kernel_rfl
theorem cells31 : Tryz.prog.cellsOf 31 = 8 := by kernel_rfl

section
variable {H : Type} {enc : TypeId × Value → H} {w : World} {base : Nat} {spare : Nat → Bool} {held : Bool}
theorem int_cell {t : TypeId} {k : IntKind} {n i : Nat} {c : Value} {xs : List (DataW H × List MemPlace)} (ht : Tryz.prog.underlying t = some (.int k)) (h : DataW.trod enc Tryz.prog w base spare held n t [c] = xs[i]?) (hi : i < xs.length) : ∃ m, c = .int k m := by
  rw [List.getElem?_eq_getElem hi] at h
  obtain ⟨n', h1, _, _⟩ := DataW.trod_int ht h
  simp at h1
  exact ⟨n', h1⟩
set_option maxRecDepth 100000 in
/-- A hop that reads as data is eight cells, each an integer of its kind. -/
theorem hop_cells {n : Nat} {cs : List Value} {x : DataW H × List MemPlace} (hl : cs.length = 8) (h : DataW.trod enc Tryz.prog w base spare held n 31 cs = some x) :
    ∃ hp : Hp, cs = [.int .i64 hp.T, .int .u32 hp.P, .int .i64 hp.L, .int .i64 hp.D, .int .u32 hp.X, .int .u32 hp.V, .int .u64 hp.M, .int .u64 hp.R] := by
  obtain ⟨ys, n1, _, _, _, hy, hf⟩ := DataW.trod_struct Tryz.underlying31 h
  have hy' : ys.length = 7 := hy
  match cs, hl with
  | [c0, c1, c2, c3, c4, c5, c6, c7], _ =>
    have h0 := hf 0 { name := "Tenant", type := 3, offset := 0, embedded := false, tag := "", pkgPath := "", byteOffset := 0 } rfl
    have h1 := hf 1 { name := "Prefix", type := 27, offset := 1, embedded := false, tag := "", pkgPath := "", byteOffset := 8 } rfl
    have h3 := hf 2 { name := "BD", type := 3, offset := 3, embedded := false, tag := "", pkgPath := "", byteOffset := 24 } rfl
    have h4 := hf 3 { name := "Next", type := 24, offset := 4, embedded := false, tag := "", pkgPath := "", byteOffset := 32 } rfl
    have h5 := hf 4 { name := "VNI", type := 23, offset := 5, embedded := false, tag := "", pkgPath := "", byteOffset := 36 } rfl
    have h6 := hf 5 { name := "MAC", type := 29, offset := 6, embedded := false, tag := "", pkgPath := "", byteOffset := 40 } rfl
    have h7 := hf 6 { name := "Router", type := 29, offset := 7, embedded := false, tag := "", pkgPath := "", byteOffset := 48 } rfl
    dsimp only at h0
    rw [cells3] at h0
    simp only [List.drop_zero, List.drop_succ_cons, List.take_succ_cons, List.take_zero] at h0
    dsimp only at h1
    rw [cells27] at h1
    simp only [List.drop_zero, List.drop_succ_cons, List.take_succ_cons, List.take_zero] at h1
    dsimp only at h3
    rw [cells3] at h3
    simp only [List.drop_zero, List.drop_succ_cons, List.take_succ_cons, List.take_zero] at h3
    dsimp only at h4
    rw [cells24] at h4
    simp only [List.drop_zero, List.drop_succ_cons, List.take_succ_cons, List.take_zero] at h4
    dsimp only at h5
    rw [cells23] at h5
    simp only [List.drop_zero, List.drop_succ_cons, List.take_succ_cons, List.take_zero] at h5
    dsimp only at h6
    rw [cells29] at h6
    simp only [List.drop_zero, List.drop_succ_cons, List.take_succ_cons, List.take_zero] at h6
    dsimp only at h7
    rw [cells29] at h7
    simp only [List.drop_zero, List.drop_succ_cons, List.take_succ_cons, List.take_zero] at h7
    obtain ⟨t, rfl⟩ := int_cell Tryz.underlying3 h0 (by omega)
    rw [List.getElem?_eq_getElem (by omega)] at h1
    obtain ⟨zs, n2, _, _, _, hz, hg⟩ := DataW.trod_struct Tryz.underlying27 h1
    have hz' : zs.length = 2 := hz
    have g0 := hg 0 { name := "IP", type := 24, offset := 0, embedded := false, tag := "", pkgPath := "", byteOffset := 0 } rfl
    have g1 := hg 1 { name := "Len", type := 3, offset := 1, embedded := false, tag := "", pkgPath := "", byteOffset := 8 } rfl
    dsimp only at g0
    rw [cells24] at g0
    simp only [List.drop_zero, List.drop_succ_cons, List.take_succ_cons, List.take_zero] at g0
    dsimp only at g1
    rw [cells3] at g1
    simp only [List.drop_zero, List.drop_succ_cons, List.take_succ_cons, List.take_zero] at g1
    obtain ⟨p, rfl⟩ := int_cell Tryz.underlying24 g0 (by omega)
    obtain ⟨l, rfl⟩ := int_cell Tryz.underlying3 g1 (by omega)
    obtain ⟨d, rfl⟩ := int_cell Tryz.underlying3 h3 (by omega)
    obtain ⟨x, rfl⟩ := int_cell Tryz.underlying24 h4 (by omega)
    obtain ⟨v, rfl⟩ := int_cell Tryz.underlying23 h5 (by omega)
    obtain ⟨m, rfl⟩ := int_cell Tryz.underlying29 h6 (by omega)
    obtain ⟨r, rfl⟩ := int_cell Tryz.underlying29 h7 (by omega)
    exact ⟨⟨t, p, l, d, x, v, m, r⟩, rfl⟩
end

instance : Inhabited Hp := ⟨zeroHop⟩
theorem addr_add (b off j : Nat) : (⟨b, off, none⟩ : Addr).add j = ⟨b, off + j, none⟩ := by
  unfold Addr.add
  split
  · next h => subst h; rfl
  · rfl

set_option maxHeartbeats 4000000 in
set_option maxRecDepth 100000 in
theorem lifted (os : Os) (started : os.Started) (H : Type) (enc : TypeId × Value → H) :
    ReturnsInHanded {} Tryz.checked os 3 .any (Rows.routeLongestSpec.pre6 enc Tryz.prog Tryz.f3 Rows.routeLongestRow.domain false) (Rows.routeLongestSpec.post enc Tryz.prog Tryz.f3 false true false false) := by
  refine returnsInHanded_of_change (C := Tryz.checked) own started (by kernel_rfl) Tryz.func3
    (ChangeSpec.witness6 (enc := enc) (C := Tryz.checked) false ⟨#[], #[.slice none 0 0, .int .i64 0, .int .u32 0], []⟩ 8 (by kernel_rfl) (by kernel_rfl) (by kernel_rfl) (by kernel_rfl)) ?_
  intro W base args ds gs before hval0 hW hcnd _
  have hval : ∀ (j : Nat) t v, Tryz.f3.params[j]? = some t → args[j]? = some v → Value.okWide Tryz.prog W .any base t v := hval0
  have hW' := hW
  obtain ⟨p, q, hA0, hV, rfl, hfz, hnd⟩ := hW
  have hA : DataW.TrodAll enc Tryz.prog W 0 (fun _ => true) true Tryz.f3.params.toList args.toList ds p := hA0
  rw [Tryz.params3] at hA hval
  obtain ⟨al⟩ := args
  obtain ⟨v0, vs, d0, ds1, p0, p1, hvs0, rfl, rfl, h0, hA⟩ := trodAll_cons hA
  obtain ⟨v1, vs, d1, ds2, p2, p3, rfl, rfl, rfl, h1, hA⟩ := trodAll_cons hA
  obtain ⟨v2, vs, d2, ds3, p4, p5, rfl, rfl, rfl, h2, hA⟩ := trodAll_cons hA
  obtain ⟨rfl, rfl, rfl⟩ := trodAll_nil hA
  simp only at hvs0
  subst hvs0
  obtain ⟨rfl, rfl⟩ := trodVars_none hV
  have k0 := h0
  have k1 := h1
  have k2 := h2
  obtain ⟨ten, rfl, rfl, rfl, wt⟩ := open_int Tryz.underlying3 (hval 1 3 v1 rfl rfl) h1
  obtain ⟨ip, rfl, rfl, rfl, wi⟩ := open_int Tryz.underlying24 (hval 2 24 v2 rfl rfl) h2
  obtain ⟨a0, len, cap, rfl⟩ := okWide_slice Tryz.underlying22 (hval 0 22 v0 rfl rfl)
  obtain ⟨fuel, hf⟩ := h0
  clear hA0 hval0
  simp only [List.append_nil] at hW'
  have hlt : ∀ y ∈ p0, y.block < W.heap.size := fun y hy => by simpa using hW'.lt y (by simp [hy])
  suffices key : Calls Tryz.prog 3 #[.slice a0 len cap, .int .i64 ten, .int .u32 ip] W fun e W' => e = .returned (.bool true) ∧ Below W.heap.size W W' by
    refine key.mono fun e W' he => ?_
    obtain ⟨rfl, hn⟩ := he
    have a0 := Below.trod laidOut (by kernel_rfl) (of_decide_eq_true (by kernel_rfl)) k0 hn hlt
    have a1 := Below.trod laidOut (by kernel_rfl) (of_decide_eq_true (by kernel_rfl)) k1 hn (fun y hy => by cases hy)
    have a2 := Below.trod laidOut (by kernel_rfl) (of_decide_eq_true (by kernel_rfl)) k2 hn (fun y hy => by cases hy)
    exact ⟨_, rfl, _, _, _, [], _, [], hW', trodAll_mk1 (shut_bool Tryz.underlying4 _), trodAll_cons_mk a0 (trodAll_cons_mk a1 (trodAll_cons_mk a2 trodAll_mk0)), rfl, hn.frame _, fun h => by cases h⟩
  by_cases hlong : 60 < len
  · exact long_any ten ip a0 len cap W hlong
  rcases open_slice Tryz.underlying22 hf with ⟨hcs, _⟩ | ⟨a, len', cap', m, n, D, Pl, hcs, _, hl, hmx, hm, _, hcell⟩
  · simp [Value.cells] at hcs
    obtain ⟨rfl, rfl, rfl⟩ := hcs
    exact law_none none 0 0 ten ip (fun _ => zeroHop) W (by omega) (.inl rfl) rfl
  · simp [Value.cells] at hcs
    obtain ⟨rfl, rfl, rfl⟩ := hcs
    simp only [if_true] at hm
    subst hm
    obtain ⟨b, off, spot⟩ := a
    have hu : ∀ i, i < len → ∃ hp : Hp, spot = none ∧ b < W.heap.size ∧ HopAt W b (off + i * 8) hp := by
      intro i hi
      obtain ⟨cs', hc, ht⟩ := hcell i (by omega)
      rw [cells31] at hc
      obtain ⟨_, hcl, hat⟩ := World.cells?_some hc
      obtain ⟨hp, rfl⟩ := hop_cells hcl ht
      have hsp : spot = none := by
        have h0 := hcell 0 (by omega)
        obtain ⟨cs0, hc0, _⟩ := h0
        rw [cells31] at hc0
        obtain ⟨_, hcl0, hat0⟩ := World.cells?_some hc0
        have h00 := hat0 0 (by omega)
        rw [List.getElem?_eq_getElem (by omega)] at h00
        simpa [Addr.add] using World.cell?_spot h00
      subst hsp
      have g : ∀ j v, j < 8 → [Value.int .i64 hp.T, .int .u32 hp.P, .int .i64 hp.L, .int .i64 hp.D, .int .u32 hp.X, .int .u32 hp.V, .int .u64 hp.M, .int .u64 hp.R][j]? = some v → W.cell? ⟨b, off + i * 8 + j, none⟩ = some v := by
        intro j v hj hv
        have := hat j hj
        rw [addr_add, addr_add, hv] at this
        exact this
      have g0 := g 0 _ (by omega) rfl
      have hb := World.block_lt_of_cell? W _ g0
      exact ⟨hp, rfl, hb, g0, g 1 _ (by omega) rfl, g 2 _ (by omega) rfl, g 3 _ (by omega) rfl, g 4 _ (by omega) rfl, g 5 _ (by omega) rfl, g 6 _ (by omega) rfl, g 7 _ (by omega) rfl⟩
    obtain ⟨h, hh⟩ := choose_lt hu
    rcases ho : lk h ten ip len with _ | j0
    · refine law_none _ len _ ten ip h W (by omega) ?_ ho
      by_cases hz : len = 0
      · exact .inl hz
      · obtain ⟨rfl, hb, _⟩ := hh 0 (by omega)
        exact .inr ⟨b, off, rfl, hb, fun i hi => (hh i hi).2.2⟩
    · have hj := (lk_some len j0 ho).1
      obtain ⟨rfl, hb, _⟩ := hh 0 (by omega)
      exact law_some b off len _ ten ip h j0 W (by omega) hb (fun i hi => (hh i hi).2.2) ho

set_option maxHeartbeats 4000000 in
theorem over : Rows.routeLongestRow.holds Tryz.pinned (OpenSpec.ofChange Rows.routeLongestSpec) :=
  OpenClaim.holds_of_wide 3 Tryz.f3 rfl rfl rfl rfl rfl rfl rfl ⟨rfl, rfl, rfl, rfl, rfl⟩ rfl rfl rfl rfl rfl (by as_aux_lemma => kernel_rfl) Tryz.func3 (by as_aux_lemma => kernel_rfl)
    (of_decide_eq_true (by as_aux_lemma => kernel_rfl)) (by unfold Func.isWrapper; first | (rw [if_pos (by decide +kernel)]; kernel_rfl) | (rw [if_neg (by decide +kernel)]; exact ⟨rfl, rfl⟩))
    (fun os started H enc _ => lifted os started H enc)

/-- THE STATEMENT. -/
theorem proved : Rows.RouteLongestSaid := over
#print axioms proved
end Go.Proofs.YthnnleinkflhjaaGreat.routeLongest
