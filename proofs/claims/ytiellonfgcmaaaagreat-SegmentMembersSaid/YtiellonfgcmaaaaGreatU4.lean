/- Comparisons of routes. -/
import Derived.Test.YtiellonfgcmaaaaGreatU3
import Derived.ProofKit
import Derived.OpenShut
import Derived.SizedLaws
import Derived.Lib.RowBridge
import Derived.Deep.Slices
import Derived.Deep.Fields
import Derived.ChangeSame
import Derived.Carry
namespace Go.Proofs.YtiellonfgcmaaaaGreat
open Go.RowKit Go.ChangeShapes

def RT.tun (r : RT) : List Value := [.int .i64 (r.g 32), .int .u32 (r.g 33), .int .u32 (r.g 34), .int .u32 (r.g 35)]
set_option maxRecDepth 100000 in
theorem eq_tun (r : RT) (w : World) : (Op.equalIn 10000 54 (.agg r.tun.toArray) (.agg r.tun.toArray)).run Tryz.prog w = .ok true w := by
  simp [go_sem, RT.tun, Op.eqFields]
set_option maxRecDepth 100000 in
theorem eq_esi9 (f : Nat → Int) (w : World) : (Op.equalIn 9999 24 (.agg (esiL f).toArray) (.agg (esiL f).toArray)).run Tryz.prog w = .ok true w := by
  have h := equal_array_dec (P := Tryz.prog) 9998 24 5 10 1 (esiL f).toArray (esiL f).toArray (fun i => .int .u8 (f i)) (fun i => .int .u8 (f i)) (fun i => f i == f i) Tryz.underlying24 (fun w => Tryz.sizeOf5 w) ?_ ?_ ?_ w
  · rw [h]; simp
  · intro i hi w
    match i, hi with
    | 0, _ => rfl
    | 1, _ => rfl
    | 2, _ => rfl
    | 3, _ => rfl
    | 4, _ => rfl
    | 5, _ => rfl
    | 6, _ => rfl
    | 7, _ => rfl
    | 8, _ => rfl
    | 9, _ => rfl
  · intro i hi w
    match i, hi with
    | 0, _ => rfl
    | 1, _ => rfl
    | 2, _ => rfl
    | 3, _ => rfl
    | 4, _ => rfl
    | 5, _ => rfl
    | 6, _ => rfl
    | 7, _ => rfl
    | 8, _ => rfl
    | 9, _ => rfl
  · intro i hi w
    rw [run_equalIn_int _ _ _ _ _ _ _ Tryz.underlying5]
set_option maxRecDepth 100000 in
theorem eq_nlri (r : RT) (w : World) : (Op.equalIn 10000 50 (.agg r.nlri.toArray) (.agg r.nlri.toArray)).run Tryz.prog w = .ok true w := by
  have E := fun W => eq_esi9 (fun j => r.g (2 + j)) W
  simp only [esiL] at E
  simp [go_sem, RT.nlri, Op.eqFields, E]
/-- What the two boxes hold. -/
def AF (r s : RT) (B : Nat) (W : World) : Prop := W.cell? ⟨B, 0, none⟩ = some (.int .i64 (r.g 21)) ∧ W.cell? ⟨B, 1, none⟩ = some (.slice r.pa r.pl r.pc) ∧ W.cell? ⟨B, 2, none⟩ = some (.int .u32 (r.g 23)) ∧ W.cell? ⟨B, 3, none⟩ = some (.bool (r.h 24)) ∧ W.cell? ⟨B, 4, none⟩ = some (.int .u32 (r.g 25)) ∧ W.cell? ⟨B, 5, none⟩ = some (.bool (r.h 26)) ∧ W.cell? ⟨B, 6, none⟩ = some (.int .u32 (r.g 27)) ∧ W.cell? ⟨B, 7, none⟩ = some (.bool (r.h 28)) ∧ W.cell? ⟨B, 8, none⟩ = some (.int .u32 (r.g 29)) ∧ W.cell? ⟨B, 9, none⟩ = some (.slice r.ca r.cl r.cc) ∧ W.cell? ⟨B, 10, none⟩ = some (.slice r.ma r.ml r.mc) ∧ W.cell? ⟨B + 1, 0, none⟩ = some (.int .i64 (r.g 21)) ∧ W.cell? ⟨B + 1, 1, none⟩ = some (.slice s.pa r.pl s.pc) ∧ W.cell? ⟨B + 1, 2, none⟩ = some (.int .u32 (r.g 23)) ∧ W.cell? ⟨B + 1, 3, none⟩ = some (.bool (r.h 24)) ∧ W.cell? ⟨B + 1, 4, none⟩ = some (.int .u32 (r.g 25)) ∧ W.cell? ⟨B + 1, 5, none⟩ = some (.bool (r.h 26)) ∧ W.cell? ⟨B + 1, 6, none⟩ = some (.int .u32 (r.g 27)) ∧ W.cell? ⟨B + 1, 7, none⟩ = some (.bool (r.h 28)) ∧ W.cell? ⟨B + 1, 8, none⟩ = some (.int .u32 (r.g 29)) ∧ W.cell? ⟨B + 1, 9, none⟩ = some (.slice s.ca r.cl s.cc) ∧ W.cell? ⟨B + 1, 10, none⟩ = some (.slice s.ma r.ml s.mc) ∧ W.rangeAt B 11 r.tun ∧ W.rangeAt (B + 1) 11 r.tun ∧ B + 2 ≤ W.heap.size
theorem AF.below {r s : RT} {B : Nat} {W W' : World} (h : AF r s B W) (hb : Below W.heap.size W W') : AF r s B W' := by
  obtain ⟨h0, h1, h2, h3, h4, h5, h6, h7, h8, h9, h10, k0, k1, k2, k3, k4, k5, k6, k7, k8, k9, k10, t1, t2, sz⟩ := h
  exact ⟨(hb.cell (by show B < _; omega)).trans h0, (hb.cell (by show B < _; omega)).trans h1, (hb.cell (by show B < _; omega)).trans h2, (hb.cell (by show B < _; omega)).trans h3, (hb.cell (by show B < _; omega)).trans h4, (hb.cell (by show B < _; omega)).trans h5, (hb.cell (by show B < _; omega)).trans h6, (hb.cell (by show B < _; omega)).trans h7, (hb.cell (by show B < _; omega)).trans h8, (hb.cell (by show B < _; omega)).trans h9, (hb.cell (by show B < _; omega)).trans h10, (hb.cell (by show B + 1 < _; omega)).trans k0, (hb.cell (by show B + 1 < _; omega)).trans k1, (hb.cell (by show B + 1 < _; omega)).trans k2, (hb.cell (by show B + 1 < _; omega)).trans k3, (hb.cell (by show B + 1 < _; omega)).trans k4, (hb.cell (by show B + 1 < _; omega)).trans k5, (hb.cell (by show B + 1 < _; omega)).trans k6, (hb.cell (by show B + 1 < _; omega)).trans k7, (hb.cell (by show B + 1 < _; omega)).trans k8, (hb.cell (by show B + 1 < _; omega)).trans k9, (hb.cell (by show B + 1 < _; omega)).trans k10, rangeAt_below t1 (show B < W.heap.size by omega) hb, rangeAt_below t2 (show B + 1 < W.heap.size by omega) hb, Nat.le_trans sz hb.size⟩
theorem info54w : (Tryz.prog.info? 54).map (·.size) = some 4 := by kernel_rfl
set_option maxRecDepth 100000 in
set_option maxHeartbeats 4000000 in
theorem same_attrs (r s : RT) (w : World) (ha : Alike r s) (hf : r.fine) (hr : r.lists w) (hs : s.lists w) :
    Calls Tryz.prog 82 #[.agg r.attrs.toArray, .agg s.attrs.toArray] w fun e w' => e = .returned (.bool true) ∧ Below w.heap.size w w' := by
  obtain ⟨e1, e2, e3, e4, e5, e6, e7, e8⟩ := ha
  have hs' : Row w s.pa r.pl s.pc 1 (ints r.pl r.px) ∧ Row w s.ca r.cl s.cc 1 (ints r.cl r.cx) ∧ Row w s.ma r.ml s.mc 8 (comms r.ml r.mx) := by
    have := hs
    unfold RT.lists at this
    rwa [e3, e4, e5, e6, e7, e8] at this
  have U : Hid (∀ W, Below w.heap.size w W → Calls Tryz.prog 134 #[.slice r.pa r.pl r.pc, .slice s.pa r.pl s.pc] W fun e w' => e = .returned (.bool true) ∧ Below W.heap.size W w') := fun W hW =>
    same_u32 _ _ _ _ _ (ints r.pl r.px) r.px (fun i hi => ints_get hi) W (by have := hf.1.1; omega) (hr.1.below hW) (hs'.1.below hW)
  have I : Hid (∀ W, Below w.heap.size w W → Calls Tryz.prog 15 #[.slice r.ca r.cl r.cc, .slice s.ca r.cl s.cc] W fun e w' => e = .returned (.bool true) ∧ Below W.heap.size W w') := fun W hW =>
    same_ip _ _ _ _ _ (ints r.cl r.cx) r.cx (fun i hi => ints_get hi) W (by have := hf.1.2.1; omega) (hr.2.1.below hW) (hs'.2.1.below hW)
  have M : Hid (∀ W, Below w.heap.size w W → Calls Tryz.prog 135 #[.slice r.ma r.ml r.mc, .slice s.ma r.ml s.mc] W fun e w' => e = .returned (.bool true) ∧ Below W.heap.size W w') := fun W hW =>
    same_comm _ _ _ _ _ (comms r.ml r.mx) r.mx (fun i hi => comms_get hi) W (by have := hf.1.2.2; omega) (hr.2.2.below hW) (hs'.2.2.below hW)
  have es : s.attrs = [.int .i64 (r.g 21), .slice s.pa r.pl s.pc, .int .u32 (r.g 23), .bool (r.h 24), .int .u32 (r.g 25), .bool (r.h 26), .int .u32 (r.g 27), .bool (r.h 28), .int .u32 (r.g 29), .slice s.ca r.cl s.cc, .slice s.ma r.ml s.mc] ++ r.tun := by
    simp only [RT.attrs, RT.tun, e1, e2, e3, e4, e5, List.cons_append, List.nil_append]
  have tail : ∀ {W : World} {b : Nat} {x : List Value}, W.rangeAt b 0 (x ++ r.tun) → x.length = 11 → W.rangeAt b 11 r.tun := fun {W b x} h hx => rangeAt_sub h x r.tun [] (by simp) 11 (by simp [hx])
  have er : r.attrs = [.int .i64 (r.g 21), .slice r.pa r.pl r.pc, .int .u32 (r.g 23), .bool (r.h 24), .int .u32 (r.g 25), .bool (r.h 26), .int .u32 (r.g 27), .bool (r.h 28), .int .u32 (r.g 29), .slice r.ca r.cl r.cc, .slice r.ma r.ml r.mc] ++ r.tun := rfl
  have HF0 : Hid (AF r s w.heap.size ((w.alloc (.cells r.attrs.toArray 56)).alloc (.cells s.attrs.toArray 56))) := by
    have g1 := World.rangeAt_alloc (range_new w r.attrs 56) (.cells s.attrs.toArray 56)
    have g2 := range_new (w.alloc (.cells r.attrs.toArray 56)) s.attrs 56
    rw [show (w.alloc (.cells r.attrs.toArray 56)).heap.size = w.heap.size + 1 by simp] at g2
    generalize hW : (w.alloc (.cells r.attrs.toArray 56)).alloc (.cells s.attrs.toArray 56) = W at g1 g2 ⊢
    have hsz : W.heap.size = w.heap.size + 2 := by rw [← hW]; simp
    rw [er] at g1
    rw [es] at g2
    exact ⟨g1 0 _ rfl, g1 1 _ rfl, g1 2 _ rfl, g1 3 _ rfl, g1 4 _ rfl, g1 5 _ rfl, g1 6 _ rfl, g1 7 _ rfl, g1 8 _ rfl, g1 9 _ rfl, g1 10 _ rfl, g2 0 _ rfl, g2 1 _ rfl, g2 2 _ rfl, g2 3 _ rfl, g2 4 _ rfl, g2 5 _ rfl, g2 6 _ rfl, g2 7 _ rfl, g2 8 _ rfl, g2 9 _ rfl, g2 10 _ rfl, tail g1 rfl, tail g2 rfl, by omega⟩
  have b0 : Hid (Below w.heap.size w ((w.alloc (.cells r.attrs.toArray 56)).alloc (.cells s.attrs.toArray 56))) := ((Below.refl _ _).alloc (Nat.le_refl _) _).alloc (by simp) _
  have ET := fun W => eq_tun r W
  generalize hx : r.attrs.toArray = X at HF0 b0 ⊢
  generalize hy : s.attrs.toArray = Y at HF0 b0 ⊢
  clear es er tail hs hs' hr hf e1 e2 e3 e4 e5 e6 e7 e8 hx hy
  go_enter Tryz.func82, Tryz.ntmps82
  iterate 15 go_step
  generalize (w.alloc (.cells X 56)).alloc (.cells Y 56) = W0 at HF0 b0 ⊢
  obtain ⟨h0, h1, h2, h3, h4, h5, h6, h7, h8, h9, h10, k0, k1, k2, k3, k4, k5, k6, k7, k8, k9, k10, t1, t2, sz⟩ := HF0.out
  replace sz := Lib.hid sz
  go_wp2_with (first
    | (go_at_call 134; refine (U.out _ b0.out).mono ?_; rintro e w3 ⟨rfl, q⟩
       have b1 := Lib.hid (b0.out.trans (q.mono b0.out.size))
       have HF1 := Lib.hid (HF0.out.below q)
       clear q h0 h1 h2 h3 h4 h5 h6 h7 h8 h9 h10 k0 k1 k2 k3 k4 k5 k6 k7 k8 k9 k10 t1 t2 sz
       obtain ⟨h0, h1, h2, h3, h4, h5, h6, h7, h8, h9, h10, k0, k1, k2, k3, k4, k5, k6, k7, k8, k9, k10, t1, t2, sz⟩ := HF1.out
       replace sz := Lib.hid sz)
    | (go_at_call 15; refine (I.out _ b1.out).mono ?_; rintro e w4 ⟨rfl, q⟩
       have b2 := Lib.hid (b1.out.trans (q.mono b1.out.size))
       have HF2 := Lib.hid (HF1.out.below q)
       clear q h0 h1 h2 h3 h4 h5 h6 h7 h8 h9 h10 k0 k1 k2 k3 k4 k5 k6 k7 k8 k9 k10 t1 t2 sz
       obtain ⟨h0, h1, h2, h3, h4, h5, h6, h7, h8, h9, h10, k0, k1, k2, k3, k4, k5, k6, k7, k8, k9, k10, t1, t2, sz⟩ := HF2.out
       replace sz := Lib.hid sz)
    | (go_at_call 135; refine (M.out _ b2.out).mono ?_; rintro e w5 ⟨rfl, q⟩
       have b3 := Lib.hid (b2.out.trans (q.mono b2.out.size))
       have HF3 := Lib.hid (HF2.out.below q)
       clear q h0 h1 h2 h3 h4 h5 h6 h7 h8 h9 h10 k0 k1 k2 k3 k4 k5 k6 k7 k8 k9 k10 t1 t2 sz
       obtain ⟨h0, h1, h2, h3, h4, h5, h6, h7, h8, h9, h10, k0, k1, k2, k3, k4, k5, k6, k7, k8, k9, k10, t1, t2, sz⟩ := HF3.out
       replace sz := Lib.hid sz)
    | ((with_reducible show wpList _ _ _ _ _ _); first
        | (refine wpList_load_g rfl 54 (.tmp 81) rfl w.heap.size 11 rfl r.tun _ t1 Tryz.underlying54 rfl info54w ?_)
        | (refine wpList_load_g rfl 54 (.tmp 83) rfl (w.heap.size + 1) 11 rfl r.tun _ t2 Tryz.underlying54 rfl info54w ?_)))
  go_ret
  exact ⟨rfl, b3.out⟩
end Go.Proofs.YtiellonfgcmaaaaGreat

/- Comparisons of routes and lists of routes. -/
namespace Go.Proofs.YtiellonfgcmaaaaGreat
open Go.RowKit Go.ChangeShapes

set_option maxRecDepth 100000 in
set_option maxHeartbeats 4000000 in
theorem same_route (r s : RT) (w : World) (ha : Alike r s) (hf : r.fine) (hr : r.lists w) (hs : s.lists w) :
    Calls Tryz.prog 52 #[.agg r.cells.toArray, .agg s.cells.toArray] w fun e w' => e = .returned (.bool true) ∧ Below w.heap.size w w' := by
  have SA : Hid (∀ W, Below w.heap.size w W → Calls Tryz.prog 82 #[.agg r.attrs.toArray, .agg s.attrs.toArray] W fun e w' => e = .returned (.bool true) ∧ Below W.heap.size W w') := fun W hW => same_attrs r s W ha hf (hr.below hW) (hs.below hW)
  have es : s.cells = r.nlri ++ s.attrs ++ [.int .u32 (r.g 36), .bool (r.h 37)] := alike_cells ha
  have FS : Hid (∀ W, W = (w.alloc (.cells r.cells.toArray 58)).alloc (.cells s.cells.toArray 58) → (W.rangeAt w.heap.size 0 r.nlri ∧ W.rangeAt w.heap.size 21 r.attrs ∧ W.cell? ⟨w.heap.size, 36, none⟩ = some (.int .u32 (r.g 36)) ∧ W.cell? ⟨w.heap.size, 37, none⟩ = some (.bool (r.h 37))) ∧
      (W.rangeAt (w.heap.size + 1) 0 r.nlri ∧ W.rangeAt (w.heap.size + 1) 21 s.attrs ∧ W.cell? ⟨w.heap.size + 1, 36, none⟩ = some (.int .u32 (r.g 36)) ∧ W.cell? ⟨w.heap.size + 1, 37, none⟩ = some (.bool (r.h 37))) ∧ W.heap.size = w.heap.size + 2 ∧ Below w.heap.size w W) := by
    rintro W hW
    have g1 := World.rangeAt_alloc (range_new w r.cells 58) (.cells s.cells.toArray 58)
    have g2 := range_new (w.alloc (.cells r.cells.toArray 58)) s.cells 58
    rw [show (w.alloc (.cells r.cells.toArray 58)).heap.size = w.heap.size + 1 by simp] at g2
    have hb : Below w.heap.size w W := by rw [hW]; exact ((Below.refl _ _).alloc (Nat.le_refl _) _).alloc (by simp) _
    have hsz : W.heap.size = w.heap.size + 2 := by rw [hW]; simp
    rw [← hW] at g1 g2
    rw [es] at g2
    rw [r.cells_eq] at g1
    have part : ∀ (b : Nat) (x : List Value), x.length = 15 → W.rangeAt b 0 (r.nlri ++ x ++ [.int .u32 (r.g 36), .bool (r.h 37)]) → W.rangeAt b 0 r.nlri ∧ W.rangeAt b 21 x ∧ W.cell? ⟨b, 36, none⟩ = some (.int .u32 (r.g 36)) ∧ W.cell? ⟨b, 37, none⟩ = some (.bool (r.h 37)) := by
      intro b x hx h
      have t := rangeAt_sub h (r.nlri ++ x) [.int .u32 (r.g 36), .bool (r.h 37)] [] (by simp) 36 (by simp [RT.nlri, hx])
      exact ⟨rangeAt_sub h [] r.nlri _ (by simp; rfl) 0 rfl, rangeAt_sub h r.nlri x _ rfl 21 (by simp [RT.nlri]), t 0 _ rfl, t 1 _ rfl⟩
    exact ⟨part _ _ rfl g1, part _ _ rfl g2, hsz, hb⟩
  have EN := fun W => eq_nlri r W
  generalize hx : r.cells.toArray = X at FS ⊢
  generalize hy : s.cells.toArray = Y at FS ⊢
  clear es hs hr hf ha hx hy
  go_enter Tryz.func52, Tryz.ntmps52
  iterate 15 go_step
  have F := FS.out _ rfl
  generalize (w.alloc (.cells X 58)).alloc (.cells Y 58) = W0 at F ⊢
  obtain ⟨⟨n1, a1, p1, z1⟩, ⟨n2, a2, p2, z2⟩, sz, hb⟩ := F
  have SZ := Lib.hid sz
  have HB := Lib.hid hb
  clear sz hb FS
  go_wp2_with (first
    | ((with_reducible show wpList _ _ _ _ _ _); first
        | (refine wpList_load_mid rfl 50 (.tmp 5) rfl w.heap.size 0 rfl r.nlri _ n1 Tryz.underlying50 rfl info50w ?_)
        | (refine wpList_load_mid rfl 50 (.tmp 7) rfl (w.heap.size + 1) 0 rfl r.nlri _ n2 Tryz.underlying50 rfl info50w ?_)
        | (refine wpList_load_g rfl 56 (.tmp 11) rfl w.heap.size 21 rfl r.attrs _ a1 Tryz.underlying56 rfl info56w ?_)
        | (refine wpList_load_g rfl 56 (.tmp 13) rfl (w.heap.size + 1) 21 rfl s.attrs _ a2 Tryz.underlying56 rfl info56w ?_))
    | (go_at_call 82; refine (SA.out _ HB.out).mono ?_; rintro e w1 ⟨rfl, q⟩
       have p1' : w1.cell? ⟨w.heap.size, 36, none⟩ = some (.int .u32 (r.g 36)) := (q.cell (by show w.heap.size < _; rw [SZ.out]; omega)).trans p1
       have z1' : w1.cell? ⟨w.heap.size, 37, none⟩ = some (.bool (r.h 37)) := (q.cell (by show w.heap.size < _; rw [SZ.out]; omega)).trans z1
       have p2' : w1.cell? ⟨w.heap.size + 1, 36, none⟩ = some (.int .u32 (r.g 36)) := (q.cell (by show w.heap.size + 1 < _; rw [SZ.out]; omega)).trans p2
       have z2' : w1.cell? ⟨w.heap.size + 1, 37, none⟩ = some (.bool (r.h 37)) := (q.cell (by show w.heap.size + 1 < _; rw [SZ.out]; omega)).trans z2
       have HB1 := Lib.hid (HB.out.trans (q.mono HB.out.size))
       clear q p1 p2 z1 z2 n1 n2 a1 a2))
  go_ret
  exact ⟨rfl, HB1.out⟩
set_option maxRecDepth 100000 in
set_option maxHeartbeats 4000000 in
theorem same_routes_some (b off c b2 off2 c2 : Nat) (rs ss : List RT) (w : World) (hn : rs.length ≤ 60) (ha : Alikes rs ss) (h1 : Lies w b off rs) (h2 : Lies w b2 off2 ss) (hr : ∀ r ∈ rs, r.fine ∧ r.lists w) (hs : ∀ r ∈ ss, r.fine ∧ r.lists w) :
    Calls Tryz.prog 18 #[.slice (some ⟨b, off, none⟩) rs.length c, .slice (some ⟨b2, off2, none⟩) rs.length c2] w fun e w' => e = .returned (.bool true) ∧ Below w.heap.size w w' := by
  obtain ⟨n, hnl⟩ : ∃ n, n = rs.length := ⟨_, rfl⟩
  have NL := Lib.hid hnl
  have SL : Hid (n = ss.length) := by show n = _; rw [ha.length]; exact hnl
  rw [← hnl] at hn ⊢
  have HA := Lib.hid ha
  have L1 := Lib.hid h1
  have L2 := Lib.hid h2
  have HR := Lib.hid hr
  have HS := Lib.hid hs
  have HB1 := Lib.hid h1.1
  have HB2 := Lib.hid h2.1
  clear hnl ha h1 h2 hr hs
  go_enter Tryz.func18, Tryz.ntmps18
  go_wp2_with fail
  go_loopw [5] (fun i wr => ∃ k : Nat, k ≤ n ∧ i = .int .i64 k ∧ Hid (Below w.heap.size w wr)) (fun i _ => n - (intOf i).toNat)
  case atStart => exact ⟨0, Nat.zero_le _, rfl, Below.refl _ _⟩
  case round =>
    obtain ⟨k, hk, rfl, hbl⟩ := hrel
    by_cases hlt : k < n
    · obtain ⟨r, hr⟩ : ∃ r, rs[k]? = some r := ⟨_, List.getElem?_eq_getElem (by rw [← NL.out]; exact hlt)⟩
      obtain ⟨s, hs⟩ : ∃ s, ss[k]? = some s := ⟨_, List.getElem?_eq_getElem (by rw [← SL.out]; exact hlt)⟩
      have RG1 : wr.rangeAt b (off + k * 38) r.cells := fun j v hj => (hbl.out.cell (by exact HB1.out)).trans (L1.out.2 k j r v hr hj)
      have RG2 : wr.rangeAt b2 (off2 + k * 38) s.cells := fun j v hj => (hbl.out.cell (by exact HB2.out)).trans (L2.out.2 k j s v hs hj)
      have SR : Hid (∀ W, Below wr.heap.size wr W → Calls Tryz.prog 52 #[.agg r.cells.toArray, .agg s.cells.toArray] W fun e w' => e = .returned (.bool true) ∧ Below W.heap.size W w') := fun W hW =>
        same_route r s W (HA.out.get hr hs) (HR.out r (List.mem_of_getElem? hr)).1 (((HR.out r (List.mem_of_getElem? hr)).2.below hbl.out).below hW) (((HS.out s (List.mem_of_getElem? hs)).2.below hbl.out).below hW)
      have lt' : (k : Int) < n := by omega
      have h0' : (0 : Int) ≤ k := by omega
      clear hr hs
      go_wp2_with fail
      refine wp_region_held_drew (S := fun W => W.rangeAt b (off + k * 38) r.cells ∧ W.rangeAt b2 (off2 + k * 38) s.cells) (by kernel_rfl) ⟨RG1, RG2⟩ (fun hS => ?_)
      refine wpAnyH_take (i := 0) (oi := { dst := some 17, op := Op.move (Operand.tmp 0), type := 22, pos := "routes.go:21", after := #[], guard := none }) (v := ?_) rfl (by kernel_rfl) (by kernel_rfl) (by kernel_rfl) (fun _ _ _ h => h) (Or.inl ⟨by rfl, ?_⟩) hS ?_
      rotate_left
      · intro W hSw; clear hSw; go_simp; (try with_reducible rfl)
      (try simp only [Act.put, List.setIfInBounds_toArray, List.set_cons_zero, List.set_cons_succ])
      refine wpAnyH_take (i := 1) (oi := { dst := some 18, op := Op.move (Operand.tmp 5), type := 3, pos := "routes.go:21", after := #[], guard := none }) (v := ?_) rfl (by kernel_rfl) (by kernel_rfl) (by kernel_rfl) (fun _ _ _ h => h) (Or.inl ⟨by rfl, ?_⟩) hS ?_
      rotate_left
      · intro W hSw; clear hSw; go_simp; (try with_reducible rfl)
      (try simp only [Act.put, List.setIfInBounds_toArray, List.set_cons_zero, List.set_cons_succ])
      refine wpAnyH_take (i := 2) (oi := { dst := some 19, op := Op.indexAddr 22 (Operand.tmp 17) (Operand.tmp 18), type := 0, pos := "routes.go:21", after := #[{ on := 0, ground := Ground.data }, { on := 1, ground := Ground.data }], guard := none }) (v := ?_) rfl (by kernel_rfl) (by kernel_rfl) (by kernel_rfl) (fun _ _ _ h => h) (Or.inl ⟨by rfl, ?_⟩) hS ?_
      rotate_left
      · intro W hSw; clear hSw; go_simp; (try with_reducible rfl)
      (try simp only [Act.put, List.setIfInBounds_toArray, List.set_cons_zero, List.set_cons_succ])
      refine wpAnyH_take (i := 3) (oi := { dst := some 20, op := Op.load 58 (Operand.tmp 19), type := 58, pos := "routes.go:21", after := #[{ on := 2, ground := Ground.data }], guard := none }) (v := .agg r.cells.toArray) rfl (by kernel_rfl) (by kernel_rfl) (by kernel_rfl) (fun _ _ _ h => h) ?_ hS ?_
      · exact yieldsIf_load_mid (by rfl) 58 (.tmp 19) rfl b (off + k * 38) rfl r.cells _ (fun W hW => hW.1) Tryz.underlying58 rfl info58w
      (try simp only [Act.put, List.setIfInBounds_toArray, List.set_cons_zero, List.set_cons_succ])
      refine wpAnyH_take (i := 4) (oi := { dst := some 21, op := Op.move (Operand.tmp 1), type := 22, pos := "routes.go:21", after := #[], guard := none }) (v := ?_) rfl (by kernel_rfl) (by kernel_rfl) (by kernel_rfl) (fun _ _ _ h => h) (Or.inl ⟨by rfl, ?_⟩) hS ?_
      rotate_left
      · intro W hSw; clear hSw; go_simp; (try with_reducible rfl)
      (try simp only [Act.put, List.setIfInBounds_toArray, List.set_cons_zero, List.set_cons_succ])
      refine wpAnyH_take (i := 5) (oi := { dst := some 22, op := Op.move (Operand.tmp 5), type := 3, pos := "routes.go:21", after := #[], guard := none }) (v := ?_) rfl (by kernel_rfl) (by kernel_rfl) (by kernel_rfl) (fun _ _ _ h => h) (Or.inl ⟨by rfl, ?_⟩) hS ?_
      rotate_left
      · intro W hSw; clear hSw; go_simp; (try with_reducible rfl)
      (try simp only [Act.put, List.setIfInBounds_toArray, List.set_cons_zero, List.set_cons_succ])
      refine wpAnyH_take (i := 6) (oi := { dst := some 23, op := Op.indexAddr 22 (Operand.tmp 21) (Operand.tmp 22), type := 0, pos := "routes.go:21", after := #[{ on := 4, ground := Ground.data }, { on := 5, ground := Ground.data }], guard := none }) (v := ?_) rfl (by kernel_rfl) (by kernel_rfl) (by kernel_rfl) (fun _ _ _ h => h) (Or.inl ⟨by rfl, ?_⟩) hS ?_
      rotate_left
      · intro W hSw; clear hSw; go_simp; (try with_reducible rfl)
      (try simp only [Act.put, List.setIfInBounds_toArray, List.set_cons_zero, List.set_cons_succ])
      refine wpAnyH_take (i := 7) (oi := { dst := some 24, op := Op.load 58 (Operand.tmp 23), type := 58, pos := "routes.go:21", after := #[{ on := 6, ground := Ground.data }], guard := none }) (v := .agg s.cells.toArray) rfl (by kernel_rfl) (by kernel_rfl) (by kernel_rfl) (fun _ _ _ h => h) ?_ hS ?_
      · exact yieldsIf_load_mid (by rfl) 58 (.tmp 23) rfl b2 (off2 + k * 38) rfl s.cells _ (fun W hW => hW.2) Tryz.underlying58 rfl info58w
      (try simp only [Act.put, List.setIfInBounds_toArray, List.set_cons_zero, List.set_cons_succ])
      refine wpAnyH_ready (rs := [8]) (by kernel_rfl) (by simp) (AllReadyH.cons (o := { dst := some 25, op := Op.call { callee := Callee.value (Operand.func 52), args := #[Operand.tmp 20, Operand.tmp 24], argTypes := #[58, 58] }, type := 4, pos := "routes.go:21", after := #[{ on := 3, ground := Ground.data }, { on := 7, ground := Ground.data }], guard := none }) rfl (fun K hK => ?_) AllReadyH.nil)
      go_simp
      refine (SR.out _ (Below.refl _ _).drew).mono ?_
      rintro e w1 ⟨rfl, q1⟩
      have hS : w1.rangeAt b (off + k * 38) r.cells ∧ w1.rangeAt b2 (off2 + k * 38) s.cells := ⟨rangeAt_below hS.1 (Nat.lt_of_lt_of_le HB1.out (by exact hbl.out.size)) q1, rangeAt_below hS.2 (Nat.lt_of_lt_of_le HB2.out (by exact hbl.out.size)) q1⟩
      have Q1 := Lib.hid (show Below wr.heap.size wr w1 from (Below.refl _ _).drew.trans q1)
      clear q1
      go_simp
      refine hK.out _ _ hS (fun _ => ?_)
      clear hK K
      (try simp only [Act.put, List.setIfInBounds_toArray, List.set_cons_zero, List.set_cons_succ])
      refine wpAnyH_take (i := 9) (oi := { dst := some 26, op := Op.unOp UnOp.not 4 (Operand.tmp 25), type := 4, pos := "routes.go:21", after := #[{ on := 8, ground := Ground.data }], guard := none }) (v := ?_) rfl (by kernel_rfl) (by kernel_rfl) (by kernel_rfl) (fun _ _ _ h => h) (Or.inl ⟨by rfl, ?_⟩) hS ?_
      rotate_left
      · intro W hSw; clear hSw; go_simp; (try with_reducible rfl)
      (try simp only [Act.put, List.setIfInBounds_toArray, List.set_cons_zero, List.set_cons_succ])
      refine wpAnyH_done (by kernel_rfl) ?_ _
      go_wp2_with fail
      go_roundw
      case rel => exact ⟨k + 1, by omega, by go_num, hbl.out.trans (Q1.out.mono hbl.out.size)⟩
      case measure => simp [intOf]; omega
    · obtain rfl : k = n := by omega
      go_wp2_with fail
      go_ret
      exact ⟨rfl, hbl.out⟩
set_option maxRecDepth 100000 in
theorem same_routes_none (A A' : Option Addr) (c c' : Nat) (w : World) : Calls Tryz.prog 18 #[.slice A 0 c, .slice A' 0 c'] w fun e w' => e = .returned (.bool true) ∧ w' = w := by
  go_enter Tryz.func18, Tryz.ntmps18
  go_wp2
  refine wp_loop_rounds 1 ?_
  rw [rounds_succ]
  go_wp2
  go_ret
  exact ⟨rfl, rfl⟩
theorem same_routes (A A' : Option Addr) (c c' : Nat) (rs ss : List RT) (w : World) (hn : rs.length ≤ 60) (ha : Alikes rs ss) (h1 : Routes w A rs) (h2 : Routes w A' ss) (hr : ∀ r ∈ rs, r.fine ∧ r.lists w) (hs : ∀ r ∈ ss, r.fine ∧ r.lists w) :
    Calls Tryz.prog 18 #[.slice A rs.length c, .slice A' rs.length c'] w fun e w' => e = .returned (.bool true) ∧ Below w.heap.size w w' := by
  have fin : rs = [] → Calls Tryz.prog 18 #[.slice A rs.length c, .slice A' rs.length c'] w fun e w' => e = .returned (.bool true) ∧ Below w.heap.size w w' := fun h => by
    subst h
    exact (same_routes_none A A' c c' w).mono fun e w' ⟨h1, h2⟩ => ⟨h1, by rw [h2]; exact Below.refl _ _⟩
  rcases h1 with h | ⟨b, off, rfl, h1⟩
  · exact fin h
  · rcases h2 with h | ⟨b2, off2, rfl, h2⟩
    · exact fin (by have := ha.length; rw [h] at this; exact List.eq_nil_of_length_eq_zero this.symm)
    · exact same_routes_some b off c b2 off2 c' rs ss w hn ha h1 h2 hr hs
end Go.Proofs.YtiellonfgcmaaaaGreat

/- The law's parts. -/
namespace Go.Proofs.YtiellonfgcmaaaaGreat
open Go.RowKit Go.ChangeShapes

set_option maxRecDepth 100000 in
set_option maxHeartbeats 4000000 in
theorem same_cand (v v' : Value) (l : List (Int × Int)) (w : World) (hn : l.length ≤ 60) (h : CandW w v l) (h' : CandW w v' l) :
    Calls Tryz.prog 14 #[v, v'] w fun e w' => e = .returned (.bool true) ∧ Below w.heap.size w w' := by
  obtain ⟨A, c, rfl, h⟩ := h
  obtain ⟨A', c', rfl, h'⟩ := h'
  obtain ⟨n, hnl⟩ : ∃ n, n = l.length := ⟨_, rfl⟩
  have NL := Lib.hid hnl
  rw [← hnl] at h h' hn ⊢
  clear hnl
  rcases h with ⟨rfl, _⟩ | ⟨b, off, rfl, h2, h3, h4, h5⟩
  · go_enter Tryz.func14, Tryz.ntmps14
    go_wp2
    refine wp_loop_rounds 1 ?_
    rw [rounds_succ]
    go_wp2
    go_ret
    exact ⟨rfl, Below.refl _ _⟩
  · rcases h' with ⟨rfl, _⟩ | ⟨b2, off2, rfl, k2, k3, k4, k5⟩
    · go_enter Tryz.func14, Tryz.ntmps14
      go_wp2
      refine wp_loop_rounds 1 ?_
      rw [rounds_succ]
      go_wp2
      go_ret
      exact ⟨rfl, Below.refl _ _⟩
    · have C1 := Lib.hid h5
      have C2 := Lib.hid k5
      clear h5 k5 h4 k4
      go_enter Tryz.func14, Tryz.ntmps14
      go_wp2
      go_loopw [5] (fun i wr => ∃ k m : Nat, k ≤ n ∧ i = .int .i64 k ∧ wr = w.drewN m) (fun i _ => n - (intOf i).toNat)
      case atStart => exact ⟨0, 0, Nat.zero_le _, rfl, rfl⟩
      case round =>
        obtain ⟨k, m, hk, rfl, rfl⟩ := hrel
        by_cases hlt : k < n
        · obtain ⟨⟨x, y⟩, hx⟩ : ∃ x, l[k]? = some x := ⟨_, List.getElem?_eq_getElem (by rw [← NL.out]; exact hlt)⟩
          have g0 : w.cell? ⟨b, off + k * 2, none⟩ = some (.int .u32 x) := C1.out (k * 2) _ (candL_get hx).1
          have g1 : w.cell? ⟨b, off + k * 2 + 1, none⟩ = some (.int .i64 y) := C1.out (k * 2 + 1) _ (candL_get hx).2
          have e0 : w.cell? ⟨b2, off2 + k * 2, none⟩ = some (.int .u32 x) := C2.out (k * 2) _ (candL_get hx).1
          have e1 : w.cell? ⟨b2, off2 + k * 2 + 1, none⟩ = some (.int .i64 y) := C2.out (k * 2 + 1) _ (candL_get hx).2
          clear hx
          go_wp2
          go_quiet (fail)
          go_wp2
          go_roundw
          case rel => exact ⟨k + 1, _, by omega, by go_num, rfl⟩
          case measure => simp [intOf]; omega
        · go_wp2
          go_ret
          exact ⟨rfl, drewN_below _ _⟩
theorem Alike.symm {r s : RT} (h : Alike r s) : Alike s r := ⟨h.1.symm, h.2.1.symm, h.2.2.1.symm, h.2.2.2.1.symm, h.2.2.2.2.1.symm, h.2.2.2.2.2.1.symm, h.2.2.2.2.2.2.1.symm, h.2.2.2.2.2.2.2.symm⟩
theorem Alikes.symm {rs ss : List RT} (h : Alikes rs ss) : Alikes ss rs := by
  induction h with
  | nil => exact .nil
  | cons a _ ih => exact .cons a.symm ih
theorem Alike.sel {r t : RT} (h : Alike r t) (s : Nat → Int) : selR s t = selR s r := by unfold selR; rw [h.1]
theorem Alikes.same {rs ss : List RT} (h : Alikes rs ss) (s : Nat → Int) : pairs (ss.filter (selR s)) = pairs (rs.filter (selR s)) ∧ elecs (ss.filter (selR s)) = elecs (rs.filter (selR s)) ∧ nexts (ss.filter (selR s)) = nexts (rs.filter (selR s)) := by
  induction h with
  | nil => exact ⟨rfl, rfl, rfl⟩
  | @cons r t rs ss a _ ih =>
    have e1 : t.g 23 = r.g 23 := by rw [a.1]
    have e2 : rPref t = rPref r := by unfold rPref; rw [a.2.2.2.2.1, a.2.2.2.2.2.2.2]
    have e3 : rAlg t = rAlg r := by unfold rAlg; rw [a.2.2.2.2.1, a.2.2.2.2.2.2.2]
    have e4 : rIs t = rIs r := by unfold rIs; rw [a.2.2.2.2.1, a.2.2.2.2.2.2.2]
    simp only [List.filter_cons, a.sel s]
    cases selR s r with
    | false => simpa using ih
    | true =>
      obtain ⟨h1, h2, h3⟩ := ih
      simp only [pairs, elecs, nexts, if_true, List.map_cons, e1, e2, e3, e4] at h1 h2 h3 ⊢
      rw [h1, h2, h3]
      exact ⟨rfl, rfl, rfl⟩
theorem nexts_pairs (fs : List RT) (x : Int) : x ∈ nexts fs ↔ ∃ c ∈ pairs fs, c.1 = x := by
  constructor
  · intro h
    obtain ⟨r, hr, rfl⟩ := List.mem_map.1 h
    exact ⟨_, List.mem_map.2 ⟨r, hr, rfl⟩, rfl⟩
  · rintro ⟨c, hc, rfl⟩
    obtain ⟨r, hr, rfl⟩ := List.mem_map.1 hc
    exact List.mem_map.2 ⟨r, hr, rfl⟩
def rt0 : RT := ⟨fun _ => 0, fun _ => false, none, 0, 0, none, 0, 0, none, 0, 0, fun _ => 0, fun _ => 0, fun _ _ => 0⟩
def manyR (rs : List RT) : Bool := manyB rs.length (fun i => (rs.getD i rt0).pl) (fun i => (rs.getD i rt0).cl) (fun i => (rs.getD i rt0).ml)
theorem many_any (A : Option Addr) (c : Nat) (rs : List RT) (w : World) (h : Routes w A rs) : Calls Tryz.prog 9 #[.slice A rs.length c] w fun e w' => e = .returned (.bool (manyR rs)) ∧ w' = w := by
  rcases Nat.lt_or_ge 60 rs.length with hl | hl
  · exact many_long A rs.length c _ _ _ hl w
  · rcases h with rfl | ⟨b, off, rfl, h⟩
    · exact many_none A c _ _ _ w
    · have get : ∀ i, i < rs.length → rs[i]? = some (rs.getD i rt0) := fun i hi => by rw [List.getElem?_eq_getElem hi, List.getD_eq_getElem?_getD, List.getElem?_eq_getElem hi]; rfl
      exact many_some b off rs.length c (fun i => (rs.getD i rt0).pa) (fun i => (rs.getD i rt0).ca) (fun i => (rs.getD i rt0).ma) _ _ _ (fun i => (rs.getD i rt0).pc) (fun i => (rs.getD i rt0).cc) (fun i => (rs.getD i rt0).mc) hl w
        (fun i hi => h.2 i 22 _ _ (get i hi) rfl) (fun i hi => h.2 i 30 _ _ (get i hi) rfl) (fun i hi => h.2 i 31 _ _ (get i hi) rfl)
/-- What a decoded route keeps to, however long its lists. -/
def RT.sound (r : RT) : Prop := (r.pa = none → r.pl = 0 ∧ r.pc = 0) ∧ (r.ca = none → r.cl = 0 ∧ r.cc = 0) ∧ (r.ma = none → r.ml = 0 ∧ r.mc = 0) ∧ ∀ i j, 0 ≤ r.mx i j ∧ r.mx i j ≤ 255
theorem fine_of {rs : List RT} (h : manyR rs = false) (hs : ∀ r ∈ rs, r.sound) : rs.length ≤ 60 ∧ ∀ r ∈ rs, r.fine := by
  obtain ⟨h1, h2⟩ := manyB_of h
  refine ⟨h1, fun r hr => ?_⟩
  obtain ⟨i, hi⟩ := List.mem_iff_getElem?.1 hr
  have hil := (List.getElem?_eq_some_iff.1 hi).1
  have h3 := h2 i hil
  have e : rs.getD i rt0 = r := by rw [List.getD_eq_getElem?_getD, hi]; rfl
  simp only [e] at h3
  exact ⟨h3, hs r hr⟩
end Go.Proofs.YtiellonfgcmaaaaGreat

/- The law of the members, walked. -/
namespace Go.Proofs.YtiellonfgcmaaaaGreat
open Go.RowKit Go.ChangeShapes

set_option maxRecDepth 100000 in
set_option maxHeartbeats 4000000 in
theorem members_many (A : Option Addr) (c : Nat) (rs : List RT) (s : Nat → Int) (w : World) (h : Routes w A rs) (hm : manyR rs = true) :
    Calls Tryz.prog 3 #[.slice A rs.length c, .agg (esiL s).toArray] w fun e w' => e = .returned (.bool true) ∧ Below w.heap.size w w' := by
  have B0 : Hid (Below w.heap.size w (w.alloc (.cells (esiL s).toArray 24))) := (Below.refl _ _).alloc (Nat.le_refl _) _
  have MA := Lib.hid (many_any A c rs (w.alloc (.cells (esiL s).toArray 24)) (h.below B0.out))
  rw [hm] at MA
  clear hm h
  obtain ⟨n, hn⟩ : ∃ n, n = rs.length := ⟨_, rfl⟩
  rw [← hn] at MA ⊢
  clear hn
  go_enter Tryz.func3, Tryz.ntmps3
  go_wp2_with (first
    | (go_at_call 9; refine Calls.mono MA.out ?_; rintro e w1 ⟨rfl, rfl⟩)
    | (go_at_call 10; refine (awake10 _).mono ?_; rintro e w2 ⟨rfl, q⟩; replace q := Lib.hid q))
  go_ret
  exact ⟨rfl, B0.out.trans (q.out.mono B0.out.size)⟩
set_option maxRecDepth 100000 in
set_option maxHeartbeats 4000000 in
theorem members_few (A : Option Addr) (c : Nat) (rs : List RT) (s : Nat → Int) (w : World) (h : Routes w A rs) (hm : manyR rs = false) (hs : ∀ r ∈ rs, r.sound ∧ r.lists w) :
    Calls Tryz.prog 3 #[.slice A rs.length c, .agg (esiL s).toArray] w fun e w' => e = .returned (.bool true) ∧ Below w.heap.size w w' := by
  obtain ⟨hn, hfine⟩ := fine_of hm fun r hr => (hs r hr).1
  have hfl : ∀ r ∈ rs, r.fine ∧ r.lists w := fun r hr => ⟨hfine r hr, (hs r hr).2⟩
  obtain ⟨W0, hW0⟩ : ∃ W0, W0 = w.alloc (.cells (esiL s).toArray 24) := ⟨_, rfl⟩
  have B0 : Hid (Below w.heap.size w W0) := by rw [hW0]; exact (Below.refl _ _).alloc (Nat.le_refl _) _
  have BOX : W0.rangeAt w.heap.size 0 (esiL s) := by rw [hW0]; exact range_new w (esiL s) 24
  have SB : Hid (w.heap.size < W0.heap.size) := by rw [hW0]; show _ < _; simp
  have R0 := Lib.hid (h.below B0.out)
  have F0 : Hid (∀ r ∈ rs, r.fine ∧ r.lists W0) := fun r hr => ⟨(hfl r hr).1, (hfl r hr).2.below B0.out⟩
  have MA := Lib.hid (many_any A c rs W0 R0.out)
  rw [hm] at MA
  have OW : Hid (Calls Tryz.prog 11 #[.slice A rs.length c] W0 fun e w' => ∃ v ss, e = .returned v ∧ w'.ownsRow W0.heap.size 58 38 v rs.length (ss.flatMap RT.cells) ∧ Alikes rs ss ∧ (∀ r ∈ ss, r.fine ∧ r.lists w') ∧ Below W0.heap.size W0 w') := by
    rcases R0.out with h0 | ⟨b, off, rfl, hl⟩
    · subst h0
      refine (own_routes_none c A W0).mono ?_
      rintro e w' ⟨rfl, rfl⟩
      exact ⟨_, [], rfl, World.ownsRow_nil _ _ _ _, .nil, (fun r hr => by cases hr), Below.refl _ _⟩
    · exact own_routes b off c rs W0 hn hl F0.out
  have RC : Hid (∀ W, Below W0.heap.size W0 W → Calls Tryz.prog 13 #[.slice A rs.length c, .agg (esiL s).toArray] W (RCandPost W (rs.filter (selR s)))) := fun W hW =>
    rcand_any A c rs s W hn (fun r hr => ⟨(F0.out r hr).1, (F0.out r hr).2.below hW⟩) (R0.out.below hW)
  have RM : Hid (∀ W, Below W0.heap.size W0 W → Calls Tryz.prog 17 #[.slice A rs.length c, .agg (esiL s).toArray] W (RMemPost W (rs.filter (selR s)))) := fun W hW =>
    rmembers A c rs s W hn (fun r hr => ⟨(F0.out r hr).1, (F0.out r hr).2.below hW⟩) (R0.out.below hW)
  have NLE := Lib.hid hn
  obtain ⟨n, hnn⟩ : ∃ n, n = rs.length := ⟨_, rfl⟩
  rw [← hnn] at MA OW RC RM ⊢
  have HN := Lib.hid hnn
  have HW0 := Lib.hid hW0
  clear hm h hfine hfl hs hn hnn hW0
  go_enter Tryz.func3, Tryz.ntmps3
  go_wp2_with (go_at_call 9; fail)
  rw [← HW0.out]
  refine Calls.mono MA.out ?_
  rintro e w1 ⟨rfl, rfl⟩
  go_wp2_with (go_at_call 11; fail)
  refine Calls.mono OW.out ?_
  rintro e w2 ⟨v, ss, rfl, hown, hal, hfs, b2⟩
  have hsl : ss.length = n := by rw [hal.length]; exact HN.out.symm
  rw [← hsl] at hown
  obtain ⟨A1, c1, rfl, hR1⟩ := routes_of_row hown
  have hss60 : ss.length ≤ 60 := by rw [hsl, HN.out]; exact NLE.out
  have R1 := Lib.hid hR1
  have F1 := Lib.hid hfs
  have PS := Lib.hid (hal.same s)
  have HAL := Lib.hid hal
  have PC : Hid (Calls Tryz.prog 12 #[.slice A1 ss.length c1, .agg (esiL s).toArray] w2 (PCandPost w2 (ss.filter (selR s)))) := pcand_any A1 c1 ss s w2 hss60 hfs hR1
  have ME : Hid (∀ W, Below w2.heap.size w2 W → Calls Tryz.prog 16 #[.slice A1 ss.length c1, .agg (esiL s).toArray] W fun e w' => ∃ A' zs c', e = .returned (.slice A' zs.length c') ∧ Row w' A' zs.length c' 1 (u32s zs) ∧ zs.Pairwise (· < ·) ∧ (∀ x, x ∈ zs ↔ x ∈ nexts (ss.filter (selR s))) ∧ zs.length ≤ 60 ∧ Below W.heap.size W w') := fun W hW =>
    members_walk A1 c1 ss s W hss60 (hR1.below hW)
  have SR : Hid (∀ W, Below w2.heap.size w2 W → Calls Tryz.prog 18 #[.slice A1 ss.length c1, .slice A ss.length c] W fun e w' => e = .returned (.bool true) ∧ Below W.heap.size W w') := fun W hW =>
    same_routes A1 A c1 c ss rs W hss60 hal.symm (hR1.below hW) ((R0.out.below b2).below hW) (fun r hr => ⟨(hfs r hr).1, (hfs r hr).2.below hW⟩) (fun r hr => ⟨(F0.out r hr).1, ((F0.out r hr).2.below b2).below hW⟩)
  have B2 := Lib.hid b2
  have BX2 := rangeAt_below BOX SB.out b2
  rw [hsl] at PC ME SR
  rw [hsl]
  clear hown hR1 hfs hal b2 BOX hss60 hsl
  go_wp2_with (first
    | ((with_reducible show wpList _ _ _ _ _ _); (refine wpList_load_mid rfl 24 (.tmp 3) rfl w.heap.size 0 rfl (esiL s) _ BX2 Tryz.underlying24 rfl info24w ?_))
    | (go_at_call 12; fail))
  refine Calls.mono PC.out ?_
  rintro e w3 ⟨v, l, alg, agree, rfl, hcw, hla, hlf, hlp, hl60, b3⟩
  have CW := Lib.hid hcw
  have LA := Lib.hid (And.intro hla (And.intro hlf (And.intro hlp hl60)))
  have B3 := Lib.hid b3
  have B03 := Lib.hid (B2.out.trans (b3.mono B2.out.size))
  have BX3 := rangeAt_below BX2 (Nat.lt_of_lt_of_le SB.out B2.out.size) b3
  clear hcw hla hlf hlp hl60 b3 BX2
  go_wp2_with (first
    | ((with_reducible show wpList _ _ _ _ _ _); (refine wpList_load_mid rfl 24 (.tmp 3) rfl w.heap.size 0 rfl (esiL s) _ BX3 Tryz.underlying24 rfl info24w ?_))
    | (go_at_call 13; fail))
  refine Calls.mono (RC.out _ B03.out) ?_
  rintro e w4 ⟨v', l', alg', all, rfl, hcv, hla', hlf', hlr, hl60', q4⟩
  have el : l' = l := by
    have := LA.out.2.1
    rw [PS.out.1] at this
    exact firsts_unique hla' LA.out.1 hlf' this
  have ea : algOf alg' all = algOf alg agree := by
    have := LA.out.2.2.1
    rw [PS.out.2.1] at this
    exact (alg_same this hlr).symm
  rw [ea]
  subst el
  have SC : Hid (∀ W, Below w4.heap.size w4 W → Calls Tryz.prog 14 #[v, v'] W fun e w' => e = .returned (.bool true) ∧ Below W.heap.size W w') := fun W hW =>
    same_cand v v' l' W hl60' ((CW.out.below q4).below hW) (hcv.weak.below hW)
  have b4 := Lib.hid (B3.out.trans (q4.mono B3.out.size))
  have BX4 := rangeAt_below BX3 (Nat.lt_of_lt_of_le SB.out B03.out.size) q4
  obtain ⟨al, hal⟩ : ∃ al, al = algOf alg agree := ⟨_, rfl⟩
  rw [← hal]
  have RM' : Hid (∀ W, Below w2.heap.size w2 W → Calls Tryz.prog 17 #[.slice A n c, .agg (esiL s).toArray] W (RMemPost W (rs.filter (selR s)))) := fun W hW => RM.out W (B2.out.trans (hW.mono B2.out.size))
  replace SB : Hid (w.heap.size < w2.heap.size) := Nat.lt_of_lt_of_le SB.out B2.out.size
  replace B0 : Hid (Below w.heap.size w w2) := B0.out.trans (B2.out.mono B0.out.size)
  clear hal ea hcv hla' hlf' hlr hl60' q4 BX3 RM RC
  have RM := RM'
  clear RM'
  go_wp2_with fail
  refine wp_region_held_drew (S := fun W => W.rangeAt w.heap.size 0 (esiL s)) (by kernel_rfl) BX4 (fun hS => ?_)
  have b5 := Lib.hid b4.out.drew
  refine wpAnyH_take (i := 0) (oi := { dst := some 27, op := Op.move (Operand.tmp 6), type := 28, pos := "law.go:19", after := #[], guard := none }) (v := ?_) rfl (by kernel_rfl) (by kernel_rfl) (by kernel_rfl) (fun _ _ _ h => h) (Or.inl ⟨by rfl, ?_⟩) hS ?_
  rotate_left
  · intro W hSw; clear hSw; go_simp; (try with_reducible rfl)
  (try simp only [Act.put, List.setIfInBounds_toArray, List.set_cons_zero, List.set_cons_succ])
  refine wpAnyH_take (i := 1) (oi := { dst := some 28, op := Op.move (Operand.tmp 8), type := 28, pos := "law.go:19", after := #[], guard := none }) (v := ?_) rfl (by kernel_rfl) (by kernel_rfl) (by kernel_rfl) (fun _ _ _ h => h) (Or.inl ⟨by rfl, ?_⟩) hS ?_
  rotate_left
  · intro W hSw; clear hSw; go_simp; (try with_reducible rfl)
  (try simp only [Act.put, List.setIfInBounds_toArray, List.set_cons_zero, List.set_cons_succ])
  refine wpAnyH_ready (rs := [2]) (by kernel_rfl) (by simp) (AllReadyH.cons (o := { dst := some 29, op := Op.call { callee := Callee.value (Operand.func 14), args := #[Operand.tmp 27, Operand.tmp 28], argTypes := #[28, 28] }, type := 4, pos := "law.go:19", after := #[{ on := 0, ground := Ground.data }, { on := 1, ground := Ground.data }], guard := none }) rfl (fun K hK => ?_) AllReadyH.nil)
  go_simp
  refine Calls.mono (SC.out _ (Below.refl _ _).drew) ?_
  rintro e w6 ⟨rfl, q⟩
  have b6 := Lib.hid (b5.out.trans (q.mono b5.out.size))
  have hS : w6.rangeAt w.heap.size 0 (esiL s) := rangeAt_below hS (Nat.lt_of_lt_of_le SB.out b5.out.size) q
  clear q
  go_simp
  refine hK.out _ _ hS (fun _ => ?_)
  clear hK K
  (try simp only [Act.put, List.setIfInBounds_toArray, List.set_cons_zero, List.set_cons_succ])
  refine wpAnyH_take (i := 3) (oi := { dst := some 30, op := Op.move (Operand.tmp 29), type := 4, pos := "law.go:19", after := #[{ on := 2, ground := Ground.data }, { on := 2, ground := Ground.chain }], guard := none }) (v := ?_) rfl (by kernel_rfl) (by kernel_rfl) (by kernel_rfl) (fun _ _ _ h => h) (Or.inl ⟨by rfl, ?_⟩) hS ?_
  rotate_left
  · intro W hSw; clear hSw; go_simp; (try with_reducible rfl)
  (try simp only [Act.put, List.setIfInBounds_toArray, List.set_cons_zero, List.set_cons_succ])
  refine wpAnyH_take (i := 4) (oi := { dst := some 31, op := Op.move (Operand.tmp 7), type := 3, pos := "law.go:19", after := #[{ on := 3, ground := Ground.guard }], guard := some (3, true) }) (v := ?_) rfl (by kernel_rfl) (by kernel_rfl) (by kernel_rfl) (fun _ _ _ h => h) (Or.inl ⟨by rfl, ?_⟩) hS ?_
  rotate_left
  · intro W hSw; clear hSw; go_simp; (try with_reducible rfl)
  (try simp only [Act.put, List.setIfInBounds_toArray, List.set_cons_zero, List.set_cons_succ])
  refine wpAnyH_take (i := 5) (oi := { dst := some 32, op := Op.move (Operand.tmp 9), type := 3, pos := "law.go:19", after := #[{ on := 3, ground := Ground.guard }], guard := some (3, true) }) (v := ?_) rfl (by kernel_rfl) (by kernel_rfl) (by kernel_rfl) (fun _ _ _ h => h) (Or.inl ⟨by rfl, ?_⟩) hS ?_
  rotate_left
  · intro W hSw; clear hSw; go_simp; (try with_reducible rfl)
  (try simp only [Act.put, List.setIfInBounds_toArray, List.set_cons_zero, List.set_cons_succ])
  refine wpAnyH_take (i := 6) (oi := { dst := some 33, op := Op.binOp BinOp.eql 3 (Operand.tmp 31) (Operand.tmp 32) 3, type := 4, pos := "law.go:19", after := #[{ on := 4, ground := Ground.data }, { on := 5, ground := Ground.data }, { on := 3, ground := Ground.guard }], guard := some (3, true) }) (v := ?_) rfl (by kernel_rfl) (by kernel_rfl) (by kernel_rfl) (fun _ _ _ h => h) (Or.inl ⟨by rfl, ?_⟩) hS ?_
  rotate_left
  · intro W hSw; clear hSw; go_simp; (try with_reducible rfl)
  (try simp only [Act.put, List.setIfInBounds_toArray, List.set_cons_zero, List.set_cons_succ])
  refine wpAnyH_take (i := 7) (oi := { dst := some 34, op := Op.pick (Operand.tmp 30) (Operand.tmp 33) (Operand.const (Value.bool false)), type := 4, pos := "law.go:19", after := #[{ on := 3, ground := Ground.data }, { on := 6, ground := Ground.data }], guard := none }) (v := ?_) rfl (by kernel_rfl) (by kernel_rfl) (by kernel_rfl) (fun _ _ _ h => h) (Or.inl ⟨by rfl, ?_⟩) hS ?_
  rotate_left
  · intro W hSw; clear hSw; go_simp; (try with_reducible rfl)
  (try simp only [Act.put, List.setIfInBounds_toArray, List.set_cons_zero, List.set_cons_succ])
  refine wpAnyH_take (i := 8) (oi := { dst := some 35, op := Op.move (Operand.tmp 34), type := 4, pos := "law.go:19", after := #[{ on := 7, ground := Ground.data }, { on := 3, ground := Ground.chain }], guard := none }) (v := ?_) rfl (by kernel_rfl) (by kernel_rfl) (by kernel_rfl) (fun _ _ _ h => h) (Or.inl ⟨by rfl, ?_⟩) hS ?_
  rotate_left
  · intro W hSw; clear hSw; go_simp; (try with_reducible rfl)
  (try simp only [Act.put, List.setIfInBounds_toArray, List.set_cons_zero, List.set_cons_succ])
  refine wpAnyH_take (i := 9) (oi := { dst := some 36, op := Op.move (Operand.tmp 5), type := 22, pos := "law.go:19", after := #[{ on := 8, ground := Ground.guard }], guard := some (8, true) }) (v := ?_) rfl (by kernel_rfl) (by kernel_rfl) (by kernel_rfl) (fun _ _ _ h => h) (Or.inl ⟨by rfl, ?_⟩) hS ?_
  rotate_left
  · intro W hSw; clear hSw; go_simp; (try with_reducible rfl)
  (try simp only [Act.put, List.setIfInBounds_toArray, List.set_cons_zero, List.set_cons_succ])
  refine wpAnyH_take (i := 10) (oi := { dst := some 37, op := Op.load 24 (Operand.tmp 3), type := 24, pos := "law.go:19", after := #[{ on := 8, ground := Ground.guard }], guard := some (8, true) }) (v := .agg (esiL s).toArray) rfl (by kernel_rfl) (by kernel_rfl) (by kernel_rfl) (fun _ _ _ h => h) ?_ hS ?_
  · exact yieldsIf_load_mid (by rfl) 24 (.tmp 3) rfl w.heap.size 0 rfl (esiL s) _ (fun W hW => hW) Tryz.underlying24 rfl info24w
  (try simp only [Act.put, List.setIfInBounds_toArray, List.set_cons_zero, List.set_cons_succ])
  refine wpAnyH_take (i := 12) (oi := { dst := some 39, op := Op.move (Operand.tmp 0), type := 22, pos := "law.go:19", after := #[{ on := 8, ground := Ground.guard }], guard := some (8, true) }) (v := ?_) rfl (by kernel_rfl) (by kernel_rfl) (by kernel_rfl) (fun _ _ _ h => h) (Or.inl ⟨by rfl, ?_⟩) hS ?_
  rotate_left
  · intro W hSw; clear hSw; go_simp; (try with_reducible rfl)
  (try simp only [Act.put, List.setIfInBounds_toArray, List.set_cons_zero, List.set_cons_succ])
  refine wpAnyH_take (i := 13) (oi := { dst := some 40, op := Op.load 24 (Operand.tmp 3), type := 24, pos := "law.go:19", after := #[{ on := 8, ground := Ground.guard }], guard := some (8, true) }) (v := .agg (esiL s).toArray) rfl (by kernel_rfl) (by kernel_rfl) (by kernel_rfl) (fun _ _ _ h => h) ?_ hS ?_
  · exact yieldsIf_load_mid (by rfl) 24 (.tmp 3) rfl w.heap.size 0 rfl (esiL s) _ (fun W hW => hW) Tryz.underlying24 rfl info24w
  (try simp only [Act.put, List.setIfInBounds_toArray, List.set_cons_zero, List.set_cons_succ])
  refine wpAnyH_ready (rs := [11]) (by kernel_rfl) (by simp) (AllReadyH.cons (o := { dst := some 38, op := Op.call { callee := Callee.value (Operand.func 16), args := #[Operand.tmp 36, Operand.tmp 37], argTypes := #[22, 24] }, type := 37, pos := "law.go:19", after := #[{ on := 9, ground := Ground.data }, { on := 10, ground := Ground.data }, { on := 8, ground := Ground.chain }, { on := 8, ground := Ground.guard }], guard := some (8, true) }) rfl (fun K hK => ?_) AllReadyH.nil)
  go_simp
  refine Calls.mono (ME.out _ b6.out) ?_
  rintro e w7 ⟨A8, zs, c8, rfl, row8, hz1, hz2, hz3, q⟩
  have b7 := Lib.hid (b6.out.trans (q.mono b6.out.size))
  have hS : w7.rangeAt w.heap.size 0 (esiL s) := rangeAt_below hS (Nat.lt_of_lt_of_le SB.out b6.out.size) q
  have ROW8 := Lib.hid row8
  have HZ := Lib.hid (And.intro hz1 (And.intro hz2 hz3))
  clear row8 hz1 hz2 hz3
  clear q
  go_simp
  refine hK.out _ _ hS (fun _ => ?_)
  clear hK K
  (try simp only [Act.put, List.setIfInBounds_toArray, List.set_cons_zero, List.set_cons_succ])
  refine wpAnyH_ready (rs := [14]) (by kernel_rfl) (by simp) (AllReadyH.cons (o := { dst := some 41, op := Op.call { callee := Callee.value (Operand.func 17), args := #[Operand.tmp 39, Operand.tmp 40], argTypes := #[22, 24] }, type := 37, pos := "law.go:19", after := #[{ on := 12, ground := Ground.data }, { on := 13, ground := Ground.data }, { on := 11, ground := Ground.chain }, { on := 8, ground := Ground.guard }], guard := some (8, true) }) rfl (fun K hK => ?_) AllReadyH.nil)
  go_simp
  refine Calls.mono (RM.out _ b7.out) ?_
  rintro e w8 ⟨A9, zs', c9, l9, rfl, row9, hz4, hz5, hz6, hz7, q⟩
  have b8 := Lib.hid (b7.out.trans (q.mono b7.out.size))
  have hS : w8.rangeAt w.heap.size 0 (esiL s) := rangeAt_below hS (Nat.lt_of_lt_of_le SB.out b7.out.size) q
  have ez : zs' = zs := by rw [hz4]; exact (members_unique hz5 hz6 HZ.out.1 (fun x => (HZ.out.2.1 x).trans (by rw [PS.out.2.2]; exact nexts_pairs _ x))).symm
  subst ez
  have ROW9 := Lib.hid row9
  have ROW8' := Lib.hid (ROW8.out.below q)
  clear row9 hz4 hz5 hz6 hz7
  clear q
  go_simp
  refine hK.out _ _ hS (fun _ => ?_)
  clear hK K
  (try simp only [Act.put, List.setIfInBounds_toArray, List.set_cons_zero, List.set_cons_succ])
  refine wpAnyH_ready (rs := [15]) (by kernel_rfl) (by simp) (AllReadyH.cons (o := { dst := some 42, op := Op.call { callee := Callee.value (Operand.func 15), args := #[Operand.tmp 38, Operand.tmp 41], argTypes := #[37, 37] }, type := 4, pos := "law.go:19", after := #[{ on := 11, ground := Ground.data }, { on := 14, ground := Ground.data }, { on := 14, ground := Ground.chain }, { on := 8, ground := Ground.guard }], guard := some (8, true) }) rfl (fun K hK => ?_) AllReadyH.nil)
  go_simp
  refine Calls.mono (same_ip A8 A9 zs'.length c8 c9 (u32s zs') (fun i => zs'.getD i 0) (fun i hi => by simp [u32s, List.getElem?_eq_getElem hi, List.getD_eq_getElem?_getD]) _ (by have := HZ.out.2.2; omega) ROW8'.out ROW9.out) ?_
  rintro e w9 ⟨rfl, q⟩
  have b9 := Lib.hid (b8.out.trans (q.mono b8.out.size))
  have hS : w9.rangeAt w.heap.size 0 (esiL s) := rangeAt_below hS (Nat.lt_of_lt_of_le SB.out b8.out.size) q
  clear q
  go_simp
  refine hK.out _ _ hS (fun _ => ?_)
  clear hK K
  (try simp only [Act.put, List.setIfInBounds_toArray, List.set_cons_zero, List.set_cons_succ])
  refine wpAnyH_take (i := 16) (oi := { dst := some 43, op := Op.pick (Operand.tmp 35) (Operand.tmp 42) (Operand.const (Value.bool false)), type := 4, pos := "law.go:19", after := #[{ on := 8, ground := Ground.data }, { on := 15, ground := Ground.data }], guard := none }) (v := ?_) rfl (by kernel_rfl) (by kernel_rfl) (by kernel_rfl) (fun _ _ _ h => h) (Or.inl ⟨by rfl, ?_⟩) hS ?_
  rotate_left
  · intro W hSw; clear hSw; go_simp; (try with_reducible rfl)
  (try simp only [Act.put, List.setIfInBounds_toArray, List.set_cons_zero, List.set_cons_succ])
  refine wpAnyH_take (i := 17) (oi := { dst := some 44, op := Op.move (Operand.tmp 43), type := 4, pos := "law.go:19", after := #[{ on := 16, ground := Ground.data }, { on := 15, ground := Ground.chain }], guard := none }) (v := ?_) rfl (by kernel_rfl) (by kernel_rfl) (by kernel_rfl) (fun _ _ _ h => h) (Or.inl ⟨by rfl, ?_⟩) hS ?_
  rotate_left
  · intro W hSw; clear hSw; go_simp; (try with_reducible rfl)
  (try simp only [Act.put, List.setIfInBounds_toArray, List.set_cons_zero, List.set_cons_succ])
  refine wpAnyH_take (i := 18) (oi := { dst := some 45, op := Op.move (Operand.tmp 5), type := 22, pos := "law.go:19", after := #[{ on := 17, ground := Ground.guard }], guard := some (17, true) }) (v := ?_) rfl (by kernel_rfl) (by kernel_rfl) (by kernel_rfl) (fun _ _ _ h => h) (Or.inl ⟨by rfl, ?_⟩) hS ?_
  rotate_left
  · intro W hSw; clear hSw; go_simp; (try with_reducible rfl)
  (try simp only [Act.put, List.setIfInBounds_toArray, List.set_cons_zero, List.set_cons_succ])
  refine wpAnyH_take (i := 19) (oi := { dst := some 46, op := Op.move (Operand.tmp 0), type := 22, pos := "law.go:19", after := #[{ on := 17, ground := Ground.guard }], guard := some (17, true) }) (v := ?_) rfl (by kernel_rfl) (by kernel_rfl) (by kernel_rfl) (fun _ _ _ h => h) (Or.inl ⟨by rfl, ?_⟩) hS ?_
  rotate_left
  · intro W hSw; clear hSw; go_simp; (try with_reducible rfl)
  (try simp only [Act.put, List.setIfInBounds_toArray, List.set_cons_zero, List.set_cons_succ])
  refine wpAnyH_ready (rs := [20]) (by kernel_rfl) (by simp) (AllReadyH.cons (o := { dst := some 47, op := Op.call { callee := Callee.value (Operand.func 18), args := #[Operand.tmp 45, Operand.tmp 46], argTypes := #[22, 22] }, type := 4, pos := "law.go:19", after := #[{ on := 18, ground := Ground.data }, { on := 19, ground := Ground.data }, { on := 17, ground := Ground.chain }, { on := 17, ground := Ground.guard }], guard := some (17, true) }) rfl (fun K hK => ?_) AllReadyH.nil)
  go_simp
  refine Calls.mono (SR.out _ b9.out) ?_
  rintro e w10 ⟨rfl, q⟩
  have b10 := Lib.hid (b9.out.trans (q.mono b9.out.size))
  have hS : w10.rangeAt w.heap.size 0 (esiL s) := rangeAt_below hS (Nat.lt_of_lt_of_le SB.out b9.out.size) q
  clear q
  go_simp
  refine hK.out _ _ hS (fun _ => ?_)
  clear hK K
  (try simp only [Act.put, List.setIfInBounds_toArray, List.set_cons_zero, List.set_cons_succ])
  refine wpAnyH_take (i := 21) (oi := { dst := some 48, op := Op.pick (Operand.tmp 44) (Operand.tmp 47) (Operand.const (Value.bool false)), type := 4, pos := "law.go:19", after := #[{ on := 17, ground := Ground.data }, { on := 20, ground := Ground.data }], guard := none }) (v := ?_) rfl (by kernel_rfl) (by kernel_rfl) (by kernel_rfl) (fun _ _ _ h => h) (Or.inl ⟨by rfl, ?_⟩) hS ?_
  rotate_left
  · intro W hSw; clear hSw; go_simp; (try with_reducible rfl)
  (try simp only [Act.put, List.setIfInBounds_toArray, List.set_cons_zero, List.set_cons_succ])
  refine wpAnyH_take (i := 22) (oi := { dst := some 49, op := Op.move (Operand.tmp 48), type := 4, pos := "law.go:19", after := #[{ on := 21, ground := Ground.data }, { on := 20, ground := Ground.chain }], guard := none }) (v := ?_) rfl (by kernel_rfl) (by kernel_rfl) (by kernel_rfl) (fun _ _ _ h => h) (Or.inl ⟨by rfl, ?_⟩) hS ?_
  rotate_left
  · intro W hSw; clear hSw; go_simp; (try with_reducible rfl)
  (try simp only [Act.put, List.setIfInBounds_toArray, List.set_cons_zero, List.set_cons_succ])
  refine wpAnyH_ready (rs := [23]) (by kernel_rfl) (by simp) (AllReadyH.cons (o := { dst := some 50, op := Op.call { callee := Callee.value (Operand.func 10), args := #[], argTypes := #[] }, type := 4, pos := "law.go:19", after := #[{ on := 22, ground := Ground.chain }, { on := 22, ground := Ground.guard }], guard := some (22, true) }) rfl (fun K hK => ?_) AllReadyH.nil)
  go_simp
  refine Calls.mono (awake10 _) ?_
  rintro e w11 ⟨rfl, q⟩
  have b11 := Lib.hid (b10.out.trans (q.mono b10.out.size))
  have hS : w11.rangeAt w.heap.size 0 (esiL s) := rangeAt_below hS (Nat.lt_of_lt_of_le SB.out b10.out.size) q
  clear q
  go_simp
  refine hK.out _ _ hS (fun _ => ?_)
  clear hK K
  (try simp only [Act.put, List.setIfInBounds_toArray, List.set_cons_zero, List.set_cons_succ])
  refine wpAnyH_take (i := 24) (oi := { dst := some 51, op := Op.pick (Operand.tmp 49) (Operand.tmp 50) (Operand.const (Value.bool false)), type := 4, pos := "law.go:19", after := #[{ on := 22, ground := Ground.data }, { on := 23, ground := Ground.data }], guard := none }) (v := ?_) rfl (by kernel_rfl) (by kernel_rfl) (by kernel_rfl) (fun _ _ _ h => h) (Or.inl ⟨by rfl, ?_⟩) hS ?_
  rotate_left
  · intro W hSw; clear hSw; go_simp; (try with_reducible rfl)
  (try simp only [Act.put, List.setIfInBounds_toArray, List.set_cons_zero, List.set_cons_succ])
  refine wpAnyH_take (i := 25) (oi := { dst := some 4, op := Op.assign (Operand.tmp 51), type := 4, pos := "law.go:19", after := #[{ on := 24, ground := Ground.data }, { on := 23, ground := Ground.chain }, { on := 0, ground := Ground.phase }, { on := 1, ground := Ground.phase }, { on := 2, ground := Ground.phase }, { on := 3, ground := Ground.phase }, { on := 4, ground := Ground.phase }, { on := 5, ground := Ground.phase }, { on := 6, ground := Ground.phase }, { on := 7, ground := Ground.phase }, { on := 8, ground := Ground.phase }, { on := 9, ground := Ground.phase }, { on := 10, ground := Ground.phase }, { on := 11, ground := Ground.phase }, { on := 12, ground := Ground.phase }, { on := 13, ground := Ground.phase }, { on := 14, ground := Ground.phase }, { on := 15, ground := Ground.phase }, { on := 16, ground := Ground.phase }, { on := 17, ground := Ground.phase }, { on := 18, ground := Ground.phase }, { on := 19, ground := Ground.phase }, { on := 20, ground := Ground.phase }, { on := 21, ground := Ground.phase }, { on := 22, ground := Ground.phase }, { on := 23, ground := Ground.phase }, { on := 24, ground := Ground.phase }], guard := none }) (v := ?_) rfl (by kernel_rfl) (by kernel_rfl) (by kernel_rfl) (fun _ _ _ h => h) (Or.inl ⟨by rfl, ?_⟩) hS ?_
  rotate_left
  · intro W hSw; clear hSw; go_simp; (try with_reducible rfl)
  (try simp only [Act.put, List.setIfInBounds_toArray, List.set_cons_zero, List.set_cons_succ])
  refine wpAnyH_done (by kernel_rfl) ?_ _
  go_wp2_with fail
  go_ret
  exact ⟨rfl, B0.out.trans (b11.out.mono B0.out.size)⟩
theorem members_law (A : Option Addr) (c : Nat) (rs : List RT) (s : Nat → Int) (w : World) (h : Routes w A rs) (hs : ∀ r ∈ rs, r.sound ∧ r.lists w) :
    Calls Tryz.prog 3 #[.slice A rs.length c, .agg (esiL s).toArray] w fun e w' => e = .returned (.bool true) ∧ Below w.heap.size w w' := by
  cases hm : manyR rs with
  | true => exact members_many A c rs s w h hm
  | false => exact members_few A c rs s w h hm hs
end Go.Proofs.YtiellonfgcmaaaaGreat

/- A route that reads as data: its cells, and what lies behind its lists. -/
namespace Go.Proofs.YtiellonfgcmaaaaGreat
open Go.ChangeShapes Go.WideShapes Go.ChangeAt Go.RowKit Go.Deep

theorem sub_get (cs : List Value) (o L j : Nat) (hj : j < L) : ((cs.drop o).take L)[j]? = cs[o + j]? := by
  rw [List.getElem?_take, if_pos hj, List.getElem?_drop]
theorem sub_one {cs : List Value} {o : Nat} (ho : o < cs.length) : (cs.drop o).take 1 = [cs[o]] := by
  rw [List.drop_eq_getElem_cons ho]; rfl
section
variable {H : Type} {enc : TypeId × Value → H} {w : World} {base : Nat} {held : Bool} {n : Nat}
theorem cells3 : Tryz.prog.cellsOf 3 = 1 := by kernel_rfl
theorem cells4 : Tryz.prog.cellsOf 4 = 1 := by kernel_rfl
theorem cells32 : Tryz.prog.cellsOf 32 = 1 := by kernel_rfl
theorem cells33 : Tryz.prog.cellsOf 33 = 1 := by kernel_rfl
theorem cells37 : Tryz.prog.cellsOf 37 = 1 := by kernel_rfl
theorem cells45 : Tryz.prog.cellsOf 45 = 1 := by kernel_rfl
theorem cells46 : Tryz.prog.cellsOf 46 = 1 := by kernel_rfl
theorem cells51 : Tryz.prog.cellsOf 51 = 1 := by kernel_rfl
theorem cells24 : Tryz.prog.cellsOf 24 = 10 := by kernel_rfl
theorem cells48 : Tryz.prog.cellsOf 48 = 2 := by kernel_rfl
theorem cells50 : Tryz.prog.cellsOf 50 = 21 := by kernel_rfl
theorem cells54 : Tryz.prog.cellsOf 54 = 4 := by kernel_rfl
theorem cells56 : Tryz.prog.cellsOf 56 = 15 := by kernel_rfl
theorem cells58 : Tryz.prog.cellsOf 58 = 38 := by kernel_rfl
theorem cells5 : Tryz.prog.cellsOf 5 = 1 := by kernel_rfl
theorem fint {t : TypeId} {k : IntKind} {o i : Nat} {cs : List Value} {xs : List (DataW H × List MemPlace)} (ht : Tryz.prog.underlying t = some (.int k)) (hc : Tryz.prog.cellsOf t = 1)
    (h : DataW.trod enc Tryz.prog w base (fun _ => true) held n t ((cs.drop o).take (Tryz.prog.cellsOf t)) = xs[i]?) (ho : o < cs.length) (hi : i < xs.length) : ∃ m, cs[o]? = some (.int k m) := by
  rw [hc, sub_one ho, List.getElem?_eq_getElem hi] at h
  obtain ⟨m, h1, _, _⟩ := DataW.trod_int ht h
  exact ⟨m, by rw [List.getElem?_eq_getElem ho]; simpa using h1⟩
theorem fbool {t : TypeId} {o i : Nat} {cs : List Value} {xs : List (DataW H × List MemPlace)} (ht : Tryz.prog.underlying t = some .bool) (hc : Tryz.prog.cellsOf t = 1)
    (h : DataW.trod enc Tryz.prog w base (fun _ => true) held n t ((cs.drop o).take (Tryz.prog.cellsOf t)) = xs[i]?) (ho : o < cs.length) (hi : i < xs.length) : ∃ b, cs[o]? = some (.bool b) := by
  rw [hc, sub_one ho, List.getElem?_eq_getElem hi] at h
  obtain ⟨b, h1, _⟩ := DataW.trod_bool ht h
  exact ⟨b, by rw [List.getElem?_eq_getElem ho]; simpa using h1⟩
/-- A list of numbers. -/
theorem fnums {t el : TypeId} {o i : Nat} {cs : List Value} {xs : List (DataW H × List MemPlace)} (ht : Tryz.prog.underlying t = some (.slice el)) (he : Tryz.prog.underlying el = some (.int .u32)) (hce : Tryz.prog.cellsOf el = 1) (hc : Tryz.prog.cellsOf t = 1)
    (h : DataW.trod enc Tryz.prog w base (fun _ => true) held n t ((cs.drop o).take (Tryz.prog.cellsOf t)) = xs[i]?) (ho : o < cs.length) (hi : i < xs.length) :
    ∃ A l c f, cs[o]? = some (.slice A l c) ∧ Row w A l c 1 (ints l f) ∧ (A = none → l = 0 ∧ c = 0) := by
  rw [hc, sub_one ho, List.getElem?_eq_getElem hi] at h
  rw [List.getElem?_eq_getElem ho]
  rcases open_ints ht he hce h with ⟨h1, _⟩ | ⟨a, len, cap, zs, h1, _, hlc, _, hz, _, hcell, _⟩
  · exact ⟨none, 0, 0, fun _ => 0, by simpa using h1, .inl ⟨rfl, rfl⟩, fun _ => ⟨rfl, rfl⟩⟩
  · refine ⟨some a, len, cap, fun j => zs.getD j 0, by simpa using h1, ?_, fun h => by cases h⟩
    simp only [if_true] at hz
    rcases Nat.eq_zero_or_pos len with h0 | h0
    · exact .inl ⟨h0, by rw [h0]; rfl⟩
    · obtain ⟨b, off, spot⟩ := a
      have hspot : spot = none := by simpa [Addr.add] using World.cell?_spot (hcell 0 (by omega))
      subst hspot
      have hb := World.block_lt_of_cell? w _ (hcell 0 (by omega))
      rw [addr_add'] at hb
      refine .inr ⟨b, off, rfl, hb, hlc, by rw [ints_len], fun j u hj => ?_⟩
      have hjl : j < len := by have := (List.getElem?_eq_some_iff.1 hj).1; rw [ints_len] at this; omega
      rw [ints_get hjl] at hj
      cases hj
      rw [← addr_add']; exact hcell j (by omega)
theorem wf_u8 {m : Int} (h : (Lit.int .u8 m).wf = true) : 0 ≤ m ∧ m ≤ 255 := by
  have h1 : IntKind.u8.min = 0 := rfl
  have h2 : IntKind.u8.max = 255 := rfl
  simpa [Lit.wf, h1, h2] using h
/-- A community. -/
theorem fcomm {cs : List Value} {x : DataW H × List MemPlace} (h : DataW.trod enc Tryz.prog w base (fun _ => true) held n 155 cs = some x) : ∃ f : Nat → Int, (∀ j, j < 8 → cs[j]? = some (.int .u8 (f j))) ∧ ∀ j, 0 ≤ f j ∧ f j ≤ 255 := by
  obtain ⟨xs, m, _, _, hl, hxl, hf⟩ := DataW.trod_array Tryz.underlying155 h
  have c5 : Tryz.prog.cellsOf 5 = 1 := by kernel_rfl
  have hl8 : cs.length = 8 := by rw [hl]; kernel_rfl
  have each : ∀ j, j < 8 → ∃ v : Int, cs[j]? = some (.int .u8 v) ∧ 0 ≤ v ∧ v ≤ 255 := by
    intro j hj
    have h1 := hf j hj
    rw [c5, Nat.mul_one, sub_one (by omega), List.getElem?_eq_getElem (by omega)] at h1
    obtain ⟨v, h2, _, h3⟩ := DataW.trod_int Tryz.underlying5 h1
    exact ⟨v, by rw [List.getElem?_eq_getElem (by omega)]; simpa using h2, wf_u8 h3⟩
  obtain ⟨f, hf⟩ := choose_lt each
  refine ⟨fun j => if j < 8 then f j else 0, fun j hj => by simp only [if_pos hj]; exact (hf j hj).1, fun j => ?_⟩
  simp only
  split
  · rename_i hj; exact (hf j hj).2
  · omega
/-- A list of communities. -/
theorem fcomms {o i : Nat} {cs : List Value} {xs : List (DataW H × List MemPlace)}
    (h : DataW.trod enc Tryz.prog w base (fun _ => true) held n 52 ((cs.drop o).take (Tryz.prog.cellsOf 52)) = xs[i]?) (ho : o < cs.length) (hi : i < xs.length) :
    ∃ A l c f, cs[o]? = some (.slice A l c) ∧ Row w A l c 8 (comms l f) ∧ (A = none → l = 0 ∧ c = 0) ∧ ∀ i j, 0 ≤ f i j ∧ f i j ≤ 255 := by
  have c52 : Tryz.prog.cellsOf 52 = 1 := by kernel_rfl
  have c155 : Tryz.prog.cellsOf 155 = 8 := by kernel_rfl
  rw [c52, sub_one ho, List.getElem?_eq_getElem hi] at h
  rw [List.getElem?_eq_getElem ho]
  rcases open_slice Tryz.underlying52 h with ⟨h1, _⟩ | ⟨a, len, cap, m, n', D, Pl, h1, _, hlc, _, hm, _, hcell⟩
  · exact ⟨none, 0, 0, fun _ _ => 0, by simpa using h1, .inl ⟨rfl, rfl⟩, fun _ => ⟨rfl, rfl⟩, fun _ _ => ⟨Int.le_refl 0, by show (0 : Int) ≤ 255; omega⟩⟩
  · simp only [if_true] at hm
    subst hm
    have each : ∀ i, i < len → ∃ f : Nat → Int, (∀ j, j < 8 → w.cell? (a.add (i * 8 + j)) = some (.int .u8 (f j))) ∧ ∀ j, 0 ≤ f j ∧ f j ≤ 255 := by
      intro i hi
      obtain ⟨cs', hc, ht⟩ := hcell i (by omega)
      rw [c155] at hc
      obtain ⟨_, _, hat⟩ := World.cells?_some hc
      obtain ⟨f, hf, hr⟩ := fcomm ht
      exact ⟨f, fun j hj => by rw [← Go.Deep.add_add, hat j hj]; exact hf j hj, hr⟩
    obtain ⟨F, hF⟩ := choose_lt each
    refine ⟨some a, len, m, fun i => if i < len then F i else fun _ => 0, by simpa using h1, ?_, (fun h => by cases h), fun i j => ?_⟩
    · rcases Nat.eq_zero_or_pos len with h0 | h0
      · exact .inl ⟨h0, by rw [h0]; rfl⟩
      · obtain ⟨b, off, spot⟩ := a
        have hspot : spot = none := by simpa [Addr.add] using World.cell?_spot ((hF 0 h0).1 0 (by omega))
        subst hspot
        have hb := World.block_lt_of_cell? w _ ((hF 0 h0).1 0 (by omega))
        rw [addr_add'] at hb
        refine .inr ⟨b, off, rfl, hb, hlc, by rw [comms_len], fun t u ht => ?_⟩
        have htl : t < len * 8 := by have := (List.getElem?_eq_some_iff.1 ht).1; rwa [comms_len] at this
        have h2 := comms_get (n := len) (f := fun i => if i < len then F i else fun _ => 0) (i := t / 8) (by omega) (t % 8) (by omega)
        rw [show t / 8 * 8 + t % 8 = t by omega, ht] at h2
        cases h2
        have h3 := (hF (t / 8) (by omega)).1 (t % 8) (by omega)
        rw [addr_add', show t / 8 * 8 + t % 8 = t by omega] at h3
        rw [h3, if_pos (by omega)]
    · by_cases hi : i < len
      · simp only [if_pos hi]; exact (hF i hi).2 j
      · simp only [if_neg hi]; omega
def gOf (cs : List Value) (j : Nat) : Int := match cs[j]? with | some (.int _ m) => m | _ => 0
def hOf (cs : List Value) (j : Nat) : Bool := match cs[j]? with | some (.bool b) => b | _ => false
theorem gOf_at {cs : List Value} {j : Nat} {k : IntKind} (h : ∃ m, cs[j]? = some (.int k m)) : cs[j]? = some (.int k (gOf cs j)) := by
  obtain ⟨m, h⟩ := h; unfold gOf; rw [h]
theorem hOf_at {cs : List Value} {j : Nat} (h : ∃ b, cs[j]? = some (.bool b)) : cs[j]? = some (.bool (hOf cs j)) := by
  obtain ⟨m, h⟩ := h; unfold hOf; rw [h]
set_option maxRecDepth 100000 in
set_option maxHeartbeats 4000000 in
theorem route_cells {cs : List Value} {x : DataW H × List MemPlace} (hl : cs.length = 38) (h : DataW.trod enc Tryz.prog w base (fun _ => true) held n 58 cs = some x) : ∃ r : RT, cs = r.cells ∧ r.sound ∧ r.lists w := by
  obtain ⟨ys, n1, _, _, _, hy, hf⟩ := DataW.trod_struct Tryz.underlying58 h
  have hy4 : ys.length = 4 := hy
  have hN : DataW.trod enc Tryz.prog w base (fun _ => true) held n1 50 ((cs.drop 0).take (Tryz.prog.cellsOf 50)) = ys[0]? := hf 0 _ rfl
  have hA : DataW.trod enc Tryz.prog w base (fun _ => true) held n1 56 ((cs.drop 21).take (Tryz.prog.cellsOf 56)) = ys[1]? := hf 1 _ rfl
  have hP : DataW.trod enc Tryz.prog w base (fun _ => true) held n1 33 ((cs.drop 36).take (Tryz.prog.cellsOf 33)) = ys[2]? := hf 2 _ rfl
  have hS : DataW.trod enc Tryz.prog w base (fun _ => true) held n1 4 ((cs.drop 37).take (Tryz.prog.cellsOf 4)) = ys[3]? := hf 3 _ rfl
  have c36 := gOf_at (fint (k := .u32) Tryz.underlying33 cells33 hP (by omega) (by omega))
  have c37 := hOf_at (fbool Tryz.underlying4 cells4 hS (by omega) (by omega))
  rw [List.getElem?_eq_getElem (by omega), cells50] at hN
  obtain ⟨N, eN⟩ : ∃ S, S = (cs.drop 0).take 21 := ⟨_, rfl⟩
  rw [← eN] at hN
  have gN : ∀ j, j < 21 → N[j]? = cs[0 + j]? := fun j hj => by rw [eN]; exact sub_get cs 0 21 j hj
  have lN : N.length = 21 := by rw [eN, List.length_take, List.length_drop]; omega
  obtain ⟨zs, nN, _, _, _, yN, fN⟩ := DataW.trod_struct Tryz.underlying50 hN
  have yN' : zs.length = 11 := yN
  have kN0 : DataW.trod enc Tryz.prog w base (fun _ => true) held nN 3 ((N.drop 0).take (Tryz.prog.cellsOf 3)) = zs[0]? := fN 0 _ rfl
  have c0 := gOf_at (cs := cs) (j := 0) (k := .i64) (by obtain ⟨m, hm⟩ := fint (k := .i64) Tryz.underlying3 cells3 kN0 (by omega) (by omega); exact ⟨m, by have q := gN 0 (by omega); rw [show 0 + 0 = 0 from rfl] at q; rw [← q]; exact hm⟩)
  have kN1 : DataW.trod enc Tryz.prog w base (fun _ => true) held nN 45 ((N.drop 1).take (Tryz.prog.cellsOf 45)) = zs[1]? := fN 1 _ rfl
  have c1 := gOf_at (cs := cs) (j := 1) (k := .u64) (by obtain ⟨m, hm⟩ := fint (k := .u64) Tryz.underlying45 cells45 kN1 (by omega) (by omega); exact ⟨m, by have q := gN 1 (by omega); rw [show 0 + 1 = 1 from rfl] at q; rw [← q]; exact hm⟩)
  have kN3 : DataW.trod enc Tryz.prog w base (fun _ => true) held nN 32 ((N.drop 12).take (Tryz.prog.cellsOf 32)) = zs[3]? := fN 3 _ rfl
  have c12 := gOf_at (cs := cs) (j := 12) (k := .u32) (by obtain ⟨m, hm⟩ := fint (k := .u32) Tryz.underlying32 cells32 kN3 (by omega) (by omega); exact ⟨m, by have q := gN 12 (by omega); rw [show 0 + 12 = 12 from rfl] at q; rw [← q]; exact hm⟩)
  have kN4 : DataW.trod enc Tryz.prog w base (fun _ => true) held nN 46 ((N.drop 13).take (Tryz.prog.cellsOf 46)) = zs[4]? := fN 4 _ rfl
  have c13 := gOf_at (cs := cs) (j := 13) (k := .u64) (by obtain ⟨m, hm⟩ := fint (k := .u64) Tryz.underlying46 cells46 kN4 (by omega) (by omega); exact ⟨m, by have q := gN 13 (by omega); rw [show 0 + 13 = 13 from rfl] at q; rw [← q]; exact hm⟩)
  have kN5 : DataW.trod enc Tryz.prog w base (fun _ => true) held nN 33 ((N.drop 14).take (Tryz.prog.cellsOf 33)) = zs[5]? := fN 5 _ rfl
  have c14 := gOf_at (cs := cs) (j := 14) (k := .u32) (by obtain ⟨m, hm⟩ := fint (k := .u32) Tryz.underlying33 cells33 kN5 (by omega) (by omega); exact ⟨m, by have q := gN 14 (by omega); rw [show 0 + 14 = 14 from rfl] at q; rw [← q]; exact hm⟩)
  have kN6 : DataW.trod enc Tryz.prog w base (fun _ => true) held nN 4 ((N.drop 15).take (Tryz.prog.cellsOf 4)) = zs[6]? := fN 6 _ rfl
  have c15 := hOf_at (cs := cs) (j := 15) (by obtain ⟨m, hm⟩ := fbool Tryz.underlying4 cells4 kN6 (by omega) (by omega); exact ⟨m, by have q := gN 15 (by omega); rw [show 0 + 15 = 15 from rfl] at q; rw [← q]; exact hm⟩)
  have kN8 : DataW.trod enc Tryz.prog w base (fun _ => true) held nN 33 ((N.drop 18).take (Tryz.prog.cellsOf 33)) = zs[8]? := fN 8 _ rfl
  have c18 := gOf_at (cs := cs) (j := 18) (k := .u32) (by obtain ⟨m, hm⟩ := fint (k := .u32) Tryz.underlying33 cells33 kN8 (by omega) (by omega); exact ⟨m, by have q := gN 18 (by omega); rw [show 0 + 18 = 18 from rfl] at q; rw [← q]; exact hm⟩)
  have kN9 : DataW.trod enc Tryz.prog w base (fun _ => true) held nN 32 ((N.drop 19).take (Tryz.prog.cellsOf 32)) = zs[9]? := fN 9 _ rfl
  have c19 := gOf_at (cs := cs) (j := 19) (k := .u32) (by obtain ⟨m, hm⟩ := fint (k := .u32) Tryz.underlying32 cells32 kN9 (by omega) (by omega); exact ⟨m, by have q := gN 19 (by omega); rw [show 0 + 19 = 19 from rfl] at q; rw [← q]; exact hm⟩)
  have kN10 : DataW.trod enc Tryz.prog w base (fun _ => true) held nN 32 ((N.drop 20).take (Tryz.prog.cellsOf 32)) = zs[10]? := fN 10 _ rfl
  have c20 := gOf_at (cs := cs) (j := 20) (k := .u32) (by obtain ⟨m, hm⟩ := fint (k := .u32) Tryz.underlying32 cells32 kN10 (by omega) (by omega); exact ⟨m, by have q := gN 20 (by omega); rw [show 0 + 20 = 20 from rfl] at q; rw [← q]; exact hm⟩)
  have hE : DataW.trod enc Tryz.prog w base (fun _ => true) held nN 24 ((N.drop 2).take (Tryz.prog.cellsOf 24)) = zs[2]? := fN 2 _ rfl
  rw [List.getElem?_eq_getElem (by omega), cells24] at hE
  obtain ⟨E, eE⟩ : ∃ S, S = (N.drop 2).take 10 := ⟨_, rfl⟩
  rw [← eE] at hE
  have gE : ∀ j, j < 10 → E[j]? = N[2 + j]? := fun j hj => by rw [eE]; exact sub_get N 2 10 j hj
  have lE : E.length = 10 := by rw [eE, List.length_take, List.length_drop]; omega
  obtain ⟨es, nE, _, _, _, yE, fE⟩ := DataW.trod_array Tryz.underlying24 hE
  have cE : ∀ j, j < 10 → cs[2 + j]? = some (.int .u8 (gOf cs (2 + j))) := fun j hj => gOf_at (by
    have h1 := fE j hj
    rw [show j * Tryz.prog.cellsOf 5 = j by rw [cells5, Nat.mul_one]] at h1
    obtain ⟨m, hm⟩ := fint (k := .u8) Tryz.underlying5 cells5 h1 (by omega) (by omega)
    exact ⟨m, by have q := gN (2 + j) (by omega); rw [Nat.zero_add] at q; rw [← q, ← gE j hj]; exact hm⟩)
  have hX : DataW.trod enc Tryz.prog w base (fun _ => true) held nN 48 ((N.drop 16).take (Tryz.prog.cellsOf 48)) = zs[7]? := fN 7 _ rfl
  rw [List.getElem?_eq_getElem (by omega), cells48] at hX
  obtain ⟨X, eX⟩ : ∃ S, S = (N.drop 16).take 2 := ⟨_, rfl⟩
  rw [← eX] at hX
  have gX : ∀ j, j < 2 → X[j]? = N[16 + j]? := fun j hj => by rw [eX]; exact sub_get N 16 2 j hj
  have lX : X.length = 2 := by rw [eX, List.length_take, List.length_drop]; omega
  obtain ⟨ws, nX, _, _, _, yX, fX⟩ := DataW.trod_struct Tryz.underlying48 hX
  have yX' : ws.length = 2 := yX
  have kX0 : DataW.trod enc Tryz.prog w base (fun _ => true) held nX 33 ((X.drop 0).take (Tryz.prog.cellsOf 33)) = ws[0]? := fX 0 _ rfl
  have c16 := gOf_at (cs := cs) (j := 16) (k := .u32) (by obtain ⟨m, hm⟩ := fint (k := .u32) Tryz.underlying33 cells33 kX0 (by omega) (by omega); exact ⟨m, by have q := gN 16 (by omega); rw [show 0 + 16 = 16 from rfl] at q; rw [← q]; have q2 := gX 0 (by omega); rw [show 16 + 0 = 16 from rfl] at q2; rw [← q2]; exact hm⟩)
  have kX1 : DataW.trod enc Tryz.prog w base (fun _ => true) held nX 3 ((X.drop 1).take (Tryz.prog.cellsOf 3)) = ws[1]? := fX 1 _ rfl
  have c17 := gOf_at (cs := cs) (j := 17) (k := .i64) (by obtain ⟨m, hm⟩ := fint (k := .i64) Tryz.underlying3 cells3 kX1 (by omega) (by omega); exact ⟨m, by have q := gN 17 (by omega); rw [show 0 + 17 = 17 from rfl] at q; rw [← q]; have q2 := gX 1 (by omega); rw [show 16 + 1 = 17 from rfl] at q2; rw [← q2]; exact hm⟩)
  rw [List.getElem?_eq_getElem (by omega), cells56] at hA
  obtain ⟨Z, eZ⟩ : ∃ S, S = (cs.drop 21).take 15 := ⟨_, rfl⟩
  rw [← eZ] at hA
  have gZ : ∀ j, j < 15 → Z[j]? = cs[21 + j]? := fun j hj => by rw [eZ]; exact sub_get cs 21 15 j hj
  have lZ : Z.length = 15 := by rw [eZ, List.length_take, List.length_drop]; omega
  obtain ⟨az, nZ, _, _, _, yZ, fZ⟩ := DataW.trod_struct Tryz.underlying56 hA
  have yZ' : az.length = 12 := yZ
  have kZ0 : DataW.trod enc Tryz.prog w base (fun _ => true) held nZ 3 ((Z.drop 0).take (Tryz.prog.cellsOf 3)) = az[0]? := fZ 0 _ rfl
  have c21 := gOf_at (cs := cs) (j := 21) (k := .i64) (by obtain ⟨m, hm⟩ := fint (k := .i64) Tryz.underlying3 cells3 kZ0 (by omega) (by omega); exact ⟨m, by have q := gZ 0 (by omega); rw [show 21 + 0 = 21 from rfl] at q; rw [← q]; exact hm⟩)
  have kZ2 : DataW.trod enc Tryz.prog w base (fun _ => true) held nZ 33 ((Z.drop 2).take (Tryz.prog.cellsOf 33)) = az[2]? := fZ 2 _ rfl
  have c23 := gOf_at (cs := cs) (j := 23) (k := .u32) (by obtain ⟨m, hm⟩ := fint (k := .u32) Tryz.underlying33 cells33 kZ2 (by omega) (by omega); exact ⟨m, by have q := gZ 2 (by omega); rw [show 21 + 2 = 23 from rfl] at q; rw [← q]; exact hm⟩)
  have kZ3 : DataW.trod enc Tryz.prog w base (fun _ => true) held nZ 4 ((Z.drop 3).take (Tryz.prog.cellsOf 4)) = az[3]? := fZ 3 _ rfl
  have c24 := hOf_at (cs := cs) (j := 24) (by obtain ⟨m, hm⟩ := fbool Tryz.underlying4 cells4 kZ3 (by omega) (by omega); exact ⟨m, by have q := gZ 3 (by omega); rw [show 21 + 3 = 24 from rfl] at q; rw [← q]; exact hm⟩)
  have kZ4 : DataW.trod enc Tryz.prog w base (fun _ => true) held nZ 32 ((Z.drop 4).take (Tryz.prog.cellsOf 32)) = az[4]? := fZ 4 _ rfl
  have c25 := gOf_at (cs := cs) (j := 25) (k := .u32) (by obtain ⟨m, hm⟩ := fint (k := .u32) Tryz.underlying32 cells32 kZ4 (by omega) (by omega); exact ⟨m, by have q := gZ 4 (by omega); rw [show 21 + 4 = 25 from rfl] at q; rw [← q]; exact hm⟩)
  have kZ5 : DataW.trod enc Tryz.prog w base (fun _ => true) held nZ 4 ((Z.drop 5).take (Tryz.prog.cellsOf 4)) = az[5]? := fZ 5 _ rfl
  have c26 := hOf_at (cs := cs) (j := 26) (by obtain ⟨m, hm⟩ := fbool Tryz.underlying4 cells4 kZ5 (by omega) (by omega); exact ⟨m, by have q := gZ 5 (by omega); rw [show 21 + 5 = 26 from rfl] at q; rw [← q]; exact hm⟩)
  have kZ6 : DataW.trod enc Tryz.prog w base (fun _ => true) held nZ 32 ((Z.drop 6).take (Tryz.prog.cellsOf 32)) = az[6]? := fZ 6 _ rfl
  have c27 := gOf_at (cs := cs) (j := 27) (k := .u32) (by obtain ⟨m, hm⟩ := fint (k := .u32) Tryz.underlying32 cells32 kZ6 (by omega) (by omega); exact ⟨m, by have q := gZ 6 (by omega); rw [show 21 + 6 = 27 from rfl] at q; rw [← q]; exact hm⟩)
  have kZ7 : DataW.trod enc Tryz.prog w base (fun _ => true) held nZ 4 ((Z.drop 7).take (Tryz.prog.cellsOf 4)) = az[7]? := fZ 7 _ rfl
  have c28 := hOf_at (cs := cs) (j := 28) (by obtain ⟨m, hm⟩ := fbool Tryz.underlying4 cells4 kZ7 (by omega) (by omega); exact ⟨m, by have q := gZ 7 (by omega); rw [show 21 + 7 = 28 from rfl] at q; rw [← q]; exact hm⟩)
  have kZ8 : DataW.trod enc Tryz.prog w base (fun _ => true) held nZ 33 ((Z.drop 8).take (Tryz.prog.cellsOf 33)) = az[8]? := fZ 8 _ rfl
  have c29 := gOf_at (cs := cs) (j := 29) (k := .u32) (by obtain ⟨m, hm⟩ := fint (k := .u32) Tryz.underlying33 cells33 kZ8 (by omega) (by omega); exact ⟨m, by have q := gZ 8 (by omega); rw [show 21 + 8 = 29 from rfl] at q; rw [← q]; exact hm⟩)
  have sp : DataW.trod enc Tryz.prog w base (fun _ => true) held nZ 51 ((Z.drop 1).take (Tryz.prog.cellsOf 51)) = az[1]? := fZ 1 _ rfl
  obtain ⟨Ap, Lp, Cp, Fp, dp, rowp, nilp⟩ := fnums Tryz.underlying51 Tryz.underlying32 cells32 cells51 sp (by omega) (by omega)
  have c22 : cs[22]? = some (.slice Ap Lp Cp) := by have q := gZ 1 (by omega); rw [show 21 + 1 = 22 from rfl] at q; rw [← q]; exact dp
  have sq : DataW.trod enc Tryz.prog w base (fun _ => true) held nZ 37 ((Z.drop 9).take (Tryz.prog.cellsOf 37)) = az[9]? := fZ 9 _ rfl
  obtain ⟨Aq, Lq, Cq, Fq, dq, rowq, nilq⟩ := fnums Tryz.underlying37 Tryz.underlying33 cells33 cells37 sq (by omega) (by omega)
  have c30 : cs[30]? = some (.slice Aq Lq Cq) := by have q := gZ 9 (by omega); rw [show 21 + 9 = 30 from rfl] at q; rw [← q]; exact dq
  have sm : DataW.trod enc Tryz.prog w base (fun _ => true) held nZ 52 ((Z.drop 10).take (Tryz.prog.cellsOf 52)) = az[10]? := fZ 10 _ rfl
  obtain ⟨Am, Lm, Cm, Fm, dm, rowm, nilm, rngm⟩ := fcomms sm (by omega) (by omega)
  have c31 : cs[31]? = some (.slice Am Lm Cm) := by have q := gZ 10 (by omega); rw [show 21 + 10 = 31 from rfl] at q; rw [← q]; exact dm
  have hT : DataW.trod enc Tryz.prog w base (fun _ => true) held nZ 54 ((Z.drop 11).take (Tryz.prog.cellsOf 54)) = az[11]? := fZ 11 _ rfl
  rw [List.getElem?_eq_getElem (by omega), cells54] at hT
  obtain ⟨T, eT⟩ : ∃ S, S = (Z.drop 11).take 4 := ⟨_, rfl⟩
  rw [← eT] at hT
  have gT : ∀ j, j < 4 → T[j]? = Z[11 + j]? := fun j hj => by rw [eT]; exact sub_get Z 11 4 j hj
  have lT : T.length = 4 := by rw [eT, List.length_take, List.length_drop]; omega
  obtain ⟨ts, nT, _, _, _, yT, fT⟩ := DataW.trod_struct Tryz.underlying54 hT
  have yT' : ts.length = 4 := yT
  have kT0 : DataW.trod enc Tryz.prog w base (fun _ => true) held nT 3 ((T.drop 0).take (Tryz.prog.cellsOf 3)) = ts[0]? := fT 0 _ rfl
  have c32 := gOf_at (cs := cs) (j := 32) (k := .i64) (by obtain ⟨m, hm⟩ := fint (k := .i64) Tryz.underlying3 cells3 kT0 (by omega) (by omega); exact ⟨m, by have q := gZ 11 (by omega); rw [show 21 + 11 = 32 from rfl] at q; rw [← q]; have q2 := gT 0 (by omega); rw [show 11 + 0 = 11 from rfl] at q2; rw [← q2]; exact hm⟩)
  have kT1 : DataW.trod enc Tryz.prog w base (fun _ => true) held nT 32 ((T.drop 1).take (Tryz.prog.cellsOf 32)) = ts[1]? := fT 1 _ rfl
  have c33 := gOf_at (cs := cs) (j := 33) (k := .u32) (by obtain ⟨m, hm⟩ := fint (k := .u32) Tryz.underlying32 cells32 kT1 (by omega) (by omega); exact ⟨m, by have q := gZ 12 (by omega); rw [show 21 + 12 = 33 from rfl] at q; rw [← q]; have q2 := gT 1 (by omega); rw [show 11 + 1 = 12 from rfl] at q2; rw [← q2]; exact hm⟩)
  have kT2 : DataW.trod enc Tryz.prog w base (fun _ => true) held nT 33 ((T.drop 2).take (Tryz.prog.cellsOf 33)) = ts[2]? := fT 2 _ rfl
  have c34 := gOf_at (cs := cs) (j := 34) (k := .u32) (by obtain ⟨m, hm⟩ := fint (k := .u32) Tryz.underlying33 cells33 kT2 (by omega) (by omega); exact ⟨m, by have q := gZ 13 (by omega); rw [show 21 + 13 = 34 from rfl] at q; rw [← q]; have q2 := gT 2 (by omega); rw [show 11 + 2 = 13 from rfl] at q2; rw [← q2]; exact hm⟩)
  have kT3 : DataW.trod enc Tryz.prog w base (fun _ => true) held nT 33 ((T.drop 3).take (Tryz.prog.cellsOf 33)) = ts[3]? := fT 3 _ rfl
  have c35 := gOf_at (cs := cs) (j := 35) (k := .u32) (by obtain ⟨m, hm⟩ := fint (k := .u32) Tryz.underlying33 cells33 kT3 (by omega) (by omega); exact ⟨m, by have q := gZ 14 (by omega); rw [show 21 + 14 = 35 from rfl] at q; rw [← q]; have q2 := gT 3 (by omega); rw [show 11 + 3 = 14 from rfl] at q2; rw [← q2]; exact hm⟩)
  refine ⟨⟨gOf cs, hOf cs, Ap, Lp, Cp, Aq, Lq, Cq, Am, Lm, Cm, Fp, Fq, Fm⟩, ?_, ⟨nilp, nilq, nilm, rngm⟩, ⟨rowp, rowq, rowm⟩⟩
  refine List.ext_getElem? fun j => ?_
  rcases Nat.lt_or_ge j 38 with hj | hj
  · rcases (show j = 0 ∨ j = 1 ∨ j = 2 ∨ j = 3 ∨ j = 4 ∨ j = 5 ∨ j = 6 ∨ j = 7 ∨ j = 8 ∨ j = 9 ∨ j = 10 ∨ j = 11 ∨ j = 12 ∨ j = 13 ∨ j = 14 ∨ j = 15 ∨ j = 16 ∨ j = 17 ∨ j = 18 ∨ j = 19 ∨ j = 20 ∨ j = 21 ∨ j = 22 ∨ j = 23 ∨ j = 24 ∨ j = 25 ∨ j = 26 ∨ j = 27 ∨ j = 28 ∨ j = 29 ∨ j = 30 ∨ j = 31 ∨ j = 32 ∨ j = 33 ∨ j = 34 ∨ j = 35 ∨ j = 36 ∨ j = 37 by omega) with rfl | rfl | rfl | rfl | rfl | rfl | rfl | rfl | rfl | rfl | rfl | rfl | rfl | rfl | rfl | rfl | rfl | rfl | rfl | rfl | rfl | rfl | rfl | rfl | rfl | rfl | rfl | rfl | rfl | rfl | rfl | rfl | rfl | rfl | rfl | rfl | rfl | rfl
    · exact c0
    · exact c1
    · exact cE 0 (by omega)
    · exact cE 1 (by omega)
    · exact cE 2 (by omega)
    · exact cE 3 (by omega)
    · exact cE 4 (by omega)
    · exact cE 5 (by omega)
    · exact cE 6 (by omega)
    · exact cE 7 (by omega)
    · exact cE 8 (by omega)
    · exact cE 9 (by omega)
    · exact c12
    · exact c13
    · exact c14
    · exact c15
    · exact c16
    · exact c17
    · exact c18
    · exact c19
    · exact c20
    · exact c21
    · exact c22
    · exact c23
    · exact c24
    · exact c25
    · exact c26
    · exact c27
    · exact c28
    · exact c29
    · exact c30
    · exact c31
    · exact c32
    · exact c33
    · exact c34
    · exact c35
    · exact c36
    · exact c37
  · rw [List.getElem?_eq_none (by omega), List.getElem?_eq_none (by rw [RT.len]; omega)]
end
end Go.Proofs.YtiellonfgcmaaaaGreat
