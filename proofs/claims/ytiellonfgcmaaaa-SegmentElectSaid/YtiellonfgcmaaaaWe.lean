/- The walk of the law: 'SegmentElect' returns true at whatever list of candidates. -/
import Derived.Test.YtiellonfgcmaaaaWd
import Derived.Test.YtiellonfgcmaaaaAw
namespace Go.Proofs.Ytiellonfgcmaaaa
open Go.RowKit Go.ChangeShapes

/-- A list of candidates: its addresses and its preferences. -/
def Cand (w : World) (A : Option Addr) (n c : Nat) (ip pr : Nat → Int) : Prop :=
  n = 0 ∨ ∃ b off, A = some ⟨b, off, none⟩ ∧ b < w.heap.size ∧ n ≤ c ∧ (∀ i, i < n → w.cell? ⟨b, off + i * 2, none⟩ = some (.int .u32 (ip i))) ∧ (∀ i, i < n → w.cell? ⟨b, off + i * 2 + 1, none⟩ = some (.int .i64 (pr i)))
theorem Cand.below {w w' : World} {A : Option Addr} {n c : Nat} {ip pr : Nat → Int} (h : Cand w A n c ip pr) (hb : Below w.heap.size w w') : Cand w' A n c ip pr := by
  rcases h with h | ⟨b, off, h1, h2, h3, h4, h5⟩
  · exact .inl h
  · exact .inr ⟨b, off, h1, Nat.lt_of_lt_of_le h2 hb.size, h3, fun i hi => (hb.cell (p := ⟨b, off + i * 2, none⟩) h2).trans (h4 i hi), fun i hi => (hb.cell (p := ⟨b, off + i * 2 + 1, none⟩) h2).trans (h5 i hi)⟩

theorem elR_zero (alg bd : Int) (ip pr : Nat → Int) : Ending.returned (.tuple #[.int .u32 0, .bool false]) = elR alg bd 0 ip pr := elR_no fun h => absurd h.2.1 (by omega)

theorem elect_all (alg bd : Int) (A : Option Addr) (n c : Nat) (ip pr : Nat → Int) (w : World) (h : Cand w A n c ip pr) (hn : n ≤ 100) (hbd : bd ≤ 9223372036854775807) :
    Calls Try.prog 6 #[.int .i64 alg, .slice A n c, .int .i64 bd] w fun e w' => e = elR alg bd n ip pr ∧ Below w.heap.size w w' := by
  rcases h with h | ⟨b, off, rfl, h2, h3, h4, h5⟩
  · subst h
    exact (elect_none alg bd A c w).mono fun e w' ⟨he, hw⟩ => ⟨he.trans (elR_zero alg bd ip pr), by rw [hw]; exact Below.refl _ _⟩
  · exact elect_any alg bd b off n c ip pr w hn h3 h2 hbd h4 h5

theorem relect_all (alg bd : Int) (A : Option Addr) (n c : Nat) (ip pr : Nat → Int) (w : World) (h : Cand w A n c ip pr) (hn : n ≤ 100) (hbd : bd ≤ 9223372036854775807) (hip : ∀ i, i < n → 0 ≤ ip i ∧ ip i ≤ 4294967295) :
    Calls Try.prog 7 #[.int .i64 alg, .slice A n c, .int .i64 bd] w fun e w' => e = elR alg bd n ip pr ∧ Below w.heap.size w w' := by
  rcases h with h | ⟨b, off, rfl, h2, h3, h4, h5⟩
  · subst h
    exact (relect_none alg bd A c w).mono fun e w' ⟨he, hw⟩ => ⟨he.trans (elR_zero alg bd ip pr), by rw [hw]; exact Below.refl _ _⟩
  · by_cases ok : 0 < n ∧ 0 ≤ alg ∧ alg ≤ 2 ∧ 0 ≤ bd
    · obtain ⟨hn0, ha, ha2, hb0⟩ := ok
      rcases (show alg = 0 ∨ alg = 1 ∨ alg = 2 by omega) with rfl | rfl | rfl
      · exact relect0 bd b off n c ip pr w hn hn0 h3 h2 hb0 hbd hip h4 h5
      · exact relect1 bd b off n c ip pr w hn hn0 h3 h2 hb0 hbd hip h4 h5
      · exact relect2 bd b off n c ip pr w hn hn0 h3 h2 hb0 hbd hip h4 h5
    · exact (relect_bad alg bd b off n c ip pr w hn ok).mono fun e w' ⟨he, hw⟩ => ⟨he, by rw [hw]; exact Below.refl _ _⟩

set_option maxHeartbeats 4000000 in
theorem own_zero (a : Addr) (c : Nat) (w : World) : Calls Try.prog 5 #[.slice (some a) 0 c] w fun e w' => (∃ a' c', e = .returned (.slice a' 0 c')) ∧ Below w.heap.size w w' := by
  go_enter Try.func5, Try.ntmps5
  go_wp2
  go_ret
  exact ⟨⟨_, _, rfl⟩, (Below.refl _ _).alloc (Nat.le_refl _) _⟩

def OwnPost (n : Nat) (ip pr : Nat → Int) (w : World) (e : Ending) (w' : World) : Prop := ∃ A c, e = .returned (.slice A n c) ∧ Cand w' A n c ip pr ∧ Below w.heap.size w w'
theorem own_all (A : Option Addr) (n c : Nat) (ip pr : Nat → Int) (w : World) (h : Cand w A n c ip pr) (hA : A = none → n = 0 ∧ c = 0) (hn : n ≤ 100) :
    Calls Try.prog 5 #[.slice A n c] w (OwnPost n ip pr w) := by
  rcases h with h | ⟨b, off, rfl, h2, h3, h4, h5⟩
  · subst h
    rcases A with _ | a
    · obtain ⟨_, rfl⟩ := hA rfl
      exact (own_none w).mono fun e w' ⟨⟨a', c', he⟩, hb⟩ => ⟨a', c', he, .inl rfl, hb⟩
    · exact (own_zero a c w).mono fun e w' ⟨⟨a', c', he⟩, hb⟩ => ⟨a', c', he, .inl rfl, hb⟩
  · exact (own_any b off n c ip pr w hn h2 h4 h5).mono fun e w' ⟨g, cap, he, hc, hg, hb, k0, k1⟩ =>
      ⟨_, cap, he, .inr ⟨g, 0, rfl, hg, hc, fun i hi => by rw [Nat.zero_add]; exact k0 i hi, fun i hi => by rw [Nat.zero_add]; exact k1 i hi⟩, hb⟩

theorem same_all (A A' : Option Addr) (n c c' : Nat) (ip pr : Nat → Int) (w : World) (h : Cand w A n c ip pr) (h' : Cand w A' n c' ip pr) (hn : n ≤ 100) :
    Calls Try.prog 10 #[.slice A n c, .slice A' n c'] w fun e w' => e = .returned (.bool true) ∧ Below w.heap.size w w' := by
  rcases h with h | ⟨b, off, rfl, h2, h3, h4, h5⟩
  · subst h
    exact (same_none A A' c c' w).mono fun e w' ⟨he, hw⟩ => ⟨he, by rw [hw]; exact Below.refl _ _⟩
  · rcases h' with h' | ⟨b', off', rfl, k2, k3, k4, k5⟩
    · subst h'
      exact (same_none _ A' c c' w).mono fun e w' ⟨he, hw⟩ => ⟨he, by rw [hw]; exact Below.refl _ _⟩
    · exact same_any b' off' c' b off c n ip pr w hn k4 k5 h4 h5

/-- More than a hundred candidates: the chapter's examples alone. -/
theorem long_any (alg bd ip : Int) (A : Option Addr) (n c : Nat) (w : World) (hn : 100 < n) :
    Calls Try.prog 3 #[.int .i64 alg, .slice A n c, .int .i64 bd, .int .u32 ip] w fun e w' => e = .returned (.bool true) ∧ Below w.heap.size w w' := by
  go_enter Try.func3, Try.ntmps3
  go_wp2_with (go_at_call 4; refine (awake_any _).mono ?_; rintro e w' ⟨rfl, hb⟩)
  go_ret
  exact ⟨rfl, hb⟩

set_option maxRecDepth 100000 in
set_option maxHeartbeats 8000000 in
theorem law_any (alg bd x : Int) (A : Option Addr) (n c : Nat) (ip pr : Nat → Int) (w : World) (h : Cand w A n c ip pr) (hA : A = none → n = 0 ∧ c = 0) (hn : n ≤ 100) (hbd : bd ≤ 9223372036854775807)
    (hip : ∀ i, i < n → 0 ≤ ip i ∧ ip i ≤ 4294967295) (hx : 0 ≤ x ∧ x ≤ 4294967295) :
    Calls Try.prog 3 #[.int .i64 alg, .slice A n c, .int .i64 bd, .int .u32 x] w fun e w' => e = .returned (.bool true) ∧ Below w.heap.size w w' := by
  obtain ⟨V, B, hVB⟩ : ∃ V B, elR alg bd n ip pr = .returned (.tuple #[.int .u32 V, .bool B]) := ⟨_, _, rfl⟩
  obtain ⟨X, hX⟩ : ∃ X, X = wt x bd := ⟨_, rfl⟩
  have H6 : Hid (∀ (A : Option Addr) (c : Nat) (w : World), Cand w A n c ip pr → Calls Try.prog 6 #[.int .i64 alg, .slice A n c, .int .i64 bd] w fun e w' => e = .returned (.tuple #[.int .u32 V, .bool B]) ∧ Below w.heap.size w w') :=
    fun A c w h => hVB ▸ elect_all alg bd A n c ip pr w h hn hbd
  have H7 : Hid (∀ (A : Option Addr) (c : Nat) (w : World), Cand w A n c ip pr → Calls Try.prog 7 #[.int .i64 alg, .slice A n c, .int .i64 bd] w fun e w' => e = .returned (.tuple #[.int .u32 V, .bool B]) ∧ Below w.heap.size w w') :=
    fun A c w h => hVB ▸ relect_all alg bd A n c ip pr w h hn hbd hip
  have H8 : Hid (∀ (w : World), Calls Try.prog 8 #[.int .u32 x, .int .i64 bd] w fun e w' => e = .returned (.int .u64 X) ∧ Below w.heap.size w w') := fun w => hX ▸ weight_any x bd w
  have H9 : Hid (∀ (w : World), Calls Try.prog 9 #[.int .u32 x, .int .i64 bd] w fun e w' => e = .returned (.int .u64 X) ∧ Below w.heap.size w w') := fun w => hX ▸ rweight_any x bd w hx.1 hx.2
  have H5 : Hid (Calls Try.prog 5 #[.slice A n c] w (OwnPost n ip pr w)) := own_all A n c ip pr w h hA hn
  have H10 : Hid (∀ (A A' : Option Addr) (c c' : Nat) (w : World), Cand w A n c ip pr → Cand w A' n c' ip pr → Calls Try.prog 10 #[.slice A n c, .slice A' n c'] w fun e w' => e = .returned (.bool true) ∧ Below w.heap.size w w') :=
    fun A A' c c' w h h' => same_all A A' n c c' ip pr w h h' hn
  have HC := Lib.hid h
  clear h hip hVB hX hA
  go_enter Try.func3, Try.ntmps3
  go_wp2_with fail
  refine H5.out.mono ?_
  rintro e w1 ⟨A1, c1, rfl, C1, b1⟩
  go_wp2_with fail
  refine (H6.out _ _ _ C1).mono ?_
  rintro e w2 ⟨rfl, b2⟩
  go_wp2_with fail
  refine (H7.out _ _ _ (HC.out.below (b1.trans (b2.mono b1.size)))).mono ?_
  rintro e w3 ⟨rfl, b3⟩
  go_wp2_with fail
  refine (H8.out _).mono ?_
  rintro e w4 ⟨rfl, b4⟩
  go_wp2_with fail
  refine (H9.out _).mono ?_
  rintro e w5 ⟨rfl, b5⟩
  go_wp2_with fail
  have t2 := b1.trans (b2.mono b1.size)
  have t3 := t2.trans (b3.mono t2.size)
  have t4 := t3.trans (b4.mono t3.size)
  have t5 := t4.trans (b5.mono t4.size)
  have u3 := b2.trans (b3.mono b2.size)
  have u4 := u3.trans (b4.mono u3.size)
  have u5 := u4.trans (b5.mono u4.size)
  refine (H10.out _ _ _ _ _ (C1.below u5) (HC.out.below t5)).mono ?_
  rintro e w6 ⟨rfl, b6⟩
  go_wp2_with fail
  refine (awake_any _).mono ?_
  rintro e w7 ⟨rfl, b7⟩
  go_wp2_with fail
  go_ret
  have t6 := t5.trans (b6.mono t5.size)
  exact ⟨by simp, t6.trans (b7.mono t6.size)⟩

end Go.Proofs.Ytiellonfgcmaaaa
