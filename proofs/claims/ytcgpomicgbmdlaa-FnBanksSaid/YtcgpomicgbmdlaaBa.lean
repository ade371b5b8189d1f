/- Complex numbers on a grid: what the program's products, quotients, sums and loads of one phase answer; conditions: as each lemma states them. -/
import Derived.Test.YtcgpomicgbmdlaaGg
import Derived.Test.YtcgpomicgbmdlaaPFnBanksm9
namespace Go.Proofs.Ytcgpomicgbmdlaa.Bk
open Go Go.RowKit Go.Proofs.YtcgpomicgbmdlaaW.PrintWords Go.Proofs.YtcgpomicgbmdlaaW.PrintLast Go.Proofs.Ytcgpomicgbmdlaa.PFnBanks Go.Proofs.Ytcgpomicgbmdlaa.Gr
set_option linter.unusedVariables false

/-- Both parts' absolute values, in units of 2^-16. -/
def C (r i : Nat) (z : Cx) : Prop := I .f32 (-(r : Int)) r z.re ∧ I .f32 (-(i : Int)) i z.im
theorem C.mono {r i r' i' : Nat} {z : Cx} (h : C r i z) (h1 : r ≤ r') (h2 : i ≤ i') : C r' i' z := ⟨h.1.mono (by omega) (by omega), h.2.mono (by omega) (by omega)⟩
theorem tp32 : tp .f32 = 16777216 := rfl
theorem tp64 : tp .f64 = 9007199254740992 := rfl
theorem wide_ {l1 h1 l2 h2 : Int} {z : Cx} (hr : I .f32 l1 h1 z.re) (hi : I .f32 l2 h2 z.im) (b1 : -16777216 < l1) (b2 : h1 < 16777216) (b3 : -16777216 < l2) (b4 : h2 < 16777216) :
    ∃ a b, impl_wide.f z = some (a, b) ∧ I .f64 l1 h1 a ∧ I .f64 l2 h2 b := by
  obtain ⟨g1, g2⟩ := cv_I (d := .f64) (by decide) hr (by rw [tp64]; omega) (by rw [tp64]; omega)
  obtain ⟨g3, g4⟩ := cv_I (d := .f64) (by decide) hi (by rw [tp64]; omega) (by rw [tp64]; omega)
  refine ⟨_, _, ?_, g2, g4⟩
  unfold impl_wide.f
  rw [if_pos g1, if_pos g3]
theorem mulC {ar ai br bi q1 q2 q3 q4 : Nat} {x y : Cx} (hx : C ar ai x) (hy : C br bi y) (h1 : ar * br ≤ q1 * 65536) (h2 : ai * bi ≤ q2 * 65536) (h3 : ar * bi ≤ q3 * 65536) (h4 : ai * br ≤ q4 * 65536)
    (b1 : q1 + q2 < 16777216) (b2 : q3 + q4 < 16777216) (e1 : ar < 16777216) (e2 : ai < 16777216) (e3 : br < 16777216) (e4 : bi < 16777216) : ∃ p, impl_MulComplex.f x y = some p ∧ C (q1 + q2) (q3 + q4) p := by
  obtain ⟨a, b, w1, a1, a2⟩ := wide_ hx.1 hx.2 (by omega) (by omega) (by omega) (by omega)
  obtain ⟨c, d, w2, c1, c2⟩ := wide_ hy.1 hy.2 (by omega) (by omega) (by omega) (by omega)
  obtain ⟨m1, m2⟩ := mul_I a1 c1 h1 (by rw [tp64]; omega)
  obtain ⟨m3, m4⟩ := mul_I a2 c2 h2 (by rw [tp64]; omega)
  obtain ⟨m5, m6⟩ := mul_I a1 c2 h3 (by rw [tp64]; omega)
  obtain ⟨m7, m8⟩ := mul_I a2 c1 h4 (by rw [tp64]; omega)
  obtain ⟨s1, s2⟩ := sub_I m2 m4 (by rw [tp64]; omega) (by rw [tp64]; omega)
  obtain ⟨s3, s4⟩ := add_I m6 m8 (by rw [tp64]; omega) (by rw [tp64]; omega)
  obtain ⟨n1, n2⟩ := cv_I (d := .f32) (by decide) s2 (by rw [tp32]; omega) (by rw [tp32]; omega)
  obtain ⟨n3, n4⟩ := cv_I (d := .f32) (by decide) s4 (by rw [tp32]; omega) (by rw [tp32]; omega)
  refine ⟨⟨_, _⟩, ?_, n2.mono (by omega) (by omega), n4.mono (by omega) (by omega)⟩
  unfold impl_MulComplex.f
  rw [w1]
  simp only [Option.bind_some]
  rw [w2]
  simp only [Option.bind_some]
  rw [if_pos m1, if_pos m3, if_pos s1, if_pos n1, if_pos m5, if_pos m7, if_pos s3, if_pos n3]
  rfl
/-- The power of a number that is told by intervals. -/
theorem power_ {l1 h1 l2 h2 : Int} {z : Cx} {r i al1 al2 p1 p2 c1 c2 : Nat} (hr : I .f32 l1 h1 z.re) (hi : I .f32 l2 h2 z.im) (b1 : -(r : Int) ≤ l1) (b2 : h1 ≤ r) (b3 : -(i : Int) ≤ l2) (b4 : h2 ≤ i)
    (g1 : al1 = 0 ∨ (al1 : Int) ≤ l1 ∨ h1 ≤ -(al1 : Int)) (g2 : al2 = 0 ∨ (al2 : Int) ≤ l2 ∨ h2 ≤ -(al2 : Int)) (f1 : p1 * 65536 ≤ al1 * al1) (f2 : p2 * 65536 ≤ al2 * al2) (f3 : r * r ≤ c1 * 65536) (f4 : i * i ≤ c2 * 65536)
    (e1 : r < 16777216) (e2 : i < 16777216) (e3 : c1 + c2 < 9007199254740992) : ∃ p, impl_power.f z = some p ∧ I .f64 ((p1 + p2 : Nat) : Int) ((c1 + c2 : Nat) : Int) p := by
  obtain ⟨a, b, w1, a1, a2⟩ := wide_ hr hi (by omega) (by omega) (by omega) (by omega)
  obtain ⟨m1, m2⟩ := sq_I a1 b1 b2 g1 f3 f1 (by rw [tp64]; omega)
  obtain ⟨m3, m4⟩ := sq_I a2 b3 b4 g2 f4 f2 (by rw [tp64]; omega)
  obtain ⟨s1, s2⟩ := add_I m2 m4 (by rw [tp64]; omega) (by rw [tp64]; omega)
  refine ⟨_, ?_, s2.mono (by omega) (by omega)⟩
  unfold impl_power.f
  rw [w1]
  simp only [Option.bind_some]
  rw [if_pos m1, if_pos m3, if_pos s1]
theorem quoC {ar ai br bi q1 q2 q3 q4 al1 al2 p1 p2 c1 c2 cr ci : Nat} {l1 h1 l2 h2 : Int} {x y : Cx} (hx : C ar ai x) (hr : I .f32 l1 h1 y.re) (hi : I .f32 l2 h2 y.im)
    (b1 : -(br : Int) ≤ l1) (b2 : h1 ≤ br) (b3 : -(bi : Int) ≤ l2) (b4 : h2 ≤ bi) (g1 : al1 = 0 ∨ (al1 : Int) ≤ l1 ∨ h1 ≤ -(al1 : Int)) (g2 : al2 = 0 ∨ (al2 : Int) ≤ l2 ∨ h2 ≤ -(al2 : Int))
    (f1 : p1 * 65536 ≤ al1 * al1) (f2 : p2 * 65536 ≤ al2 * al2) (f3 : br * br ≤ c1 * 65536) (f4 : bi * bi ≤ c2 * 65536)
    (k1 : ar * br ≤ q1 * 65536) (k2 : ai * bi ≤ q2 * 65536) (k3 : ar * bi ≤ q3 * 65536) (k4 : ai * br ≤ q4 * 65536)
    (r1 : (q1 + q2) * 65536 ≤ cr * (p1 + p2)) (r2 : (q3 + q4) * 65536 ≤ ci * (p1 + p2)) (hp : 0 < p1 + p2)
    (e1 : ar < 16777216) (e2 : ai < 16777216) (e3 : br < 16777216) (e4 : bi < 16777216) (e5 : c1 + c2 < 9007199254740992) (e6 : q1 + q2 < 9007199254740992) (e7 : q3 + q4 < 9007199254740992) (e8 : cr < 16777216) (e9 : ci < 16777216) :
    ∃ z, impl_QuotientOf.f x y = some z ∧ C cr ci z := by
  obtain ⟨a, b, w1, a1, a2⟩ := wide_ hx.1 hx.2 (by omega) (by omega) (by omega) (by omega)
  have hy1 : I .f32 (-(br : Int)) br y.re := hr.mono (by omega) (by omega)
  have hy2 : I .f32 (-(bi : Int)) bi (fneg .f32 y.im) := (neg_I hi).mono (by omega) (by omega)
  obtain ⟨c, d, w2, c1', c2'⟩ := wide_ (z := ⟨y.re, fneg .f32 y.im⟩) hy1 hy2 (by omega) (by omega) (by omega) (by omega)
  obtain ⟨p, pw, pI⟩ := power_ hr hi b1 b2 b3 b4 g1 g2 f1 f2 f3 f4 e3 e4 e5
  obtain ⟨m1, m2⟩ := mul_I a1 c1' k1 (by rw [tp64]; omega)
  obtain ⟨m3, m4⟩ := mul_I a2 c2' k2 (by rw [tp64]; omega)
  obtain ⟨m5, m6⟩ := mul_I a1 c2' k3 (by rw [tp64]; omega)
  obtain ⟨m7, m8⟩ := mul_I a2 c1' k4 (by rw [tp64]; omega)
  obtain ⟨s1, s2⟩ := sub_I m2 m4 (by rw [tp64]; omega) (by rw [tp64]; omega)
  obtain ⟨s3, s4⟩ := add_I m6 m8 (by rw [tp64]; omega) (by rw [tp64]; omega)
  have s2' := s2.mono (lo' := -((q1 + q2 : Nat) : Int)) (hi' := ((q1 + q2 : Nat) : Int)) (by omega) (by omega)
  have s4' := s4.mono (lo' := -((q3 + q4 : Nat) : Int)) (hi' := ((q3 + q4 : Nat) : Int)) (by omega) (by omega)
  obtain ⟨d1, d2⟩ := quo_I s2' pI hp r1 (by rw [tp64]; omega)
  obtain ⟨d3, d4⟩ := quo_I s4' pI hp r2 (by rw [tp64]; omega)
  obtain ⟨n1, n2⟩ := cv_I (d := .f32) (by decide) d2 (by rw [tp32]; omega) (by rw [tp32]; omega)
  obtain ⟨n3, n4⟩ := cv_I (d := .f32) (by decide) d4 (by rw [tp32]; omega) (by rw [tp32]; omega)
  refine ⟨⟨_, _⟩, ?_, n2, n4⟩
  unfold impl_QuotientOf.f impl_ConjugateOf.f
  rw [w1]
  simp only [Option.bind_some]
  rw [w2]
  simp only [Option.bind_some]
  rw [pw]
  simp only [Option.bind_some]
  rw [if_pos m1, if_pos m3, if_pos s1, if_pos m5, if_pos m7, if_pos s3, if_pos d1, if_pos n1, if_pos d3, if_pos n3]
  rfl
theorem conjC {r i : Nat} {z : Cx} (h : C r i z) : impl_ConjugateOf.f z = some ⟨z.re, fneg .f32 z.im⟩ ∧ C r i ⟨z.re, fneg .f32 z.im⟩ :=
  ⟨rfl, h.1, (neg_I h.2).mono (by omega) (by omega)⟩
theorem plusC {r i r' i' : Nat} {x y : Cx} (hx : C r i x) (hy : C r' i' y) (e1 : r + r' < 16777216) (e2 : i + i' < 16777216) : ∃ z, impl_plus.f x y = some z ∧ C (r + r') (i + i') z := by
  obtain ⟨g1, g2⟩ := add_I hx.1 hy.1 (by rw [tp32]; omega) (by rw [tp32]; omega)
  obtain ⟨g3, g4⟩ := add_I hx.2 hy.2 (by rw [tp32]; omega) (by rw [tp32]; omega)
  refine ⟨⟨_, _⟩, ?_, g2.mono (by omega) (by omega), g4.mono (by omega) (by omega)⟩
  unfold impl_plus.f
  rw [if_pos g1, if_pos g3]
  rfl
/-- Between bounds, both parts. -/
def Box (rl rh il ih : Int) (z : Cx) : Prop := I .f32 rl rh z.re ∧ I .f32 il ih z.im
theorem Box.mono {rl rh il ih rl' rh' il' ih' : Int} {z : Cx} (h : Box rl rh il ih z) (h1 : rl' ≤ rl) (h2 : rh ≤ rh') (h3 : il' ≤ il) (h4 : ih ≤ ih') : Box rl' rh' il' ih' z := ⟨h.1.mono h1 h2, h.2.mono h3 h4⟩
theorem minusC {rl rh il ih : Int} {r i : Nat} {x y : Cx} (hx : Box rl rh il ih x) (hy : C r i y) (e1 : -16777216 < rl - r) (e2 : rh + r < 16777216) (e3 : -16777216 < il - i) (e4 : ih + i < 16777216) :
    ∃ z, impl_minus.f x y = some z ∧ Box (rl - r) (rh + r) (il - i) (ih + i) z := by
  obtain ⟨g1, g2⟩ := sub_I hx.1 hy.1 (by rw [tp32]; omega) (by rw [tp32]; omega)
  obtain ⟨g3, g4⟩ := sub_I hx.2 hy.2 (by rw [tp32]; omega) (by rw [tp32]; omega)
  refine ⟨⟨_, _⟩, ?_, g2.mono (by omega) (by omega), g4.mono (by omega) (by omega)⟩
  unfold impl_minus.f
  rw [if_pos g1, if_pos g3]
  rfl
theorem C0 : C 0 0 (⟨0, 0⟩ : Cx) := by
  have : I .f32 (-((0 : Nat) : Int)) ((0 : Nat) : Int) 0 := ⟨false, 0, FloatKind.f32.format.leastPlace, rfl, Int.le_refl _, by simp [vge, sg], by simp [vle, sg]⟩
  exact ⟨this, this⟩
end Go.Proofs.Ytcgpomicgbmdlaa.Bk
/- One sweep of a mild feeder with a bank, on a grid: currents of loads, their sums, the drops, the voltages; conditions: as each lemma states them. -/
namespace Go.Proofs.Ytcgpomicgbmdlaa.Bk
open Go Go.RowKit Go.Proofs.YtcgpomicgbmdlaaW.PrintWords Go.Proofs.YtcgpomicgbmdlaaW.PrintLast Go.Proofs.Ytcgpomicgbmdlaa.PFnBanks Go.Proofs.Ytcgpomicgbmdlaa.Gr
set_option linter.unusedVariables false

/-- A phase's numbers in a sweep: where its voltages lie, their greatest and least parts, the currents of a bus and of the bank, the drop of a line. -/
structure Ph where
  (rl rh il ih : Int)
  (mr mi al1 al2 cr ci br bi dr di : Nat)
def Ph.box (p : Ph) (z : Cx) : Prop := Box p.rl p.rh p.il p.ih z
def Ph.jr (p : Ph) : Nat := 5 * p.cr + p.br
def Ph.ji (p : Ph) : Nat := 5 * p.ci + p.bi
/-- The banks' loads: bounds of the imaginary part (the real part is nought). -/
structure Bank (L : Cx) (lz lo : Nat) : Prop where
  re : I .f32 0 0 L.re
  im : I .f32 (-(lz : Int)) (-(lo : Int)) L.im
  top : lz < 16777216
  low : 0 < lo * lo / 65536
/-- What is asked of a phase's numbers. -/
structure Ok (BT : List (Nat × Nat)) (p : Ph) : Prop where
  m1 : -(p.mr : Int) ≤ p.rl
  m2 : p.rh ≤ p.mr
  m3 : -(p.mi : Int) ≤ p.il
  m4 : p.ih ≤ p.mi
  m5 : p.mr < 4194304
  m6 : p.mi < 4194304
  a1 : p.al1 = 0 ∨ (p.al1 : Int) ≤ p.rl ∨ p.rh ≤ -(p.al1 : Int)
  a2 : p.al2 = 0 ∨ (p.al2 : Int) ≤ p.il ∨ p.ih ≤ -(p.al2 : Int)
  a3 : 0 < p.al1 * p.al1 / 65536 + p.al2 * p.al2 / 65536
  q1 : (2 * p.mr + (p.mi / 2 + 1)) * 65536 ≤ p.cr * (p.al1 * p.al1 / 65536 + p.al2 * p.al2 / 65536)
  q2 : (2 * p.mi + (p.mr / 2 + 1)) * 65536 ≤ p.ci * (p.al1 * p.al1 / 65536 + p.al2 * p.al2 / 65536)
  c1 : 131072 ≤ p.cr
  c2 : 32768 ≤ p.ci
  b1 : ∀ z ∈ BT, (p.mi * z.1 / 65536 + 1) * 65536 ≤ p.br * (z.2 * z.2 / 65536)
  b2 : ∀ z ∈ BT, (p.mr * z.1 / 65536 + 1) * 65536 ≤ p.bi * (z.2 * z.2 / 65536)
  j1 : p.jr < 4194304
  j2 : p.ji < 4194304
  d1 : (p.jr / 16 + 1) + (3 * p.ji / 64 + 1) ≤ p.dr
  d2 : (p.ji / 16 + 1) + (3 * p.jr / 64 + 1) ≤ p.di
  d3 : p.dr < 2097152
  d4 : p.di < 2097152
section
variable {BT : List (Nat × Nat)} {p : Ph}
theorem Ph.box_C (ok : Ok BT p) {z : Cx} (h : p.box z) : C p.mr p.mi z := ⟨h.1.mono ok.m1 ok.m2, h.2.mono ok.m3 ok.m4⟩
theorem div_ge (a b : Nat) (hb : 0 < b) : a ≤ (a / b + 1) * b := by
  have := Nat.div_add_mod a b
  have := Nat.mod_lt a hb
  rw [Nat.add_mul, Nat.mul_comm (a / b) b]
  omega
theorem div_le' (a b : Nat) : a / b * b ≤ a := Nat.div_mul_le_self a b
/-- The current of a bus's load. -/
theorem load1 (ok : Ok BT p) {L V : Cx} (hL : C 131072 32768 L) (hV : p.box V) {s0 s3 s7 : Int} {s1 s2 s4 s5 s6 : Cx} (h3 : s3 = 0 ∨ s3 = 1) :
    ∃ z, impl_LoadCurrentOf_1.f L V s0 s1 s2 s3 s4 s5 s6 s7 = some (z, s0, s1, s2, s3, s4, s5, s6, s7) ∧ C p.cr p.ci z := by
  unfold impl_LoadCurrentOf_1.f
  by_cases c : ceq .f32 L.re L.im 0 0 = true
  · rw [if_pos c]
    exact ⟨_, rfl, C0.mono (Nat.zero_le _) (Nat.zero_le _)⟩
  · rw [if_neg c]
    rcases h3 with rfl | rfl
    · rw [if_pos rfl]
      have m5 := ok.m5
      have m6 := ok.m6
      have hcr : p.cr < 16777216 := by have := ok.j1; unfold Ph.jr at this; omega
      have hci : p.ci < 16777216 := by have := ok.j2; unfold Ph.ji at this; omega
      have hsq : ∀ n : Nat, n < 4194304 → n * n / 65536 + 1 < 4503599627370496 := by
        intro n hn
        have h1 : n * n ≤ 4194304 * 4194304 := Nat.mul_le_mul (by omega) (by omega)
        have h2 : n * n / 65536 ≤ 4194304 * 4194304 / 65536 := Nat.div_le_div_right h1
        omega
      obtain ⟨z, h1, h2⟩ := quoC (q1 := 2 * p.mr) (q2 := p.mi / 2 + 1) (q3 := 2 * p.mi) (q4 := p.mr / 2 + 1) (p1 := p.al1 * p.al1 / 65536) (p2 := p.al2 * p.al2 / 65536) (c1 := p.mr * p.mr / 65536 + 1) (c2 := p.mi * p.mi / 65536 + 1) (cr := p.cr) (ci := p.ci)
        hL hV.1 hV.2 ok.m1 ok.m2 ok.m3 ok.m4 ok.a1 ok.a2 (div_le' _ _) (div_le' _ _) (div_ge _ _ (by decide)) (div_ge _ _ (by decide)) (by omega) (by omega) (by omega) (by omega) ok.q1 ok.q2 ok.a3 (by omega) (by omega) (by omega) (by omega) (by have := hsq _ m5; have := hsq _ m6; omega) (by omega) (by omega) hcr hci
      obtain ⟨h3, h4⟩ := conjC h2
      rw [h1]
      simp only [Option.bind_some]
      rw [h3]
      exact ⟨_, rfl, h4⟩
    · rw [if_neg (by decide), if_pos rfl]
      exact ⟨_, rfl, hL.mono ok.c1 ok.c2⟩
theorem vle_vge_le {z i a b : Int} (h1 : vge z i a) (h2 : vle z i b) : a ≤ b := by
  unfold vge at h1
  unfold vle at h2
  exact Int.le_of_mul_le_mul_right (Int.le_trans h1 h2) (p2pos _)
/-- The current of the bank. -/
theorem loadB (ok : Ok BT p) {L V : Cx} {lz lo : Nat} (hL : Bank L lz lo) (hT : (lz, lo) ∈ BT) (hV : p.box V) {s0 s7 : Int} {s1 s2 s4 s5 s6 : Cx} :
    ∃ z, impl_LoadCurrentOf_1.f L V s0 s1 s2 2 s4 s5 s6 s7 = some (z, s0, s1, s2, 2, s4, s5, s6, s7) ∧ C p.br p.bi z := by
  unfold impl_LoadCurrentOf_1.f
  by_cases c : ceq .f32 L.re L.im 0 0 = true
  · rw [if_pos c]
    exact ⟨_, rfl, C0.mono (Nat.zero_le _) (Nat.zero_le _)⟩
  · rw [if_neg c, if_neg (by decide), if_neg (by decide), if_pos rfl]
    have m5 := ok.m5
    have m6 := ok.m6
    have ht := hL.top
    have hbr : p.br < 16777216 := by have := ok.j1; unfold Ph.jr at this; omega
    have hbi : p.bi < 16777216 := by have := ok.j2; unfold Ph.ji at this; omega
    have hq : ∀ n : Nat, n < 4194304 → n * lz / 65536 + 1 < 4503599627370496 := by
      intro n hn
      have h1 : n * lz ≤ 4194304 * 16777216 := Nat.mul_le_mul (by omega) (by omega)
      have h2 : n * lz / 65536 ≤ 4194304 * 16777216 / 65536 := Nat.div_le_div_right h1
      omega
    have hl : lz * lz / 65536 + 1 < 9007199254740992 := by
      have h1 : lz * lz ≤ 16777216 * 16777216 := Nat.mul_le_mul (by omega) (by omega)
      have h2 : lz * lz / 65536 ≤ 16777216 * 16777216 / 65536 := Nat.div_le_div_right h1
      omega
    have hb1 := ok.b1 _ hT
    have hb2 := ok.b2 _ hT
    have h5 := hq _ m5
    have h6 := hq _ m6
    have hlow := hL.low
    have k2 := div_ge (p.mi * lz) 65536 (by decide)
    have k3 := div_ge (p.mr * lz) 65536 (by decide)
    have f2 := div_le' (lo * lo) 65536
    have f4 := div_ge (lz * lz) 65536 (by decide)
    have hlz : -(lz : Int) ≤ -(lo : Int) := by
      obtain ⟨s, m, i, r1, r2, v1, v2⟩ := hL.im
      exact vle_vge_le v1 v2
    generalize p.mi * lz / 65536 = u at *
    generalize p.mr * lz / 65536 = v at *
    generalize hlo : lo * lo / 65536 = x at *
    generalize lz * lz / 65536 = y at *
    obtain ⟨z, h1, h2⟩ := quoC (ar := p.mr) (ai := p.mi) (br := 0) (bi := lz) (al1 := 0) (al2 := lo) (q1 := 0) (q2 := u + 1) (q3 := v + 1) (q4 := 0) (p1 := 0) (p2 := x) (c1 := 0) (c2 := y + 1) (cr := p.br) (ci := p.bi)
      (Ph.box_C ok hV) hL.re hL.im (by omega) (by omega) (by omega) (by omega) (.inl rfl) (.inr (.inr (Int.le_refl _))) (by simp) f2 (by simp) f4 (by simp) k2 k3 (by simp) (by rw [Nat.zero_add, Nat.zero_add]; exact hb1) (by rw [Nat.zero_add, Nat.add_zero]; exact hb2) (by omega) (by omega) (by omega) (by omega) ht (by omega) (by omega) (by omega) hbr hbi
    rw [h1]
    exact ⟨_, rfl, h2⟩
end
end Go.Proofs.Ytcgpomicgbmdlaa.Bk
/- The loops of a sweep: loads, sums back, drops forth; conditions: as each lemma states them. -/
namespace Go.Proofs.Ytcgpomicgbmdlaa.Bk
open Go Go.RowKit Go.Proofs.YtcgpomicgbmdlaaW.PrintWords Go.Proofs.YtcgpomicgbmdlaaW.PrintLast Go.Proofs.Ytcgpomicgbmdlaa.PFnBanks Go.Proofs.Ytcgpomicgbmdlaa.Gr
set_option linter.unusedVariables false
theorem w64 {n : Int} (h0 : -1000 ≤ n) (h1 : n < 9223372036854775808) : wrap64 n = n := by unfold wrap64; omega
theorem rd_app_lt {a : List S39} {x : S39} {j : Nat} (h : j < a.length) : rd_T39 (a ++ [x]) (j : Int) = rd_T39 a (j : Int) := by
  unfold rd_T39
  simp only [Int.toNat_natCast, List.getD_eq_getElem?_getD, List.getElem?_append_left h]
theorem rd_app_eq {a : List S39} {x : S39} {j : Nat} (h : j = a.length) : rd_T39 (a ++ [x]) (j : Int) = x := by
  subst h
  unfold rd_T39
  simp
theorem rd_set_ne {a : List S39} {x : S39} {p j : Nat} (h : j ≠ p) : rd_T39 (a.set p x) (j : Int) = rd_T39 a (j : Int) := by
  unfold rd_T39
  simp only [Int.toNat_natCast, List.getD_eq_getElem?_getD]
  rw [List.getElem?_set_ne (by omega)]
theorem rd_set_eq {a : List S39} {x : S39} {p : Nat} (h : p < a.length) : rd_T39 (a.set p x) (p : Int) = x := by
  unfold rd_T39
  simp only [Int.toNat_natCast, List.getD_eq_getElem?_getD]
  rw [List.getElem?_set_self h]
  rfl
/-- A current made of n buses' and m banks' currents. -/
def W (p : Ph) (n m : Nat) (z : Cx) : Prop := C (n * p.cr + m * p.br) (n * p.ci + m * p.bi) z
structure P3 where
  (a b c : Ph)
def W3 (P : P3) (n m : Nat) (x : S39) : Prop := W P.a n m x.f0 ∧ W P.b n m x.f1 ∧ W P.c n m x.f2
def Bx3 (P : P3) (x : S39) : Prop := P.a.box x.f0 ∧ P.b.box x.f1 ∧ P.c.box x.f2
structure Ok3 (BT : List (Nat × Nat)) (P : P3) : Prop where
  a : Ok BT P.a
  b : Ok BT P.b
  c : Ok BT P.c
def rootBus : S66 := ⟨-1, ⟨0, 0⟩, ⟨0, 0⟩, 0, ⟨⟨0, 0⟩, ⟨0, 0⟩, ⟨0, 0⟩⟩, 0⟩
def bankBus (p : Int) (L : Cx) : S66 := ⟨p, ⟨0, 0⟩, ⟨0, 0⟩, 2, ⟨L, L, L⟩, 0⟩
/-- A bus of a mild feeder, behind the root. -/
structure MB (i : Nat) (b : S66) : Prop where
  kind : b.f3 = 0 ∨ b.f3 = 1
  p0 : 0 ≤ b.f0
  p1 : b.f0 < i
  own : C 4096 3072 b.f1
  sh : b.f2 = ⟨0, 0⟩
  la : C 131072 32768 b.f4.f0
  lb : C 131072 32768 b.f4.f1
  lc : C 131072 32768 b.f4.f2
  u0 : 0 ≤ b.f5
  u1 : b.f5 ≤ 1000000
/-- A mild feeder of n buses with a bank behind them. -/
structure Gd (BT : List (Nat × Nat)) (n : Nat) (g : List S66) : Prop where
  len : g.length = n + 1
  n2 : 2 ≤ n
  n6 : n ≤ 6
  root : rd_T66 g 0 = rootBus
  mid : ∀ i : Nat, 1 ≤ i → i < n → MB i (rd_T66 g (i : Int))
  bank : ∃ (p : Int) (L : Cx) (lz lo : Nat), 0 ≤ p ∧ p < n ∧ rd_T66 g (n : Int) = bankBus p L ∧ Bank L lz lo ∧ (lz, lo) ∈ BT
/-- The weights of the loads' currents. -/
def wn (n : Nat) (j : Nat) : Nat := if j = 0 then 0 else if j < n then 1 else 0
def wm (n : Nat) (j : Nat) : Nat := if j = n then 1 else 0
section
variable {BT : List (Nat × Nat)} {P : P3} {n : Nat} {g : List S66}
theorem lc3 {b : S66} {V : S39} {z1 z2 z3 : Cx} (h1 : impl_LoadCurrentOf_1.f b.f4.f0 V.f0 b.f0 b.f1 b.f2 b.f3 b.f4.f0 b.f4.f1 b.f4.f2 b.f5 = some (z1, b.f0, b.f1, b.f2, b.f3, b.f4.f0, b.f4.f1, b.f4.f2, b.f5))
    (h2 : impl_LoadCurrentOf_1.f b.f4.f1 V.f1 b.f0 b.f1 b.f2 b.f3 b.f4.f0 b.f4.f1 b.f4.f2 b.f5 = some (z2, b.f0, b.f1, b.f2, b.f3, b.f4.f0, b.f4.f1, b.f4.f2, b.f5))
    (h3 : impl_LoadCurrentOf_1.f b.f4.f2 V.f2 b.f0 b.f1 b.f2 b.f3 b.f4.f0 b.f4.f1 b.f4.f2 b.f5 = some (z3, b.f0, b.f1, b.f2, b.f3, b.f4.f0, b.f4.f1, b.f4.f2, b.f5)) :
    impl_LoadCurrentOf.f b.f0 b.f1 b.f2 b.f3 b.f4.f0 b.f4.f1 b.f4.f2 b.f5 V.f0 V.f1 V.f2 = some (z1, z2, z3) := by
  unfold impl_LoadCurrentOf.f impl_each_c169.f
  rw [h1]
  simp only [Option.bind_some]
  rw [h2]
  simp only [Option.bind_some]
  rw [h3]
  rfl
theorem C_eq {r i r' i' : Nat} {z : Cx} (h : C r i z) (h1 : r = r') (h2 : i = i') : C r' i' z := by subst h1; subst h2; exact h
/-- The current at bus i. -/
theorem loadAt (ok : Ok3 BT P) (hg : Gd BT n g) {V : S39} (hV : Bx3 P V) {i : Nat} (hi : i < n + 1) :
    ∃ z1 z2 z3, impl_LoadCurrentOf.f (rd_T66 g (i : Int)).f0 (rd_T66 g (i : Int)).f1 (rd_T66 g (i : Int)).f2 (rd_T66 g (i : Int)).f3 (rd_T66 g (i : Int)).f4.f0 (rd_T66 g (i : Int)).f4.f1 (rd_T66 g (i : Int)).f4.f2 (rd_T66 g (i : Int)).f5 V.f0 V.f1 V.f2 = some (z1, z2, z3) ∧
      W3 P (wn n i) (wm n i) ⟨z1, z2, z3⟩ := by
  have hn2 := hg.n2
  rcases Nat.eq_zero_or_pos i with h0 | h0
  · subst h0
    have hr := hg.root
    have e : rd_T66 g ((0 : Nat) : Int) = rootBus := hr
    rw [e]
    have hc : ∀ v : Cx, impl_LoadCurrentOf_1.f (⟨0, 0⟩ : Cx) v (-1) ⟨0, 0⟩ ⟨0, 0⟩ 0 ⟨0, 0⟩ ⟨0, 0⟩ ⟨0, 0⟩ 0 = some (⟨0, 0⟩, -1, ⟨0, 0⟩, ⟨0, 0⟩, 0, ⟨0, 0⟩, ⟨0, 0⟩, ⟨0, 0⟩, 0) := by
      intro v
      unfold impl_LoadCurrentOf_1.f
      rw [if_pos (by decide +kernel)]
    refine ⟨_, _, _, lc3 (b := rootBus) (V := V) (hc _) (hc _) (hc _), ?_, ?_, ?_⟩ <;> exact C0.mono (Nat.zero_le _) (Nat.zero_le _)
  · by_cases h1 : i < n
    · have hb := hg.mid i h0 h1
      generalize rd_T66 g (i : Int) = b at hb
      obtain ⟨z1, e1, c1⟩ := load1 ok.a hb.la hV.1 (s0 := b.f0) (s1 := b.f1) (s2 := b.f2) (s4 := b.f4.f0) (s5 := b.f4.f1) (s6 := b.f4.f2) (s7 := b.f5) hb.kind
      obtain ⟨z2, e2, c2⟩ := load1 ok.b hb.lb hV.2.1 (s0 := b.f0) (s1 := b.f1) (s2 := b.f2) (s4 := b.f4.f0) (s5 := b.f4.f1) (s6 := b.f4.f2) (s7 := b.f5) hb.kind
      obtain ⟨z3, e3, c3⟩ := load1 ok.c hb.lc hV.2.2 (s0 := b.f0) (s1 := b.f1) (s2 := b.f2) (s4 := b.f4.f0) (s5 := b.f4.f1) (s6 := b.f4.f2) (s7 := b.f5) hb.kind
      have w1 : wn n i = 1 := by unfold wn; rw [if_neg (by omega), if_pos h1]
      have w2 : wm n i = 0 := by unfold wm; rw [if_neg (by omega)]
      rw [w1, w2]
      exact ⟨z1, z2, z3, lc3 e1 e2 e3, C_eq c1 (by omega) (by omega), C_eq c2 (by omega) (by omega), C_eq c3 (by omega) (by omega)⟩
    · have hin : i = n := by omega
      subst hin
      obtain ⟨p, L, lz, lo, hp0, hp1, hb, hL, hT⟩ := hg.bank
      rw [hb]
      obtain ⟨z1, e1, c1⟩ := loadB ok.a hL hT hV.1 (s0 := p) (s1 := ⟨0, 0⟩) (s2 := ⟨0, 0⟩) (s4 := L) (s5 := L) (s6 := L) (s7 := 0)
      obtain ⟨z2, e2, c2⟩ := loadB ok.b hL hT hV.2.1 (s0 := p) (s1 := ⟨0, 0⟩) (s2 := ⟨0, 0⟩) (s4 := L) (s5 := L) (s6 := L) (s7 := 0)
      obtain ⟨z3, e3, c3⟩ := loadB ok.c hL hT hV.2.2 (s0 := p) (s1 := ⟨0, 0⟩) (s2 := ⟨0, 0⟩) (s4 := L) (s5 := L) (s6 := L) (s7 := 0)
      have w1 : wn i i = 0 := by unfold wn; rw [if_neg (by omega), if_neg (by omega)]
      have w2 : wm i i = 1 := by unfold wm; rw [if_pos rfl]
      rw [w1, w2]
      exact ⟨z1, z2, z3, lc3 (b := bankBus p L) e1 e2 e3, C_eq c1 (by omega) (by omega), C_eq c2 (by omega) (by omega), C_eq c3 (by omega) (by omega)⟩
theorem loads_l0 (ok : Ok3 BT P) (hg : Gd BT n g) (s0 s1 s2 : Cx) {V : List S39} (hl : V.length = n + 1) (hV : ∀ j : Nat, j < n + 1 → Bx3 P (rd_T39 V (j : Int))) : ∀ (m i : Nat) (acc : List S39), i + m = n + 1 → acc.length = i → (∀ j : Nat, j < i → W3 P (wn n j) (wm n j) (rd_T39 acc (j : Int))) →
    ∃ outs, (∀ k, m + 1 ≤ k → impl_Feeder_loads.l0 k V acc g ((n + 1 : Nat) : Int) (i : Int) s0 s1 s2 g = some (outs, s0, s1, s2)) ∧ outs.length = n + 1 ∧ ∀ j : Nat, j < n + 1 → W3 P (wn n j) (wm n j) (rd_T39 outs (j : Int)) := by
  have hn6 := hg.n6
  intro m
  induction m with
  | zero =>
    intro i acc hi hlen hacc
    have e : i = n + 1 := by omega
    subst e
    refine ⟨acc, fun k hk => ?_, hlen, hacc⟩
    obtain ⟨k, rfl⟩ : ∃ j, k = j + 1 := ⟨k - 1, by omega⟩
    rw [impl_Feeder_loads.l0, if_neg (by omega)]
  | succ m ih =>
    intro i acc hi hlen hacc
    obtain ⟨z1, z2, z3, e, hz⟩ := loadAt ok hg (hV i (by omega)) (i := i) (by omega)
    obtain ⟨outs, h1, h2, h3⟩ := ih (i + 1) (acc ++ [⟨z1, z2, z3⟩]) (by omega) (by simp [hlen]) (fun j hj => by
      rcases Nat.lt_or_ge j i with c | c
      · rw [rd_app_lt (by omega)]
        exact hacc j c
      · have : j = i := by omega
        subst this
        rw [rd_app_eq hlen.symm]
        exact hz)
    refine ⟨outs, fun k hk => ?_, h2, h3⟩
    obtain ⟨k, rfl⟩ : ∃ j, k = j + 1 := ⟨k - 1, by omega⟩
    have hgl := hg.len
    rw [impl_Feeder_loads.l0, if_pos (by omega), if_pos (by omega), if_pos (by omega), if_pos (by omega), e]
    simp only [Option.bind_some]
    rw [if_pos (by omega), w64 (by omega) (by omega)]
    exact h1 k (by omega)
theorem loads_ (ok : Ok3 BT P) (hg : Gd BT n g) (s0 s1 s2 : Cx) {V : List S39} (hl : V.length = n + 1) (hV : ∀ j : Nat, j < n + 1 → Bx3 P (rd_T39 V (j : Int))) :
    ∃ outs, (∀ k, 10 ≤ k → impl_Feeder_loads.f k s0 s1 s2 g V = some (outs, s0, s1, s2)) ∧ outs.length = n + 1 ∧ ∀ j : Nat, j < n + 1 → W3 P (wn n j) (wm n j) (rd_T39 outs (j : Int)) := by
  have hn6 := hg.n6
  obtain ⟨outs, h1, h2, h3⟩ := loads_l0 ok hg s0 s1 s2 hl hV (n + 1) 0 [] (by omega) rfl (fun j hj => absurd hj (by omega))
  refine ⟨outs, fun k hk => ?_, h2, h3⟩
  unfold impl_Feeder_loads.f
  rw [hg.len]
  exact h1 k (by omega)
end
end Go.Proofs.Ytcgpomicgbmdlaa.Bk
/- The sums back and the drops forth, one sweep; conditions: as each lemma states them. -/
namespace Go.Proofs.Ytcgpomicgbmdlaa.Bk
open Go Go.RowKit Go.Proofs.YtcgpomicgbmdlaaW.PrintWords Go.Proofs.YtcgpomicgbmdlaaW.PrintLast Go.Proofs.Ytcgpomicgbmdlaa.PFnBanks Go.Proofs.Ytcgpomicgbmdlaa.Gr
set_option linter.unusedVariables false
/-- The sum of the first numbers. -/
def sw (f : Nat → Nat) : Nat → Nat
  | 0 => 0
  | n + 1 => sw f n + f n
def upd (f : Nat → Nat) (p v : Nat) (j : Nat) : Nat := if j = p then v else f j
theorem sw_ne {f : Nat → Nat} {p v : Nat} : ∀ n, n ≤ p → sw (upd f p v) n = sw f n
  | 0, _ => rfl
  | n + 1, h => by
    show sw (upd f p v) n + upd f p v n = sw f n + f n
    rw [sw_ne n (by omega), upd, if_neg (by omega)]
theorem sw_upd {f : Nat → Nat} {p w : Nat} : ∀ n, p < n → sw (upd f p (f p + w)) n = sw f n + w
  | 0, h => absurd h (by omega)
  | n + 1, h => by
    show sw (upd f p (f p + w)) n + upd f p (f p + w) n = sw f n + f n + w
    by_cases c : n = p
    · subst c
      rw [sw_ne n (Nat.le_refl _), upd, if_pos rfl]
      omega
    · rw [sw_upd n (by omega), upd, if_neg c]
      omega
theorem sw_ge {f : Nat → Nat} {p : Nat} : ∀ n, p < n → f p ≤ sw f n
  | 0, h => absurd h (by omega)
  | n + 1, h => by
    show f p ≤ sw f n + f n
    by_cases c : n = p
    · subst c; omega
    · have := sw_ge (f := f) n (p := p) (by omega)
      omega
section
variable {BT : List (Nat × Nat)} {P : P3} {n : Nat} {g : List S66} {p : Ph}
theorem W_mono {a b a' b' : Nat} {z : Cx} (h : W p a b z) (h1 : a ≤ a') (h2 : b ≤ b') : W p a' b' z :=
  C.mono h (Nat.add_le_add (Nat.mul_le_mul_right _ h1) (Nat.mul_le_mul_right _ h2)) (Nat.add_le_add (Nat.mul_le_mul_right _ h1) (Nat.mul_le_mul_right _ h2))
theorem W_plus (ok : Ok BT p) {a b a' b' : Nat} {x y : Cx} (hx : W p a b x) (hy : W p a' b' y) (h1 : a + a' ≤ 5) (h2 : b + b' ≤ 1) : ∃ z, impl_plus.f x y = some z ∧ W p (a + a') (b + b') z := by
  have j1 := ok.j1
  have j2 := ok.j2
  unfold Ph.jr at j1
  unfold Ph.ji at j2
  have e1 := Nat.mul_le_mul_right p.cr h1
  have e2 := Nat.mul_le_mul_right p.br h2
  have e3 := Nat.mul_le_mul_right p.ci h1
  have e4 := Nat.mul_le_mul_right p.bi h2
  rw [Nat.add_mul] at e1 e2 e3 e4
  obtain ⟨z, q1, q2⟩ := plusC hx hy (by omega) (by omega)
  exact ⟨z, q1, C_eq q2 (by rw [Nat.add_mul, Nat.add_mul]; omega) (by rw [Nat.add_mul, Nat.add_mul]; omega)⟩
theorem W3_plus (ok : Ok3 BT P) {a b a' b' : Nat} {x y : S39} (hx : W3 P a b x) (hy : W3 P a' b' y) (h1 : a + a' ≤ 5) (h2 : b + b' ≤ 1) :
    ∃ z : S39, impl_AddPhases.f x.f0 x.f1 x.f2 y.f0 y.f1 y.f2 = some (z.f0, z.f1, z.f2) ∧ W3 P (a + a') (b + b') z := by
  obtain ⟨z1, e1, c1⟩ := W_plus ok.a hx.1 hy.1 h1 h2
  obtain ⟨z2, e2, c2⟩ := W_plus ok.b hx.2.1 hy.2.1 h1 h2
  obtain ⟨z3, e3, c3⟩ := W_plus ok.c hx.2.2 hy.2.2 h1 h2
  refine ⟨⟨z1, z2, z3⟩, ?_, c1, c2, c3⟩
  unfold impl_AddPhases.f impl_each_f173.f
  rw [e1, e2, e3]
  rfl
theorem Gd.parent (hg : Gd BT n g) {i : Nat} (h1 : 1 ≤ i) (h2 : i < n + 1) : ∃ p : Nat, (rd_T66 g (i : Int)).f0 = (p : Int) ∧ p < i := by
  by_cases c : i < n
  · have hb := hg.mid i h1 c
    exact ⟨(rd_T66 g (i : Int)).f0.toNat, by have := hb.p0; omega, by have := hb.p0; have := hb.p1; omega⟩
  · have : i = n := by omega
    subst this
    obtain ⟨p, L, lz, lo, a, b, e, _⟩ := hg.bank
    rw [e]
    exact ⟨p.toNat, by show p = _; omega, by omega⟩
theorem back_l0 (ok : Ok3 BT P) (hg : Gd BT n g) (s0 s1 s2 : Cx) : ∀ (i : Nat) (N M : Nat → Nat) (x : List S39), i < n + 1 → x.length = n + 1 → (∀ j : Nat, j < n + 1 → W3 P (N j) (M j) (rd_T39 x (j : Int))) → sw N (i + 1) ≤ 5 → sw M (i + 1) ≤ 1 → (∀ j : Nat, j < n + 1 → N j ≤ 5 ∧ M j ≤ 1) →
    ∃ outs, (∀ k, i + 1 ≤ k → impl_Feeder_back_f82.l0 k x (i : Int) s0 s1 s2 g = some (outs, s0, s1, s2)) ∧ outs.length = n + 1 ∧ ∀ j : Nat, j < n + 1 → W3 P 5 1 (rd_T39 outs (j : Int)) := by
  intro i
  induction i with
  | zero =>
    intro N M x hi hx hW h1 h2 h3
    refine ⟨x, fun k hk => ?_, hx, fun j hj => ?_⟩
    · obtain ⟨k, rfl⟩ : ∃ j, k = j + 1 := ⟨k - 1, by omega⟩
      rw [impl_Feeder_back_f82.l0, if_neg (by omega)]
    · obtain ⟨q1, q2, q3⟩ := hW j hj
      obtain ⟨r1, r2⟩ := h3 j hj
      exact ⟨W_mono q1 r1 r2, W_mono q2 r1 r2, W_mono q3 r1 r2⟩
  | succ i ih =>
    intro N M x hi hx hW h1 h2 h3
    obtain ⟨p, hp, hpi⟩ := hg.parent (i := i + 1) (by omega) hi
    have hgl := hg.len
    have hn6 := hg.n6
    have g1 : N p ≤ sw N (i + 1) := sw_ge _ hpi
    have g2 : M p ≤ sw M (i + 1) := sw_ge _ hpi
    have t1 : sw N (i + 1 + 1) = sw N (i + 1) + N (i + 1) := rfl
    have t2 : sw M (i + 1 + 1) = sw M (i + 1) + M (i + 1) := rfl
    obtain ⟨z, e, hz⟩ := W3_plus ok (hW p (by omega)) (hW (i + 1) hi) (by omega) (by omega)
    have hset : ∀ j : Nat, rd_T39 (x.set (i + 1) (rd_T39 x ((i + 1 : Nat) : Int))) (j : Int) = rd_T39 x (j : Int) := by
      intro j
      by_cases c : j = i + 1
      · subst c; rw [rd_set_eq (by omega)]
      · rw [rd_set_ne c]
    obtain ⟨outs, o1, o2, o3⟩ := ih (upd N p (N p + N (i + 1))) (upd M p (M p + M (i + 1))) ((x.set (i + 1) (rd_T39 x ((i + 1 : Nat) : Int))).set p z) (by omega) (by simp [hx]) (fun j hj => by
        by_cases c : j = p
        · subst c
          rw [rd_set_eq (by simp [hx]; omega), upd, upd, if_pos rfl, if_pos rfl]
          exact hz
        · rw [rd_set_ne c, hset, upd, upd, if_neg c, if_neg c]
          exact hW j hj) (by rw [sw_upd _ hpi]; omega) (by rw [sw_upd _ hpi]; omega) (fun j hj => by
        by_cases c : j = p
        · subst c
          rw [upd, upd, if_pos rfl, if_pos rfl]
          omega
        · rw [upd, upd, if_neg c, if_neg c]
          exact h3 j hj)
    refine ⟨outs, fun k hk => ?_, o2, o3⟩
    obtain ⟨k, rfl⟩ : ∃ j, k = j + 1 := ⟨k - 1, by omega⟩
    rw [impl_Feeder_back_f82.l0, if_pos (by omega), if_pos (by omega), if_pos (by omega)]
    unfold impl_same.f
    simp only [Option.bind_some, Int.toNat_natCast]
    rw [if_pos (by omega), if_pos (by rw [hp]; omega), if_pos (by rw [hp]; omega), hp, hset, hset, e]
    simp only [Option.bind_some, Int.toNat_natCast]
    rw [w64 (by omega) (by omega), show ((i + 1 : Nat) : Int) - 1 = (i : Int) by omega]
    exact o1 k (by omega)
theorem sw_wn (h : n ≤ 6) : sw (wn n) (n + 1) ≤ 5 ∧ sw (wm n) (n + 1) ≤ 1 := by
  rcases n with _ | _ | _ | _ | _ | _ | _ | n
  all_goals first | decide | omega
theorem wn_le (j : Nat) : wn n j ≤ 5 ∧ wm n j ≤ 1 := by
  unfold wn wm
  repeat' split
  all_goals omega
theorem back_ (ok : Ok3 BT P) (hg : Gd BT n g) (s0 s1 s2 : Cx) {x : List S39} (hl : x.length = n + 1) (hx : ∀ j : Nat, j < n + 1 → W3 P (wn n j) (wm n j) (rd_T39 x (j : Int))) :
    ∃ outs, (∀ k, 10 ≤ k → impl_Feeder_back_f82.f k s0 s1 s2 g x = some (outs, s0, s1, s2)) ∧ outs.length = n + 1 ∧ ∀ j : Nat, j < n + 1 → W3 P 5 1 (rd_T39 outs (j : Int)) := by
  have hn6 := hg.n6
  obtain ⟨outs, o1, o2, o3⟩ := back_l0 ok hg s0 s1 s2 n (wn n) (wm n) x (by omega) hl hx (sw_wn hn6).1 (sw_wn hn6).2 (fun j _ => wn_le j)
  refine ⟨outs, fun k hk => ?_, o2, o3⟩
  unfold impl_Feeder_back_f82.f slices_Clone_impl_Phases.f
  simp only [Option.bind_some, List.length_nil, List.nil_append]
  rw [if_pos (by omega)]
  simp only [Option.bind_some]
  rw [hl, w64 (by omega) (by omega), show ((n + 1 : Nat) : Int) - 1 = (n : Int) by omega]
  exact o1 k (by omega)
/-- The drop of a phase. -/
theorem drop1 {o1 o2 jr ji q1 q2 q3 q4 r1 i1 r2 i2 : Nat} {own a0 a1 a2 : Cx} {s0 s3 s7 : Int} {s4 s5 s6 : Cx} (ho : C o1 o2 own) (ha : C jr ji a0) (k1 : o1 * jr ≤ q1 * 65536) (k2 : o2 * ji ≤ q2 * 65536) (k3 : o1 * ji ≤ q3 * 65536) (k4 : o2 * jr ≤ q4 * 65536)
    (h1 : C r1 i1 a1) (h2 : C r2 i2 a2) (b1 : o1 < 16777216) (b2 : o2 < 16777216) (b3 : jr < 4194304) (b4 : ji < 4194304) (b5 : r1 < 4194304) (b6 : i1 < 4194304) (b7 : r2 < 4194304) (b8 : i2 < 4194304) (b9 : q1 + q2 < 16777216) (b10 : q3 + q4 < 16777216) :
    ∃ z, impl_DropOf_1.f a0 a1 a2 s0 own ⟨0, 0⟩ s3 s4 s5 s6 s7 = some (z, s0, own, ⟨0, 0⟩, s3, s4, s5, s6, s7) ∧ C (q1 + q2) (q3 + q4) z := by
  obtain ⟨x, e1, c1⟩ := mulC ho ha k1 k2 k3 k4 b9 b10 b1 b2 (by omega) (by omega)
  obtain ⟨g1, g2⟩ := add_I h1.1 h2.1 (by rw [tp32]; omega) (by rw [tp32]; omega)
  obtain ⟨g3, g4⟩ := add_I h1.2 h2.2 (by rw [tp32]; omega) (by rw [tp32]; omega)
  obtain ⟨y, e2, c2⟩ := mulC (ar := 0) (ai := 0) (br := r1 + r2) (bi := i1 + i2) (q1 := 0) (q2 := 0) (q3 := 0) (q4 := 0) (y := ⟨fv .add .f32 a1.re a2.re, fv .add .f32 a1.im a2.im⟩) C0 ⟨g2.mono (by omega) (by omega), g4.mono (by omega) (by omega)⟩ (by simp) (by simp) (by simp) (by simp) (by omega) (by omega) (by omega) (by omega) (by omega) (by omega)
  obtain ⟨g5, g6⟩ := add_I c1.1 c2.1 (by rw [tp32]; omega) (by rw [tp32]; omega)
  obtain ⟨g7, g8⟩ := add_I c1.2 c2.2 (by rw [tp32]; omega) (by rw [tp32]; omega)
  refine ⟨⟨_, _⟩, ?_, g6.mono (by omega) (by omega), g8.mono (by omega) (by omega)⟩
  unfold impl_DropOf_1.f
  rw [e1]
  simp only [Option.bind_some]
  rw [if_pos g1, if_pos g3, e2]
  simp only [Option.bind_some]
  rw [if_pos g5, if_pos g7]
  rfl
/-- Where a source's voltage lies. -/
structure Q1 where
  (rl rh il ih : Int)
/-- Near the source's voltage. -/
def Nr (p : Ph) (q : Q1) (t : Nat) (z : Cx) : Prop := Box (q.rl - (t * p.dr : Nat)) (q.rh + (t * p.dr : Nat)) (q.il - (t * p.di : Nat)) (q.ih + (t * p.di : Nat)) z
def Sm (q : Q1) : Prop := -4194304 < q.rl ∧ q.rh < 4194304 ∧ -4194304 < q.il ∧ q.ih < 4194304
theorem Nr_mono {q : Q1} {t t' : Nat} {z : Cx} (h : Nr p q t z) (ht : t ≤ t') : Nr p q t' z := by
  have e1 := Nat.mul_le_mul_right p.dr ht
  have e2 := Nat.mul_le_mul_right p.di ht
  exact Box.mono h (by omega) (by omega) (by omega) (by omega)
theorem less1 (ok : Ok BT p) {q : Q1} {t w : Nat} {v d : Cx} (hs : Sm q) (hv : Nr p q t v) (hd : C (w * p.dr) (w * p.di) d) (h5 : t + w ≤ 5) : ∃ z, impl_minus.f v d = some z ∧ Nr p q (t + w) z := by
  obtain ⟨q1, q2, q3, q4⟩ := hs
  have d3 := ok.d3
  have d4 := ok.d4
  have e1 := Nat.mul_le_mul_right p.dr h5
  have e2 := Nat.mul_le_mul_right p.di h5
  rw [Nat.add_mul] at e1 e2
  obtain ⟨z, g1, g2⟩ := minusC hv hd (by omega) (by omega) (by omega) (by omega)
  refine ⟨z, g1, ?_⟩
  unfold Nr
  rw [Nat.add_mul, Nat.add_mul]
  exact g2.mono (by omega) (by omega) (by omega) (by omega)
/-- The sources of three phases. -/
structure Q3 where
  (a b c : Q1)
structure Sm3 (Q : Q3) : Prop where
  a : Sm Q.a
  b : Sm Q.b
  c : Sm Q.c
def N3 (P : P3) (Q : Q3) (t : Nat) (x : S39) : Prop := Nr P.a Q.a t x.f0 ∧ Nr P.b Q.b t x.f1 ∧ Nr P.c Q.c t x.f2
theorem N3_mono {Q : Q3} {t t' : Nat} {x : S39} (h : N3 P Q t x) (ht : t ≤ t') : N3 P Q t' x := ⟨Nr_mono h.1 ht, Nr_mono h.2.1 ht, Nr_mono h.2.2 ht⟩
theorem less3 (ok : Ok3 BT P) {Q : Q3} {t w : Nat} {v : S39} {d1 d2 d3 : Cx} (hs : Sm3 Q) (hv : N3 P Q t v) (h1 : C (w * P.a.dr) (w * P.a.di) d1) (h2 : C (w * P.b.dr) (w * P.b.di) d2) (h3 : C (w * P.c.dr) (w * P.c.di) d3) (h5 : t + w ≤ 5) :
    ∃ z : S39, impl_LessPhases.f v.f0 v.f1 v.f2 d1 d2 d3 = some (z.f0, z.f1, z.f2) ∧ N3 P Q (t + w) z := by
  obtain ⟨z1, e1, c1⟩ := less1 ok.a hs.a hv.1 h1 h5
  obtain ⟨z2, e2, c2⟩ := less1 ok.b hs.b hv.2.1 h2 h5
  obtain ⟨z3, e3, c3⟩ := less1 ok.c hs.c hv.2.2 h3 h5
  refine ⟨⟨z1, z2, z3⟩, ?_, c1, c2, c3⟩
  unfold impl_LessPhases.f impl_each_f153.f
  rw [e1, e2, e3]
  rfl
theorem W_J {z : Cx} (h : W p 5 1 z) : C p.jr p.ji z := C_eq h (by unfold Ph.jr; omega) (by unfold Ph.ji; omega)
theorem dropM (ok : Ok BT p) {own a0 a1 a2 : Cx} {r1 i1 r2 i2 : Nat} {s0 s3 s7 : Int} {s4 s5 s6 : Cx} (ho : C 4096 3072 own) (ha : C p.jr p.ji a0) (h1 : C r1 i1 a1) (h2 : C r2 i2 a2) (b5 : r1 < 4194304) (b6 : i1 < 4194304) (b7 : r2 < 4194304) (b8 : i2 < 4194304) :
    ∃ z, impl_DropOf_1.f a0 a1 a2 s0 own ⟨0, 0⟩ s3 s4 s5 s6 s7 = some (z, s0, own, ⟨0, 0⟩, s3, s4, s5, s6, s7) ∧ C (1 * p.dr) (1 * p.di) z := by
  have j1 := ok.j1
  have j2 := ok.j2
  have d1 := ok.d1
  have d2 := ok.d2
  have d3 := ok.d3
  have d4 := ok.d4
  obtain ⟨z, e, c⟩ := drop1 (q1 := p.jr / 16 + 1) (q2 := 3 * p.ji / 64 + 1) (q3 := p.ji / 16 + 1) (q4 := 3 * p.jr / 64 + 1) (s0 := s0) (s3 := s3) (s4 := s4) (s5 := s5) (s6 := s6) (s7 := s7) ho ha (by omega) (by omega) (by omega) (by omega) h1 h2 (by omega) (by omega) j1 j2 b5 b6 b7 b8 (by omega) (by omega)
  exact ⟨z, e, c.mono (by omega) (by omega)⟩
theorem dropB (ok : Ok BT p) {a0 a1 a2 : Cx} {r1 i1 r2 i2 : Nat} {s0 s3 s7 : Int} {s4 s5 s6 : Cx} (ha : C p.jr p.ji a0) (h1 : C r1 i1 a1) (h2 : C r2 i2 a2) (b5 : r1 < 4194304) (b6 : i1 < 4194304) (b7 : r2 < 4194304) (b8 : i2 < 4194304) :
    ∃ z, impl_DropOf_1.f a0 a1 a2 s0 ⟨0, 0⟩ ⟨0, 0⟩ s3 s4 s5 s6 s7 = some (z, s0, ⟨0, 0⟩, ⟨0, 0⟩, s3, s4, s5, s6, s7) ∧ C (0 * p.dr) (0 * p.di) z := by
  obtain ⟨z, e, c⟩ := drop1 (q1 := 0) (q2 := 0) (q3 := 0) (q4 := 0) (s0 := s0) (s3 := s3) (s4 := s4) (s5 := s5) (s6 := s6) (s7 := s7) C0 ha (by omega) (by omega) (by omega) (by omega) h1 h2 (by omega) (by omega) ok.j1 ok.j2 b5 b6 b7 b8 (by omega) (by omega)
  exact ⟨z, e, c.mono (by omega) (by omega)⟩
def dp (n j : Nat) : Nat := if j < n then j else 5
/-- The drop of the line to bus i, and its weight. -/
theorem dropAt (ok : Ok3 BT P) (hg : Gd BT n g) {J : S39} (hJ : W3 P 5 1 J) {i : Nat} (h1 : 1 ≤ i) (h2 : i < n + 1) :
    ∃ d1 d2 d3 w, impl_DropOf.f (rd_T66 g (i : Int)).f0 (rd_T66 g (i : Int)).f1 (rd_T66 g (i : Int)).f2 (rd_T66 g (i : Int)).f3 (rd_T66 g (i : Int)).f4.f0 (rd_T66 g (i : Int)).f4.f1 (rd_T66 g (i : Int)).f4.f2 (rd_T66 g (i : Int)).f5 J.f0 J.f1 J.f2 = some (d1, d2, d3) ∧
      C (w * P.a.dr) (w * P.a.di) d1 ∧ C (w * P.b.dr) (w * P.b.di) d2 ∧ C (w * P.c.dr) (w * P.c.di) d3 ∧ ∀ p, p < i → dp n p + w ≤ dp n i ∧ dp n i ≤ 5 := by
  have hn6 := hg.n6
  obtain ⟨J1, J2, J3⟩ := hJ
  have J1 := W_J J1
  have J2 := W_J J2
  have J3 := W_J J3
  have a1 := ok.a.j1
  have a2 := ok.a.j2
  have b1 := ok.b.j1
  have b2 := ok.b.j2
  have c1 := ok.c.j1
  have c2 := ok.c.j2
  by_cases c : i < n
  · have hb := hg.mid i h1 c
    generalize rd_T66 g (i : Int) = b at hb
    have hsh := hb.sh
    obtain ⟨z1, e1, k1⟩ := dropM (s0 := b.f0) (s3 := b.f3) (s4 := b.f4.f0) (s5 := b.f4.f1) (s6 := b.f4.f2) (s7 := b.f5) ok.a hb.own J1 J2 J3 b1 b2 c1 c2
    obtain ⟨z2, e2, k2⟩ := dropM (s0 := b.f0) (s3 := b.f3) (s4 := b.f4.f0) (s5 := b.f4.f1) (s6 := b.f4.f2) (s7 := b.f5) ok.b hb.own J2 J3 J1 c1 c2 a1 a2
    obtain ⟨z3, e3, k3⟩ := dropM (s0 := b.f0) (s3 := b.f3) (s4 := b.f4.f0) (s5 := b.f4.f1) (s6 := b.f4.f2) (s7 := b.f5) ok.c hb.own J3 J1 J2 a1 a2 b1 b2
    refine ⟨z1, z2, z3, 1, ?_, k1, k2, k3, fun p hp => ?_⟩
    · unfold impl_DropOf.f
      rw [hsh, e1]
      simp only [Option.bind_some]
      rw [e2]
      simp only [Option.bind_some]
      rw [e3]
      rfl
    · unfold dp
      rw [if_pos (by omega), if_pos c]
      omega
  · have hin : i = n := by omega
    subst hin
    obtain ⟨p, L, lz, lo, hp0, hp1, hb, _, _⟩ := hg.bank
    rw [hb]
    obtain ⟨z1, e1, k1⟩ := dropB (s0 := p) (s3 := 2) (s4 := L) (s5 := L) (s6 := L) (s7 := 0) ok.a J1 J2 J3 b1 b2 c1 c2
    obtain ⟨z2, e2, k2⟩ := dropB (s0 := p) (s3 := 2) (s4 := L) (s5 := L) (s6 := L) (s7 := 0) ok.b J2 J3 J1 c1 c2 a1 a2
    obtain ⟨z3, e3, k3⟩ := dropB (s0 := p) (s3 := 2) (s4 := L) (s5 := L) (s6 := L) (s7 := 0) ok.c J3 J1 J2 a1 a2 b1 b2
    refine ⟨z1, z2, z3, 0, ?_, k1, k2, k3, fun q hq => ?_⟩
    · unfold bankBus impl_DropOf.f
      rw [e1]
      simp only [Option.bind_some]
      rw [e2]
      simp only [Option.bind_some]
      rw [e3]
      rfl
    · unfold dp
      rw [if_pos hq, if_neg c]
      omega
theorem forth_l0 (ok : Ok3 BT P) (hg : Gd BT n g) {Q : Q3} (hs : Sm3 Q) (s0 s1 s2 : Cx) {J : List S39} (hl : J.length = n + 1) (hJ : ∀ j : Nat, j < n + 1 → W3 P 5 1 (rd_T39 J (j : Int))) : ∀ (m i : Nat) (acc : List S39), i + m = n + 1 → 1 ≤ i → acc.length = i → (∀ j : Nat, j < i → N3 P Q (dp n j) (rd_T39 acc (j : Int))) →
    ∃ outs, (∀ k, m + 1 ≤ k → impl_Feeder_forth_f82.l0 k J acc (i : Int) s0 s1 s2 g = some (outs, s0, s1, s2)) ∧ outs.length = n + 1 ∧ ∀ j : Nat, j < n + 1 → N3 P Q 5 (rd_T39 outs (j : Int)) := by
  have hn6 := hg.n6
  have hgl := hg.len
  intro m
  induction m with
  | zero =>
    intro i acc hi h1 hlen hacc
    have e : i = n + 1 := by omega
    subst e
    refine ⟨acc, fun k hk => ?_, hlen, fun j hj => N3_mono (hacc j hj) (by unfold dp; split <;> omega)⟩
    obtain ⟨k, rfl⟩ : ∃ j, k = j + 1 := ⟨k - 1, by omega⟩
    rw [impl_Feeder_forth_f82.l0, if_neg (by omega)]
  | succ m ih =>
    intro i acc hi h1 hlen hacc
    obtain ⟨p, hp, hpi⟩ := hg.parent (i := i) h1 (by omega)
    obtain ⟨d1, d2, d3, w, e, k1, k2, k3, k4⟩ := dropAt ok hg (hJ i (by omega)) h1 (by omega)
    obtain ⟨z, f, hz⟩ := less3 ok hs (hacc p hpi) k1 k2 k3 (by have := k4 p hpi; omega)
    obtain ⟨outs, o1, o2, o3⟩ := ih (i + 1) (acc ++ [z]) (by omega) (by omega) (by simp [hlen]) (fun j hj => by
      rcases Nat.lt_or_ge j i with c | c
      · rw [rd_app_lt (by omega)]
        exact hacc j c
      · have : j = i := by omega
        subst this
        rw [rd_app_eq hlen.symm]
        exact N3_mono hz (k4 p hpi).1)
    refine ⟨outs, fun k hk => ?_, o2, o3⟩
    obtain ⟨k, rfl⟩ : ∃ j, k = j + 1 := ⟨k - 1, by omega⟩
    rw [impl_Feeder_forth_f82.l0, if_pos (by omega), if_pos (by omega), if_pos (by rw [hp]; omega), if_pos (by rw [hp]; omega), if_pos (by omega), e]
    simp only [Option.bind_some]
    rw [hp, f]
    unfold impl_same.f
    simp only [Option.bind_some]
    rw [if_pos (by omega), w64 (by omega) (by omega)]
    exact o1 k (by omega)
theorem forth_ (ok : Ok3 BT P) (hg : Gd BT n g) {Q : Q3} (hs : Sm3 Q) {s0 s1 s2 : Cx} (hS : N3 P Q 0 ⟨s0, s1, s2⟩) {J : List S39} (hl : J.length = n + 1) (hJ : ∀ j : Nat, j < n + 1 → W3 P 5 1 (rd_T39 J (j : Int))) :
    ∃ outs, (∀ k, 10 ≤ k → impl_Feeder_forth_f82.f k s0 s1 s2 g J = some (outs, s0, s1, s2)) ∧ outs.length = n + 1 ∧ ∀ j : Nat, j < n + 1 → N3 P Q 5 (rd_T39 outs (j : Int)) := by
  have hn6 := hg.n6
  obtain ⟨outs, o1, o2, o3⟩ := forth_l0 ok hg hs s0 s1 s2 hl hJ n 1 [⟨s0, s1, s2⟩] (by omega) (by omega) rfl (fun j hj => by
    have : j = 0 := by omega
    subst this
    exact N3_mono hS (Nat.zero_le _))
  exact ⟨outs, fun k hk => o1 k (by omega), o2, o3⟩
/-- One sweep. -/
theorem sweep_ (ok : Ok3 BT P) (hg : Gd BT n g) {Q : Q3} (hs : Sm3 Q) {s0 s1 s2 : Cx} (hS : N3 P Q 0 ⟨s0, s1, s2⟩) {V : List S39} (hl : V.length = n + 1) (hV : ∀ j : Nat, j < n + 1 → Bx3 P (rd_T39 V (j : Int))) :
    ∃ outs J, (∀ k, 10 ≤ k → impl_Feeder_sweep_f82.f k s0 s1 s2 g V = some (outs, J, 1, false, s0, s1, s2)) ∧ outs.length = n + 1 ∧ J.length = n + 1 ∧ ∀ j : Nat, j < n + 1 → N3 P Q 5 (rd_T39 outs (j : Int)) := by
  obtain ⟨a, a1, a2, a3⟩ := loads_ ok hg s0 s1 s2 hl hV
  obtain ⟨b, b1, b2, b3⟩ := back_ ok hg s0 s1 s2 a2 a3
  obtain ⟨c, c1, c2, c3⟩ := forth_ ok hg hs hS b2 b3
  refine ⟨c, b, fun k hk => ?_, c2, b2, c3⟩
  unfold impl_Feeder_sweep_f82.f
  rw [a1 k hk]
  simp only [Option.bind_some]
  rw [b1 k hk]
  simp only [Option.bind_some]
  rw [c1 k hk]
  rfl
end
end Go.Proofs.Ytcgpomicgbmdlaa.Bk
