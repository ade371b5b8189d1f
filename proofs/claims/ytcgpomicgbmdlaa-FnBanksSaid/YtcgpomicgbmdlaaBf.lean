/- Three sweeps of a mild feeder with a bank: the numbers, checked by calculation; conditions: as each lemma states them. -/
import Derived.Test.YtcgpomicgbmdlaaBa
namespace Go.Proofs.Ytcgpomicgbmdlaa.Bk
open Go Ieee Go.RowKit Go.Proofs.YtcgpomicgbmdlaaW.PrintWords Go.Proofs.YtcgpomicgbmdlaaW.PrintLast Go.Proofs.Ytcgpomicgbmdlaa.PFnBanks Go.Proofs.Ytcgpomicgbmdlaa.Gr
set_option linter.unusedVariables false
/-- The loads of the 27 banks: greatest and least part, in units of 2^-16. -/
def bt (a t : Nat) : Nat × Nat := (a / (t + 1) + 1, a / (t + 1))
def BT : List (Nat × Nat) := (List.range 9).map (bt 4194304) ++ (List.range 9).map (bt 2097152) ++ (List.range 9).map (bt 1048576)
def mx (a b : Int) : Nat := max a.natAbs b.natAbs
def cd (a b : Nat) : Nat := (a + b - 1) / b
/-- A phase's numbers, from where its voltages lie. -/
def mk (rl rh il ih : Int) : Ph :=
  let mr := mx rl rh
  let mi := mx il ih
  let al1 := (if 0 < rl then rl else -rh).toNat
  let al2 := (if 0 < il then il else -ih).toNat
  let pw := al1 * al1 / 65536 + al2 * al2 / 65536
  let cr := max 131072 (cd ((2 * mr + (mi / 2 + 1)) * 65536) pw)
  let ci := max 32768 (cd ((2 * mi + (mr / 2 + 1)) * 65536) pw)
  let br := BT.foldl (fun a z => max a (cd ((mi * z.1 / 65536 + 1) * 65536) (z.2 * z.2 / 65536))) 0
  let bi := BT.foldl (fun a z => max a (cd ((mr * z.1 / 65536 + 1) * 65536) (z.2 * z.2 / 65536))) 0
  let jr := 5 * cr + br
  let ji := 5 * ci + bi
  ⟨rl, rh, il, ih, mr, mi, al1, al2, cr, ci, br, bi, jr / 16 + 1 + (3 * ji / 64 + 1), ji / 16 + 1 + (3 * jr / 64 + 1)⟩
def okB (p : Ph) : Bool :=
  decide (-(p.mr : Int) ≤ p.rl ∧ p.rh ≤ p.mr ∧ -(p.mi : Int) ≤ p.il ∧ p.ih ≤ p.mi ∧ p.mr < 4194304 ∧ p.mi < 4194304 ∧ (p.al1 = 0 ∨ (p.al1 : Int) ≤ p.rl ∨ p.rh ≤ -(p.al1 : Int)) ∧ (p.al2 = 0 ∨ (p.al2 : Int) ≤ p.il ∨ p.ih ≤ -(p.al2 : Int)) ∧
    0 < p.al1 * p.al1 / 65536 + p.al2 * p.al2 / 65536 ∧ (2 * p.mr + (p.mi / 2 + 1)) * 65536 ≤ p.cr * (p.al1 * p.al1 / 65536 + p.al2 * p.al2 / 65536) ∧ (2 * p.mi + (p.mr / 2 + 1)) * 65536 ≤ p.ci * (p.al1 * p.al1 / 65536 + p.al2 * p.al2 / 65536) ∧
    131072 ≤ p.cr ∧ 32768 ≤ p.ci ∧ (∀ z ∈ BT, (p.mi * z.1 / 65536 + 1) * 65536 ≤ p.br * (z.2 * z.2 / 65536)) ∧ (∀ z ∈ BT, (p.mr * z.1 / 65536 + 1) * 65536 ≤ p.bi * (z.2 * z.2 / 65536)) ∧
    p.jr < 4194304 ∧ p.ji < 4194304 ∧ (p.jr / 16 + 1) + (3 * p.ji / 64 + 1) ≤ p.dr ∧ (p.ji / 16 + 1) + (3 * p.jr / 64 + 1) ≤ p.di ∧ p.dr < 2097152 ∧ p.di < 2097152)
theorem okB_ {p : Ph} (h : okB p = true) : Ok BT p := by
  obtain ⟨a1, a2, a3, a4, a5, a6, a7, a8, a9, b1, b2, b3, b4, b5, b6, b7, b8, b9, c1, c2, c3⟩ := of_decide_eq_true h
  exact ⟨a1, a2, a3, a4, a5, a6, a7, a8, a9, b1, b2, b3, b4, b5, b6, b7, b8, b9, c1, c2, c3⟩
/-- A word between two multiples of 2^-16, calculated. -/
def ckI (lo hi : Int) (x : Nat) : Bool :=
  match FloatKind.f32.format.read x with
  | .number s m i => decide (FloatKind.f32.format.leastPlace ≤ i) && (decide (lo * 2 ^ (-(i + 16)).toNat ≤ sg s m * 2 ^ (i + 16).toNat) && decide (sg s m * 2 ^ (i + 16).toNat ≤ hi * 2 ^ (-(i + 16)).toNat))
  | _ => false
theorem ckI_ {lo hi : Int} {x : Nat} (h : ckI lo hi x = true) : I .f32 lo hi x := by
  unfold ckI at h
  split at h
  · rename_i s m i e
    simp only [Bool.and_eq_true, decide_eq_true_eq] at h
    exact ⟨s, m, i, e, h.1, h.2.1, h.2.2⟩
  · cases h
def flI (x : Nat) : Int :=
  match FloatKind.f32.format.read x with
  | .number s m i => sg s m * 2 ^ (i + 16).toNat / 2 ^ (-(i + 16)).toNat
  | _ => 0
def q1of (z : Cx) : Q1 := ⟨flI z.re, flI z.re + 1, flI z.im, flI z.im + 1⟩
def st (q : Q1) (d e : Nat) : Ph := mk (q.rl - (5 * d : Nat)) (q.rh + (5 * d : Nat)) (q.il - (5 * e : Nat)) (q.ih + (5 * e : Nat))
def ck3 (q : Q1) (p1 p2 p3 : Ph) : Bool := okB p1 && (okB p2 && (okB p3 && decide (-4194304 < q.rl ∧ q.rh < 4194304 ∧ -4194304 < q.il ∧ q.ih < 4194304 ∧ p3.dr ≤ 1000000 ∧ p3.di ≤ 1000000)))
def ckS (q : Q1) : Bool := ck3 q (st q 0 0) (st q (st q 0 0).dr (st q 0 0).di) (st q (st q (st q 0 0).dr (st q 0 0).di).dr (st q (st q 0 0).dr (st q 0 0).di).di)
def ckZ (z : Cx) : Bool := ckI (q1of z).rl (q1of z).rh z.re && (ckI (q1of z).il (q1of z).ih z.im && ckS (q1of z))
/-- The source of number v. -/
def fQ (v : Nat) : Nat := floatOfInt .f32 (16 + (v : Int))
def evS (v : Nat) : Bool :=
  match spec_l02Even.f 60 ⟨fQ v, 0⟩ with
  | none => false
  | some s => ckZ s.1 && (ckZ s.2.1 && ckZ s.2.2)
theorem all_lt {n : Nat} {P : Nat → Bool} (hP : (List.range n).all P = true) {a : Nat} (ha : a < n) : P a = true := List.all_eq_true.mp hP a (List.mem_range.mpr ha)
theorem lift_ {α : Type} {F : Nat → Option α} {r : α} {K : Nat} (hm : ∀ k, LeO (F k) (F (k + 1))) (h : F K = some r) : ∀ k, K ≤ k → F k = some r := by
  intro k hk
  induction k with
  | zero => obtain rfl : K = 0 := by omega
            exact h
  | succ k ih =>
    by_cases c : K = k + 1
    · subst c; exact h
    · exact hm k _ (ih (by omega))
theorem evTab : (List.range 16).all evS = true := by decide +kernel
theorem okZ {q : Q1} {p1 p2 p3 : Ph} (h : ck3 q p1 p2 p3 = true) : Ok BT p1 ∧ Ok BT p2 ∧ Ok BT p3 ∧ Sm q ∧ p3.dr ≤ 1000000 ∧ p3.di ≤ 1000000 := by
  unfold ck3 at h
  simp only [Bool.and_eq_true] at h
  obtain ⟨h1, h2, h3, h4⟩ := h
  obtain ⟨a, b, c, d, e, f⟩ := of_decide_eq_true h4
  exact ⟨okB_ h1, okB_ h2, okB_ h3, ⟨a, b, c, d⟩, e, f⟩
/-- A phase of a source whose three sweeps are told. -/
structure Gp (z : Cx) (q : Q1) (p1 p2 p3 : Ph) : Prop where
  src : ∀ p, Nr p q 0 z
  b1 : p1.box z
  b2 : ∀ y, Nr p1 q 5 y → p2.box y
  b3 : ∀ y, Nr p2 q 5 y → p3.box y
  b4 : ∀ y, Nr p3 q 5 y → C 10000000 10000000 y
  o1 : Ok BT p1
  o2 : Ok BT p2
  o3 : Ok BT p3
  sm : Sm q
theorem gp_ {z : Cx} (h : ckZ z = true) : ∃ q p1 p2 p3, Gp z q p1 p2 p3 := by
  unfold ckZ at h
  simp only [Bool.and_eq_true] at h
  obtain ⟨h1, h2, h3⟩ := h
  have i1 := ckI_ h1
  have i2 := ckI_ h2
  generalize q1of z = q at *
  unfold ckS at h3
  obtain ⟨o1, o2, o3, sm, d1, d2⟩ := okZ h3
  refine ⟨q, st q 0 0, st q (st q 0 0).dr (st q 0 0).di, st q (st q (st q 0 0).dr (st q 0 0).di).dr (st q (st q 0 0).dr (st q 0 0).di).di, fun p => ?_, ?_, fun y hy => hy, fun y hy => hy, fun y hy => ?_, o1, o2, o3, sm⟩
  · exact ⟨i1.mono (by omega) (by omega), i2.mono (by omega) (by omega)⟩
  · exact ⟨i1.mono (by show q.rl - _ ≤ _; omega) (by show _ ≤ q.rh + _; omega), i2.mono (by show q.il - _ ≤ _; omega) (by show _ ≤ q.ih + _; omega)⟩
  · obtain ⟨s1, s2, s3, s4⟩ := sm
    exact ⟨hy.1.mono (by omega) (by omega), hy.2.mono (by omega) (by omega)⟩
/-- Three phases of a source. -/
def Gp3 (a b c : Cx) : Prop := (∃ q p1 p2 p3, Gp a q p1 p2 p3) ∧ (∃ q p1 p2 p3, Gp b q p1 p2 p3) ∧ (∃ q p1 p2 p3, Gp c q p1 p2 p3)
theorem src_ {v : Nat} (hv : v < 16) : ∃ a b c : Cx, (∀ k, 60 ≤ k → spec_l02Even.f k ⟨fQ v, 0⟩ = some (a, b, c)) ∧ Gp3 a b c := by
  have h1 := all_lt evTab hv
  unfold evS at h1
  split at h1
  · cases h1
  · rename_i s hs
    obtain ⟨a, b, c⟩ := s
    simp only [Bool.and_eq_true] at h1
    exact ⟨a, b, c, lift_ (fun k => spec_l02Even.mono _ k) hs, gp_ h1.1, gp_ h1.2.1, gp_ h1.2.2⟩
/-- What comes out: all parts small. -/
def Fin3 (x : S39) : Prop := C 10000000 10000000 x.f0 ∧ C 10000000 10000000 x.f1 ∧ C 10000000 10000000 x.f2
section
variable {n : Nat} {g : List S66} {a b c : Cx}
theorem flat_ (hg : Gd BT n g) : impl_Feeder_flat.f a b c g = some (List.replicate (n + 1) ⟨a, b, c⟩, a, b, c) := by
  have hn6 := hg.n6
  unfold impl_Feeder_flat.f slices_Repeat_impl_Phases.f
  simp only
  rw [hg.len, if_pos (by omega)]
  rfl
theorem sweeps_ (hg : Gd BT n g) (h : Gp3 a b c) : ∃ V J, (∀ k, 20 ≤ k → impl_Feeder_sweeps_f82.f k a b c g (List.replicate (n + 1) ⟨a, b, c⟩) 3 = some (V, J, 3, false, a, b, c)) ∧ V.length = n + 1 ∧ J.length = n + 1 ∧ ∀ j : Nat, j < n + 1 → Fin3 (rd_T39 V (j : Int)) := by
  have hn6 := hg.n6
  have hgl := hg.len
  obtain ⟨⟨qa, a1, a2, a3, ga⟩, ⟨qb, b1, b2, b3, gb⟩, ⟨qc, c1, c2, c3, gc⟩⟩ := h
  have hs : Sm3 ⟨qa, qb, qc⟩ := ⟨ga.sm, gb.sm, gc.sm⟩
  have hS : ∀ P, N3 P ⟨qa, qb, qc⟩ 0 ⟨a, b, c⟩ := fun P => ⟨ga.src _, gb.src _, gc.src _⟩
  obtain ⟨V1, J1, e1, l1, m1, r1⟩ := sweep_ (P := ⟨a1, b1, c1⟩) ⟨ga.o1, gb.o1, gc.o1⟩ hg hs (hS _) (V := List.replicate (n + 1) ⟨a, b, c⟩) (by simp) (fun j hj => by
    unfold rd_T39
    rw [Int.toNat_natCast, List.getD_eq_getElem?_getD, List.getElem?_replicate, if_pos hj]
    exact ⟨ga.b1, gb.b1, gc.b1⟩)
  obtain ⟨V2, J2, e2, l2, m2, r2⟩ := sweep_ (P := ⟨a2, b2, c2⟩) ⟨ga.o2, gb.o2, gc.o2⟩ hg hs (hS _) l1 (fun j hj => ⟨ga.b2 _ (r1 j hj).1, gb.b2 _ (r1 j hj).2.1, gc.b2 _ (r1 j hj).2.2⟩)
  obtain ⟨V3, J3, e3, l3, m3, r3⟩ := sweep_ (P := ⟨a3, b3, c3⟩) ⟨ga.o3, gb.o3, gc.o3⟩ hg hs (hS _) l2 (fun j hj => ⟨ga.b3 _ (r2 j hj).1, gb.b3 _ (r2 j hj).2.1, gc.b3 _ (r2 j hj).2.2⟩)
  refine ⟨V3, J3, fun k hk => ?_, l3, m3, fun j hj => ⟨ga.b4 _ (r3 j hj).1, gb.b4 _ (r3 j hj).2.1, gc.b4 _ (r3 j hj).2.2⟩⟩
  obtain ⟨k, rfl⟩ : ∃ j, k = j + 4 := ⟨k - 4, by omega⟩
  unfold impl_Feeder_sweeps_f82.f slices_Clone_impl_Phases.f
  simp only [Option.bind_some, List.length_nil, List.nil_append]
  rw [if_pos (by simp; omega)]
  simp only [Option.bind_some]
  rw [if_pos (by omega), if_pos (by omega), impl_Feeder_sweeps_f82.l0, if_pos (by decide), e1 _ (by omega)]
  simp only [Option.bind_some]
  rw [impl_Feeder_sweeps_f82.l0, if_pos (by unfold wrap64; omega), e2 _ (by omega)]
  simp only [Option.bind_some]
  rw [impl_Feeder_sweeps_f82.l0, if_pos (by unfold wrap64; omega), e3 _ (by omega)]
  simp only [Option.bind_some]
  rw [impl_Feeder_sweeps_f82.l0, if_neg (by unfold wrap64; omega)]
end
end Go.Proofs.Ytcgpomicgbmdlaa.Bk
/- The order of finite floats; the least magnitude of a list of voltages; conditions: as each lemma states them. -/
namespace Go.Proofs.Ytcgpomicgbmdlaa.Bk
open Go Ieee Go.RowKit Go.Proofs.YtcgpomicgbmdlaaW.PrintWords Go.Proofs.YtcgpomicgbmdlaaW.PrintLast Go.Proofs.Ytcgpomicgbmdlaa.PFnBanks Go.Proofs.Ytcgpomicgbmdlaa.Gr
set_option linter.unusedVariables false
/-- A finite word. -/
def Fn (x : Nat) : Prop := ∃ s m i, FloatKind.f32.format.read x = .number s m i ∧ FloatKind.f32.format.leastPlace ≤ i
theorem fn_I {lo hi : Int} {x : Nat} (h : I .f32 lo hi x) : Fn x := by
  obtain ⟨s, m, i, a, b, _⟩ := h
  exact ⟨s, m, i, a, b⟩
/-- A finite word's value, in units of the least place. -/
def vl (x : Nat) : Int :=
  match FloatKind.f32.format.read x with
  | .number s m i => sg s m * 2 ^ (i - FloatKind.f32.format.leastPlace).toNat
  | _ => 0
theorem order_ {x y : Nat} (hx : Fn x) (hy : Fn y) : FloatKind.f32.format.order x y = some (compare (vl x) (vl y)) := by
  obtain ⟨s, m, i, a, b⟩ := hx
  obtain ⟨t, n, j, c, d⟩ := hy
  unfold Format.order vl
  rw [a, c]
  show some (compare (signed s m (i - min i j).toNat) (signed t n (j - min i j).toNat)) = _
  generalize FloatKind.f32.format.leastPlace = L at *
  rw [signed_sg, signed_sg]
  have e1 : (i - L).toNat = (i - min i j).toNat + (min i j - L).toNat := by omega
  have e2 : (j - L).toNat = (j - min i j).toNat + (min i j - L).toNat := by omega
  simp only [e1, e2, Int.pow_add, ← Int.mul_assoc]
  generalize sg s m * 2 ^ (i - min i j).toNat = u
  generalize sg t n * 2 ^ (j - min i j).toNat = w
  have hp := p2pos (min i j - L).toNat
  generalize (2 : Int) ^ (min i j - L).toNat = q at *
  congr 1
  unfold compare instOrdInt compareOfLessAndEq
  simp only [Int.mul_lt_mul_right hp]
  have : (u * q = w * q) ↔ (u = w) := ⟨fun h => Int.eq_of_mul_eq_mul_right (by omega) h, fun h => by rw [h]⟩
  simp only [this]
theorem cmp (a b : Int) : (compare a b = .lt ↔ a < b) ∧ (compare a b = .eq ↔ a = b) ∧ (compare a b = .gt ↔ b < a) := by
  unfold compare instOrdInt compareOfLessAndEq
  dsimp only
  split
  · simp; omega
  · split
    · simp; omega
    · simp; omega
theorem fgt_ {x y : Nat} (hx : Fn x) (hy : Fn y) : fgt .f32 x y = true ↔ vl y < vl x := by
  unfold fgt
  rw [order_ hx hy, ← (cmp (vl x) (vl y)).2.2, beq_iff_eq, Option.some.injEq]
theorem feq_ {x y : Nat} (hx : Fn x) (hy : Fn y) : feq .f32 x y = true ↔ vl x = vl y := by
  unfold feq
  rw [order_ hx hy, ← (cmp (vl x) (vl y)).2.1, beq_iff_eq, Option.some.injEq]
theorem fne_ {x : Nat} (hx : Fn x) : fne .f32 x x = false := by
  unfold fne
  rw [order_ hx hx, (cmp (vl x) (vl x)).2.1.mpr rfl]
  rfl
/-- A magnitude. -/
theorem long_ {z : Cx} (h : C 10000000 10000000 z) : ∃ m, impl_LongOf.f z = some m ∧ Fn m := by
  obtain ⟨p, e, hp⟩ := power_ (r := 10000000) (i := 10000000) (al1 := 0) (al2 := 0) (p1 := 0) (p2 := 0) (c1 := 1525878907) (c2 := 1525878907) h.1 h.2 (by omega) (by omega) (by omega) (by omega) (.inl rfl) (.inl rfl) (by decide) (by decide) (by decide) (by decide) (by decide) (by decide) (by decide)
  obtain ⟨s1, s2⟩ := sqrt_I (a := 1525878907 + 1525878907) (c := 14142136) (hp.mono (by omega) (by omega)) (by rw [tp64]; decide) (by decide) (by rw [tp64]; decide)
  obtain ⟨n1, n2⟩ := cv_I (d := .f32) (by decide) s2 (by rw [tp32]; decide) (by rw [tp32]; decide)
  refine ⟨_, ?_, fn_I n2⟩
  unfold impl_LongOf.f math_Sqrt.f
  rw [e]
  simp only [Option.bind_some]
  rw [if_pos s1]
  simp only [Option.bind_some]
  rw [if_pos n1]
theorem longs_ {x : S39} (h : Fin3 x) : ∃ a b c, impl_Phases_longs.f x.f0 x.f1 x.f2 = some [a, b, c] ∧ Fn a ∧ Fn b ∧ Fn c := by
  obtain ⟨a, e1, h1⟩ := long_ h.1
  obtain ⟨b, e2, h2⟩ := long_ h.2.1
  obtain ⟨c, e3, h3⟩ := long_ h.2.2
  refine ⟨a, b, c, ?_, h1, h2, h3⟩
  unfold impl_Phases_longs.f
  rw [e1, e2, e3]
  rfl
theorem low_step {x5 : Int} {x6 : Nat} {x7 : Int} (x11 : List S39) (x12 x13 : Int) {l : List Nat} {j j' : Int} (hl : l.length = 3) (h0 : 0 ≤ j) (hj : j < 3) (hj' : j + 1 = j') (hs : x5 < 0 ∨ Fn x6) (h7 : 0 ≤ x7) (hf : Fn (rdOf (0 : Nat) l j)) :
    ∃ y5 y6, 0 ≤ y5 ∧ Fn y6 ∧ ∀ k k', k' = k + 1 → impl_lowest.l1 k' x5 x6 x7 x11 x12 x13 l 3 j = impl_lowest.l1 k y5 y6 x7 x11 x12 x13 l 3 j' := by
  have hn : impl_isNaN.f (rdOf (0 : Nat) l j) = some false := by
    unfold impl_isNaN.f
    rw [fne_ hf]
  have e : wrap64 (j + 1) = j' := by rw [w64 (by omega) (by omega)]; exact hj'
  by_cases c : x5 < 0
  · refine ⟨x7, _, h7, hf, fun k k' hk => ?_⟩
    subst hk
    rw [impl_lowest.l1, if_pos (by omega), if_pos (by omega), if_pos (by omega), hn]
    simp only [Option.bind_some]
    rw [if_neg (by decide), if_pos c, e]
  · have h6 : Fn x6 := by rcases hs with h | h; exact absurd h c; exact h
    by_cases c2 : flt .f32 (rdOf (0 : Nat) l j) x6 = true
    · refine ⟨x7, _, h7, hf, fun k k' hk => ?_⟩
      subst hk
      rw [impl_lowest.l1, if_pos (by omega), if_pos (by omega), if_pos (by omega), hn]
      simp only [Option.bind_some]
      rw [if_neg (by decide), if_neg c, if_pos c2, e]
    · refine ⟨x5, x6, by omega, h6, fun k k' hk => ?_⟩
      subst hk
      rw [impl_lowest.l1, if_pos (by omega), if_pos (by omega), if_pos (by omega), hn]
      simp only [Option.bind_some]
      rw [if_neg (by decide), if_neg c, if_neg c2, e]
theorem low_bus {V : List S39} {N i : Int} (h0 : 0 ≤ i) (h1 : i < N) (h2 : i < (V.length : Int)) {a b c : Nat} (e : impl_Phases_longs.f (rd_T39 V i).f0 (rd_T39 V i).f1 (rd_T39 V i).f2 = some [a, b, c]) (k : Nat) (x5 : Int) (x6 : Nat) :
    impl_lowest.l0 (k + 1) x5 x6 V N i = impl_lowest.l1 k x5 x6 i V N i [a, b, c] 3 0 := by
  rw [impl_lowest.l0, if_pos h1, if_pos h0, if_pos h2, e]
  rfl
theorem low_end {V : List S39} {N i : Int} {l : List Nat} (k : Nat) (x5 x7 : Int) (x6 : Nat) : impl_lowest.l1 (k + 1) x5 x6 x7 V N i l 3 3 = impl_lowest.l0 k x5 x6 V N (wrap64 (i + 1)) := by
  rw [impl_lowest.l1, if_neg (by decide)]
theorem low_all {V : List S39} {N i : Int} (h0 : 0 ≤ i) (h1 : i < N) (h2 : i < (V.length : Int)) (hV : Fin3 (rd_T39 V i)) {x5 : Int} {x6 : Nat} (hs : x5 < 0 ∨ Fn x6) :
    ∃ y5 y6, 0 ≤ y5 ∧ Fn y6 ∧ ∀ k, impl_lowest.l0 (k + 5) x5 x6 V N i = impl_lowest.l0 k y5 y6 V N (wrap64 (i + 1)) := by
  obtain ⟨a, b, c, e, ha, hb, hc⟩ := longs_ hV
  obtain ⟨y5, y6, p5, p6, q1⟩ := low_step (x7 := i) V N i (l := [a, b, c]) (j := 0) (j' := 1) rfl (by decide) (by decide) rfl hs h0 ha
  obtain ⟨z5, z6, r5, r6, q2⟩ := low_step (x7 := i) V N i (l := [a, b, c]) (j := 1) (j' := 2) rfl (by decide) (by decide) rfl (.inr p6) h0 hb
  obtain ⟨w5, w6, s5, s6, q3⟩ := low_step (x7 := i) V N i (l := [a, b, c]) (j := 2) (j' := 3) rfl (by decide) (by decide) rfl (.inr r6) h0 hc
  refine ⟨w5, w6, s5, s6, fun k => ?_⟩
  exact (low_bus h0 h1 h2 e (k + 4) x5 x6).trans ((q1 (k + 3) _ rfl).trans ((q2 (k + 2) _ rfl).trans ((q3 (k + 1) _ rfl).trans (low_end k w5 i w6))))
theorem low_l0 {N : Nat} (hN : N ≤ 16) {V : List S39} (hl : V.length = N) (hV : ∀ j : Nat, j < N → Fin3 (rd_T39 V (j : Int))) : ∀ (m i : Nat) (x5 : Int) (x6 : Nat), i + m = N → (0 < m ∧ x5 < 0) ∨ (0 ≤ x5 ∧ Fn x6) →
    ∃ b v, Fn v ∧ ∀ k, 5 * m + 1 ≤ k → impl_lowest.l0 k x5 x6 V (N : Int) (i : Int) = some (b, v, true) := by
  intro m
  induction m with
  | zero =>
    intro i x5 x6 hi hs
    have h5 : 0 ≤ x5 ∧ Fn x6 := by rcases hs with h | h; omega; exact h
    refine ⟨x5, x6, h5.2, fun k hk => ?_⟩
    obtain ⟨k, rfl⟩ : ∃ j, k = j + 1 := ⟨k - 1, by omega⟩
    rw [impl_lowest.l0, if_neg (by omega), if_neg (by omega)]
  | succ m ih =>
    intro i x5 x6 hi hs
    have hs' : x5 < 0 ∨ Fn x6 := by rcases hs with h | h; exact .inl h.2; exact .inr h.2
    obtain ⟨w5, w6, s5, s6, q⟩ := low_all (N := (N : Int)) (i := (i : Int)) (by omega) (by omega) (by omega) (hV i (by omega)) hs'
    obtain ⟨B, v, hv, q4⟩ := ih (i + 1) w5 w6 (by omega) (.inr ⟨s5, s6⟩)
    refine ⟨B, v, hv, fun k hk => ?_⟩
    obtain ⟨k, rfl⟩ : ∃ j, k = j + 5 := ⟨k - 5, by omega⟩
    rw [q, w64 (by omega) (by omega), ← q4 k (by omega)]
    rfl
theorem lowest_ {n : Nat} (hn : n ≤ 6) {V : List S39} (hl : V.length = n + 1) (hV : ∀ j : Nat, j < n + 1 → Fin3 (rd_T39 V (j : Int))) : ∃ b v, Fn v ∧ ∀ k, 60 ≤ k → impl_lowest.f k V = some (b, v, true) := by
  obtain ⟨b, v, h1, h2⟩ := low_l0 (by omega) hl hV (n + 1) 0 (-1) 0 (by omega) (.inl ⟨by omega, by omega⟩)
  refine ⟨b, v, h1, fun k hk => ?_⟩
  unfold impl_lowest.f
  rw [hl]
  exact h2 k (by omega)
end Go.Proofs.Ytcgpomicgbmdlaa.Bk
/- The mild feeder that is drawn, right feeders, a bank added; conditions: as each lemma states them. -/
namespace Go.Proofs.Ytcgpomicgbmdlaa.Bk
open Go Ieee Go.RowKit Go.Proofs.YtcgpomicgbmdlaaW.PrintWords Go.Proofs.YtcgpomicgbmdlaaW.PrintLast Go.Proofs.Ytcgpomicgbmdlaa.PFnBanks Go.Proofs.Ytcgpomicgbmdlaa.Gr
set_option linter.unusedVariables false
set_option linter.unusedSimpArgs false
theorem rd_u8 {l : List Int} (hw : ∀ x ∈ l, (Lit.int .u8 x).wf = true) (i : Int) : 0 ≤ rd l i ∧ rd l i ≤ 255 := by
  unfold rd
  rw [List.getD_eq_getElem?_getD]
  by_cases c : i.toNat < l.length
  · rw [List.getElem?_eq_getElem c]
    have := hw _ (List.getElem_mem c)
    simp [Lit.wf, IntKind.min, IntKind.max, IntKind.bits, IntKind.signed] at this
    simpa using by omega
  · rw [List.getElem?_eq_none (by omega)]
    simp
theorem and255 (x : Int) : 0 ≤ Go.bits .and .u64 x 255 ∧ Go.bits .and .u64 x 255 ≤ 255 := by
  unfold Go.bits
  simp only
  have h1 : (BitVec.ofInt IntKind.u64.bits x &&& BitVec.ofInt IntKind.u64.bits 255).toNat ≤ 255 := by
    rw [BitVec.toNat_and]
    exact Nat.and_le_right
  generalize (BitVec.ofInt IntKind.u64.bits x &&& BitVec.ofInt IntKind.u64.bits 255).toNat = n at h1 ⊢
  have : IntKind.u64.wrap (n : Int) = n := by
    unfold IntKind.wrap
    simp [IntKind.bits, IntKind.signed]
    omega
  rw [this]
  omega
theorem next_ {l : List Int} (hw : ∀ x ∈ l, (Lit.int .u8 x).wf = true) {a s : Int} (h0 : 0 ≤ a) (h1 : a < 1000000) :
    ∃ v s', spec_l00Src_next.f l a s = some (v, a + 1, s') ∧ 0 ≤ v ∧ v ≤ 255 := by
  have hr := rd_u8 hw a
  have hb := fun x => and255 x
  have w1 : wrap64 (a + 1) = a + 1 := w64 (by omega) (by omega)
  have w2 : wrap64 (rd l a) = rd l a := w64 (by omega) (by omega)
  have w3 : ∀ x, wrap64 (Go.bits .and .u64 x 255) = Go.bits .and .u64 x 255 := fun x => w64 (by have := hb x; omega) (by have := hb x; omega)
  unfold spec_l00Src_next.f
  simp only [w1, w2, w3, if_pos h0]
  split
  · split
    · exact ⟨_, _, rfl, hr.1, hr.2⟩
    · exact ⟨_, _, rfl, (hb _).1, (hb _).2⟩
  · split
    · exact ⟨_, _, rfl, by omega, by omega⟩
    · exact ⟨_, _, rfl, (hb _).1, (hb _).2⟩
/-- What a source is: the place in the input, the seed (free). -/
theorem pick_ {l : List Int} (hw : ∀ x ∈ l, (Lit.int .u8 x).wf = true) {a s n : Int} (h0 : 0 ≤ a) (h1 : a < 1000000) (hn : n ≤ 200) :
    ∃ v a' s', spec_l00Src_pick.f l a s n = some (v, a', s') ∧ 0 ≤ v ∧ (v < n ∨ v = 0) ∧ 0 ≤ a' ∧ a' ≤ a + 1 := by
  unfold spec_l00Src_pick.f
  by_cases c : n ≤ 1
  · rw [if_pos c]
    exact ⟨_, _, _, rfl, by omega, .inr rfl, h0, by omega⟩
  · obtain ⟨v, s', h2, h3, h4⟩ := next_ hw (s := s) h0 h1
    rw [if_neg c, h2]
    simp only [Option.bind_some]
    rw [if_neg (by omega), if_neg (by omega)]
    refine ⟨_, _, _, rfl, Int.tmod_nonneg _ h3, .inl (Int.tmod_lt_of_pos _ (by omega)), by omega, by omega⟩


theorem q64T : (List.range 5).all (fun n => fok .quo .f32 (floatOfInt .f32 (n : Nat)) 1115684864 && ckI (-((1024 * n : Nat) : Int)) (1024 * n : Nat) (fv .quo .f32 (floatOfInt .f32 (n : Nat)) 1115684864)) = true := by decide +kernel
theorem q4T : (List.range 9).all (fun n => fok .quo .f32 (floatOfInt .f32 (n : Nat)) 1082130432 && ckI (-((16384 * n : Nat) : Int)) (16384 * n : Nat) (fv .quo .f32 (floatOfInt .f32 (n : Nat)) 1082130432)) = true := by decide +kernel
theorem q64 {v : Int} {m : Nat} (h0 : 0 ≤ v) (h1 : v ≤ m) (hm : m ≤ 4) : fok .quo .f32 (floatOfInt .f32 v) 1115684864 = true ∧ I .f32 (-((1024 * m : Nat) : Int)) (1024 * m : Nat) (fv .quo .f32 (floatOfInt .f32 v) 1115684864) := by
  obtain ⟨n, rfl⟩ := Int.eq_ofNat_of_zero_le h0
  have := all_lt q64T (a := n) (by omega)
  simp only [Bool.and_eq_true] at this
  exact ⟨this.1, (ckI_ this.2).mono (by omega) (by omega)⟩
theorem q4 {v : Int} {m : Nat} (h0 : 0 ≤ v) (h1 : v ≤ m) (hm : m ≤ 8) : fok .quo .f32 (floatOfInt .f32 v) 1082130432 = true ∧ I .f32 (-((16384 * m : Nat) : Int)) (16384 * m : Nat) (fv .quo .f32 (floatOfInt .f32 v) 1082130432) := by
  obtain ⟨n, rfl⟩ := Int.eq_ofNat_of_zero_le h0
  have := all_lt q4T (a := n) (by omega)
  simp only [Bool.and_eq_true] at this
  exact ⟨this.1, (ckI_ this.2).mono (by omega) (by omega)⟩
theorem rd66_lt {a : List S66} {x : S66} {j : Nat} (h : j < a.length) : rd_T66 (a ++ [x]) (j : Int) = rd_T66 a (j : Int) := by
  unfold rd_T66
  simp only [Int.toNat_natCast, List.getD_eq_getElem?_getD, List.getElem?_append_left h]
theorem rd66_eq {a : List S66} {x : S66} {j : Nat} (h : j = a.length) : rd_T66 (a ++ [x]) (j : Int) = x := by
  subst h
  unfold rd_T66
  simp
/-- A mild feeder. -/
structure Md (f : List S66) : Prop where
  pos : 1 ≤ f.length
  root : rd_T66 f ((0 : Nat) : Int) = rootBus
  mid : ∀ i : Nat, 1 ≤ i → i < f.length → MB i (rd_T66 f (i : Int))
theorem Md.snoc {f : List S66} {b : S66} (h : Md f) (hb : MB f.length b) : Md (f ++ [b]) := by
  have hp := h.pos
  refine ⟨by simp, ?_, fun i h1 h2 => ?_⟩
  · rw [rd66_lt (by omega)]
    exact h.root
  · by_cases c : i < f.length
    · rw [rd66_lt c]
      exact h.mid i h1 c
    · have : i = f.length := by simp at h2; omega
      subst this
      rw [rd66_eq rfl]
      exact hb
theorem mild_l0 {l : List Int} (hw : ∀ x ∈ l, (Lit.int .u8 x).wf = true) (s0 s1 s2 : Cx) : ∀ (m k : Nat) (a s : Int) (acc : List S66), 0 ≤ a → a + 20 * m ≤ 1000 → m + 1 ≤ k → acc.length + m ≤ 6 → Md acc →
    ∃ f, spec_B10Mild.l0 k (m : Int) l a s s0 s1 s2 acc = some (s0, s1, s2, f) ∧ Md f ∧ f.length = acc.length + m := by
  intro m
  induction m with
  | zero =>
    intro k a s acc h0 h1 hk hl hg
    obtain ⟨k, rfl⟩ : ∃ j, k = j + 1 := ⟨k - 1, by omega⟩
    rw [spec_B10Mild.l0, if_neg (by omega)]
    exact ⟨acc, rfl, hg, rfl⟩
  | succ m ih =>
    intro k a s acc h0 h1 hk hl hg
    obtain ⟨k, rfl⟩ : ∃ j, k = j + 1 := ⟨k - 1, by omega⟩
    have hp := hg.pos
    obtain ⟨v1, a1, z1, p1, x1, y1, b1, c1⟩ := pick_ hw (s := s) (n := (acc.length : Int)) h0 (by omega) (by omega)
    obtain ⟨v2, a2, z2, p2, x2, y2, b2, c2⟩ := pick_ hw (s := z1) (n := 4) b1 (by omega) (by omega)
    obtain ⟨v3, a3, z3, p3, x3, y3, b3, c3⟩ := pick_ hw (s := z2) (n := 4) b2 (by omega) (by omega)
    obtain ⟨v4, a4, z4, p4, x4, y4, b4, c4⟩ := pick_ hw (s := z3) (n := 2) b3 (by omega) (by omega)
    obtain ⟨v5, a5, z5, p5, x5, y5, b5, c5⟩ := pick_ hw (s := z4) (n := 9) b4 (by omega) (by omega)
    obtain ⟨v6, a6, z6, p6, x6, y6, b6, c6⟩ := pick_ hw (s := z5) (n := 3) b5 (by omega) (by omega)
    obtain ⟨v7, a7, z7, p7, x7, y7, b7, c7⟩ := pick_ hw (s := z6) (n := 9) b6 (by omega) (by omega)
    obtain ⟨v8, a8, z8, p8, x8, y8, b8, c8⟩ := pick_ hw (s := z7) (n := 9) b7 (by omega) (by omega)
    obtain ⟨v9, a9, z9, p9, x9, y9, b9, c9⟩ := pick_ hw (s := z8) (n := 30) b8 (by omega) (by omega)
    have w := w64 (n := 1 + v2) (by omega) (by omega)
    obtain ⟨f2, g2⟩ := q64 (v := 1 + v2) (m := 4) (by omega) (by omega) (by omega)
    obtain ⟨f3, g3⟩ := q64 (v := v3) (m := 3) (by omega) (by omega) (by omega)
    obtain ⟨f5, g5⟩ := q4 (v := v5) (m := 8) (by omega) (by omega) (by omega)
    obtain ⟨f6, g6⟩ := q4 (v := v6) (m := 2) (by omega) (by omega) (by omega)
    obtain ⟨f7, g7⟩ := q4 (v := v7) (m := 8) (by omega) (by omega) (by omega)
    obtain ⟨f8, g8⟩ := q4 (v := v8) (m := 8) (by omega) (by omega) (by omega)
    have hz : ∀ n : Nat, I .f32 (-(n : Int)) n 0 := fun n => C0.1.mono (by omega) (by omega)
    have e : wrap64 (((m + 1 : Nat) : Int) - 1) = (m : Int) := by rw [w64 (by omega) (by omega)]; omega
    rw [spec_B10Mild.l0, if_pos (by omega)]
    simp only [p1, p2, p3, p4, p5, p6, p7, p8, p9, w, f2, f3, f5, f6, f7, f8, if_true, Option.bind_some, e]
    rw [if_pos (by omega)]
    obtain ⟨f, h3, h4, h5⟩ := ih k a9 z9 (acc ++ [_]) b9 (by omega) (by omega) (by simp; omega) (hg.snoc (b := ⟨v1, ⟨fv .quo .f32 (floatOfInt .f32 (1 + v2)) 1115684864, fv .quo .f32 (floatOfInt .f32 v3) 1115684864⟩, ⟨0, 0⟩, v4, ⟨⟨fv .quo .f32 (floatOfInt .f32 v5) 1082130432, fv .quo .f32 (floatOfInt .f32 v6) 1082130432⟩, ⟨fv .quo .f32 (floatOfInt .f32 v7) 1082130432, 0⟩, ⟨fv .quo .f32 (floatOfInt .f32 v8) 1082130432, 0⟩⟩, v9⟩)
      ⟨by show v4 = 0 ∨ v4 = 1; omega, x1, by show v1 < _; omega, ⟨g2, g3⟩, rfl, ⟨g5, g6⟩, ⟨g7, hz _⟩, ⟨g8, hz _⟩, x9, by show v9 ≤ _; omega⟩)
    exact ⟨f, h3, h4, by rw [h5]; simp; omega⟩
theorem mild_ {l : List Int} (hw : ∀ x ∈ l, (Lit.int .u8 x).wf = true) : ∃ (a b c : Cx) (f : List S66), (∀ k, 60 ≤ k → spec_B10Mild.f k l = some (a, b, c, f)) ∧ Gp3 a b c ∧ Md f ∧ 2 ≤ f.length ∧ f.length ≤ 6 := by
  obtain ⟨v, a1, s1, p1, q1, r1, b1, c1⟩ := pick_ hw (a := 0) (s := 0) (n := 16) (by omega) (by omega) (by omega)
  obtain ⟨n, a2, s2, p2, q2, r2, b2, c2⟩ := pick_ hw (s := s1) (n := 5) b1 (by omega) (by omega)
  obtain ⟨v, rfl⟩ := Int.eq_ofNat_of_zero_le q1
  obtain ⟨n, rfl⟩ := Int.eq_ofNat_of_zero_le q2
  obtain ⟨a, b, c, h1, h2⟩ := src_ (v := v) (by omega)
  obtain ⟨f, h3, h4, h5⟩ := mild_l0 hw a b c (n + 1) 60 a2 s2 [rootBus] b2 (by omega) (by omega) (by simp; omega) ⟨by simp, rfl, fun i h1 h2 => absurd h2 (by simp; omega)⟩
  have h6 : ∀ k, 60 ≤ k → spec_B10Mild.l0 k ((n + 1 : Nat) : Int) l a2 s2 a b c [rootBus] = some (a, b, c, f) := lift_ (fun k => spec_B10Mild.mono_l k _ _ _ _ _ _ _ _) h3
  simp at h5
  refine ⟨a, b, c, f, fun k hk => ?_, h2, h4, by omega, by omega⟩
  unfold spec_B10Mild.f spec_l00From.f
  have e1 : floatOfInt .f32 (wrap64 (16 + (v : Int))) = fQ v := by rw [w64 (by omega) (by omega)]; rfl
  have e2 : wrap64 (1 + (n : Int)) = ((n + 1 : Nat) : Int) := by rw [w64 (by omega) (by omega)]; omega
  simp only [Option.bind_some, p1, e1, h1 k hk, p2, e2]
  exact h6 k hk

/-! ### a right feeder -/
theorem in_t {a b c : Int} (h0 : b ≤ a) (h1 : a ≤ c) : impl_in.f a b c = some true := by
  unfold impl_in.f
  rw [if_pos h0, decide_eq_true h1]
structure VB (i : Nat) (b : S66) : Prop where
  kind : 0 ≤ b.f3 ∧ b.f3 ≤ 2
  cust : 0 ≤ b.f5 ∧ b.f5 ≤ 1000000
  par : (i = 0 ∧ b.f0 = -1 ∧ b.f1 = ⟨0, 0⟩ ∧ b.f2 = ⟨0, 0⟩) ∨ (0 < i ∧ 0 ≤ b.f0 ∧ b.f0 < i)
theorem valid_l0 {f : List S66} (hf : ∀ i : Nat, i < f.length → VB i (rd_T66 f (i : Int))) (hl : 1 ≤ f.length) (hl2 : f.length ≤ 16) (s0 s1 s2 : Cx) : ∀ (m i k : Nat), i + m = f.length → 3 * m + 1 ≤ k → impl_ValidFeeder.l0 k f (f.length : Int) i s0 s1 s2 f = some true := by
  intro m
  induction m with
  | zero =>
    intro i k hi hk
    obtain ⟨k, rfl⟩ : ∃ j, k = j + 1 := ⟨k - 1, by omega⟩
    rw [impl_ValidFeeder.l0, if_neg (by omega), in_t (by omega) (by omega)]
    rfl
  | succ m ih =>
    intro i k hi hk
    obtain ⟨k, rfl⟩ : ∃ j, k = j + 3 := ⟨k - 3, by omega⟩
    have hb := hf i (by omega)
    have n1 := ih (i + 1) k (by omega) (by omega)
    have e : wrap64 ((i : Int) + 1) = ((i + 1 : Nat) : Int) := by rw [w64 (by omega) (by omega)]; omega
    rw [impl_ValidFeeder.l0, if_pos (by omega), if_pos (by omega), if_pos (by omega)]
    unfold impl_kindOk.f
    rw [in_t hb.kind.1 hb.kind.2, in_t hb.cust.1 hb.cust.2]
    simp only [Option.bind_some, if_true, Bool.not_true]
    rw [impl_ValidFeeder.j1, if_neg (by decide)]
    rcases hb.par with ⟨rfl, hp, h3, h4⟩ | ⟨h0, h1, h2⟩
    · have c1 : cne .f32 0 0 0 0 = false := by decide +kernel
      rw [if_pos (by rfl), if_pos hp, h3, h4]
      simp only [c1, Bool.false_eq_true, if_false]
      rw [impl_ValidFeeder.j2, if_neg (by decide), if_neg (by decide), e]
      exact n1
    · rw [if_neg (by omega), impl_ValidFeeder.j2, if_neg (by decide), if_pos (by omega), w64 (n := (i : Int) - 1) (by omega) (by omega), in_t h1 (by omega), e]
      simp only [Option.bind_some, if_true]
      exact n1
theorem valid_ {f : List S66} (hf : ∀ i : Nat, i < f.length → VB i (rd_T66 f (i : Int))) (hl : 1 ≤ f.length) (hl2 : f.length ≤ 16) (s0 s1 s2 : Cx) {k : Nat} (hk : 60 ≤ k) : impl_ValidFeeder.f k s0 s1 s2 f = some true :=
  valid_l0 hf hl hl2 s0 s1 s2 f.length 0 k (by omega) (by omega)
theorem MB.vb {i : Nat} {b : S66} (h : MB i b) (hi : 1 ≤ i) : VB i b := ⟨by have := h.kind; omega, ⟨h.u0, h.u1⟩, .inr ⟨hi, h.p0, h.p1⟩⟩
theorem root_vb : VB 0 rootBus := ⟨by decide, by decide, .inl ⟨rfl, rfl, rfl, rfl⟩⟩
theorem Md.vb {f : List S66} (h : Md f) : ∀ i : Nat, i < f.length → VB i (rd_T66 f (i : Int)) := by
  intro i hi
  rcases Nat.eq_zero_or_pos i with rfl | c
  · rw [h.root]; exact root_vb
  · exact (h.mid i c hi).vb c
theorem Gd.vb {n : Nat} {g : List S66} (h : Gd BT n g) : ∀ i : Nat, i < g.length → VB i (rd_T66 g (i : Int)) := by
  intro i hi
  have hl := h.len
  have h2 := h.n2
  rcases Nat.eq_zero_or_pos i with rfl | c
  · have e := h.root
    have e2 : rd_T66 g ((0 : Nat) : Int) = rootBus := e
    rw [e2]; exact root_vb
  · by_cases d : i < n
    · exact (h.mid i c d).vb c
    · have : i = n := by omega
      subst this
      obtain ⟨p, L, lz, lo, a, b, e, _⟩ := h.bank
      rw [e]
      exact ⟨⟨by show (0 : Int) ≤ 2; decide, by show (2 : Int) ≤ 2; decide⟩, ⟨by show (0 : Int) ≤ 0; decide, by show (0 : Int) ≤ 1000000; decide⟩, .inr ⟨c, a, b⟩⟩
theorem Gd.valid {n : Nat} {g : List S66} (h : Gd BT n g) (s0 s1 s2 : Cx) {k : Nat} (hk : 60 ≤ k) : impl_ValidFeeder.f k s0 s1 s2 g = some true :=
  valid_ h.vb (by have := h.len; omega) (by have := h.len; have := h.n6; omega) s0 s1 s2 hk
theorem has_ {f : List S66} (h : Md f) (hl2 : f.length ≤ 6) (s0 s1 s2 : Cx) {b : Int} (h0 : 0 ≤ b) (h1 : b < f.length) {k : Nat} (hk : 60 ≤ k) : impl_Feeder_has.f k s0 s1 s2 f b = some (true, s0, s1, s2) := by
  unfold impl_Feeder_has.f
  rw [valid_ h.vb h.pos (by omega) s0 s1 s2 hk]
  simp only [Option.bind_some, if_true]
  rw [w64 (by omega) (by omega), in_t h0 (by omega)]
  rfl
/-- A bank's size that can be added. -/
structure Bz (z : Nat) (L : Cx) : Prop where
  fin : impl_IsFinite.f z = some true
  nz : feq .f32 z 0 = false
  quo : impl_QuotientOf.f ⟨1065353216, 0⟩ ⟨0, z⟩ = some L
  bank : ∃ lz lo, Bank L lz lo ∧ (lz, lo) ∈ BT
def bz (d t : Nat) : Nat := fv .quo .f32 (floatOfInt .f32 (1 + (t : Int))) d
def bzT (d a t : Nat) : Bool :=
  fok .quo .f32 (floatOfInt .f32 (1 + (t : Int))) d && ((impl_IsFinite.f (bz d t) == some true) && (!(feq .f32 (bz d t) 0) &&
    (match impl_QuotientOf.f ⟨1065353216, 0⟩ ⟨0, bz d t⟩ with
     | none => false
     | some L => ckI 0 0 L.re && (ckI (-((bt a t).1 : Int)) (-((bt a t).2 : Int)) L.im && decide ((bt a t).1 < 16777216 ∧ 0 < (bt a t).2 * (bt a t).2 / 65536 ∧ ((bt a t).1, (bt a t).2) ∈ BT)))))
theorem bz_ {d a t : Nat} (h : bzT d a t = true) : fok .quo .f32 (floatOfInt .f32 (1 + (t : Int))) d = true ∧ ∃ L, Bz (bz d t) L := by
  unfold bzT at h
  simp only [Bool.and_eq_true, beq_iff_eq, Bool.not_eq_true'] at h
  obtain ⟨h1, h2, h3, h4⟩ := h
  split at h4
  · cases h4
  · rename_i L e
    simp only [Bool.and_eq_true] at h4
    obtain ⟨h5, h6, h7⟩ := h4
    obtain ⟨g1, g2, g3⟩ := of_decide_eq_true h7
    exact ⟨h1, L, h2, h3, e, _, _, ⟨ckI_ h5, ckI_ h6, g1, g2⟩, g3⟩
theorem bzA : (List.range 9).all (bzT 1115684864 4194304) = true := by decide +kernel
theorem bzB : (List.range 9).all (bzT 1107296256 2097152) = true := by decide +kernel
theorem bzC : (List.range 9).all (bzT 1098907648 1048576) = true := by decide +kernel
/-- A bank added. -/
theorem add_ {f : List S66} (h : Md f) (h2 : 2 ≤ f.length) (h6 : f.length ≤ 6) (a b c : Cx) {p : Int} (h0 : 0 ≤ p) (h1 : p < f.length) {z : Nat} {L : Cx} (hz : Bz z L) :
    Gd BT f.length (f ++ [bankBus p L]) ∧ ∀ k, 60 ≤ k → impl_AddBank.f k a b c f p z = some (a, b, c, f ++ [bankBus p L], true) := by
  obtain ⟨lz, lo, hb, hT⟩ := hz.bank
  have hg : Gd BT f.length (f ++ [bankBus p L]) := by
    refine ⟨by simp, h2, h6, ?_, fun i g1 g2 => ?_, p, L, lz, lo, h0, h1, ?_, hb, hT⟩
    · have : rd_T66 (f ++ [bankBus p L]) ((0 : Nat) : Int) = rootBus := by rw [rd66_lt (by omega)]; exact h.root
      exact this
    · rw [rd66_lt g2]
      exact h.mid i g1 g2
    · rw [rd66_eq rfl]
  refine ⟨hg, fun k hk => ?_⟩
  unfold impl_AddBank.f impl_cloneFeeder.f slices_Clone_impl_Bus.f impl_told.f
  rw [has_ h h6 a b c h0 h1 hk]
  simp only [Option.bind_some, if_true, hz.fin, hz.nz, Bool.false_eq_true, if_false, List.length_nil, List.nil_append]
  rw [if_pos (by omega)]
  simp only [Option.bind_some, hz.quo]
  rw [if_pos (by omega)]
  have hv := hg.valid a b c hk
  unfold bankBus at hv
  rw [hv]
  rfl
end Go.Proofs.Ytcgpomicgbmdlaa.Bk
/- The best bank is the best: the law FnBanks; conditions: as each lemma states them. -/
namespace Go.Proofs.Ytcgpomicgbmdlaa.Bk
open Go Ieee Go.RowKit Go.Proofs.YtcgpomicgbmdlaaW.PrintWords Go.Proofs.YtcgpomicgbmdlaaW.PrintLast Go.Proofs.Ytcgpomicgbmdlaa.PFnBanks Go.Proofs.Ytcgpomicgbmdlaa.Gr
set_option linter.unusedVariables false
set_option linter.unusedSimpArgs false
/-- A bank's size, the feeder with it, what its sweeps answer. -/
structure Run (f : List S66) (a b c : Cx) (p : Int) (z : Nat) (g : List S66) (V J : List S39) (bl : Int) (v : Nat) : Prop where
  gd : Gd BT f.length g
  add : ∀ k, 60 ≤ k → impl_AddBank.f k a b c f p z = some (a, b, c, g, true)
  sw : ∀ k, 20 ≤ k → impl_Feeder_sweeps_f82.f k a b c g (List.replicate (f.length + 1) ⟨a, b, c⟩) 3 = some (V, J, 3, false, a, b, c)
  lV : V.length = f.length + 1
  lJ : J.length = f.length + 1
  fn : Fn v
  low : ∀ k, 60 ≤ k → impl_lowest.f k V = some (bl, v, true)
  par : (rd_T66 g (f.length : Int)).f0 = p
theorem run_ {f : List S66} (h : Md f) (h2 : 2 ≤ f.length) (h6 : f.length ≤ 6) {a b c : Cx} (hs : Gp3 a b c) {p : Int} (h0 : 0 ≤ p) (h1 : p < f.length) {z : Nat} {L : Cx} (hz : Bz z L) : ∃ g V J bl v, Run f a b c p z g V J bl v := by
  obtain ⟨g1, g2⟩ := add_ h h2 h6 a b c h0 h1 hz
  obtain ⟨V, J, s1, s2, s3, s4⟩ := sweeps_ g1 hs
  obtain ⟨bl, v, l1, l2⟩ := lowest_ h6 s2 s4
  exact ⟨_, V, J, bl, v, g1, g2, s1, s2, s3, l1, l2, by rw [rd66_eq rfl]; rfl⟩
section
variable {f : List S66} {a b c : Cx} {p : Int} {z : Nat} {g : List S66} {V J : List S39} {bl : Int} {v : Nat} {y : List Nat} {i i' : Int}
theorem best_step (r : Run f a b c p z g V J bl v) (hi : i < (y.length : Int)) (hz : rdOf (0 : Nat) y i = z) {k k' : Nat} (hk : 60 ≤ k) (hk' : k' = k + 1) (hi' : i + 1 = i') (best : Int) (most : Nat) :
    impl_BestBank.l0 k' a b c f p y 3 i best most = if i = 0 then impl_BestBank.l0 k a b c f p y 3 i' i v else (if fgt .f32 v most = true then impl_BestBank.l0 k a b c f p y 3 i' i v else impl_BestBank.l0 k a b c f p y 3 i' best most) := by
  subst hk' hi'
  rw [impl_BestBank.l0, if_pos hi, hz, r.add k hk]
  simp only [Option.bind_some, if_true]
  rw [flat_ r.gd]
  simp only [Option.bind_some]
  rw [r.sw k (by omega)]
  simp only [Option.bind_some]
  rw [r.low k hk]
  simp only [Option.bind_some, if_true]
theorem law_l0 (r : Run f a b c p z g V J bl v) (h6 : f.length ≤ 6) (h0 : 0 ≤ i) (hi : i < 3) (hl : y.length = 3) (hz : rdOf (0 : Nat) y i = z) {k : Nat} (hk : 60 ≤ k) (m : Int) (x10 : List Nat) :
    laws_FnBanks.l0 (k + 1) p y m x10 3 i a b c f = laws_FnBanks.j2 k p y m x10 3 i false a b c f a b c g := by
  have hgl := r.gd.len
  have e1 : (p != p) = false := by simp
  rw [laws_FnBanks.l0, if_pos hi, if_pos h0, if_pos (by omega), hz, r.add k hk]
  simp only [Option.bind_some, if_true]
  rw [r.gd.valid a b c hk, Option.bind_some, if_pos rfl, if_pos (by rw [w64 (by omega) (by omega)]; omega), if_pos (by omega), if_pos (by omega), r.par, e1]
theorem sw_v (r : Run f a b c p z g V J bl v) {k : Nat} (hk : 60 ≤ k) : impl_FlatVoltages.f k a b c g = some (List.replicate (f.length + 1) ⟨a, b, c⟩, true) := by
  unfold impl_FlatVoltages.f
  rw [r.gd.valid a b c hk]
  simp only [Option.bind_some, if_true]
  rw [flat_ r.gd]
  rfl
theorem sw_s (r : Run f a b c p z g V J bl v) {k : Nat} (hk : 60 ≤ k) : impl_RunSweeps.f k a b c g (List.replicate (f.length + 1) ⟨a, b, c⟩) 3 = some (V, J, 3, false, true) := by
  have hgl := r.gd.len
  unfold impl_RunSweeps.f impl_listFor.f
  rw [r.gd.valid a b c hk]
  simp only [Option.bind_some, if_true, List.length_replicate]
  have e2 : (((f.length + 1 : Nat) : Int) == (g.length : Int)) = true := by rw [hgl]; simp
  rw [e2]
  simp only [if_true]
  rw [in_t (by decide) (by decide)]
  simp only [Option.bind_some, if_true]
  rw [r.sw k (by omega)]
  rfl
theorem sw_l (r : Run f a b c p z g V J bl v) {k : Nat} (hk : 60 ≤ k) : impl_LowestBus.f k a b c g V J 3 false = some (bl, v, true) := by
  have hgl := r.gd.len
  unfold impl_LowestBus.f impl_IsFlow.f
  rw [r.gd.valid a b c hk]
  simp only [Option.bind_some, if_true]
  have e3 : (decide (V.length = g.length) && (decide (J.length = g.length) && decide ((0 : Int) ≤ 3 ∧ (3 : Int) ≤ 50))) = true := by
    rw [r.lV, r.lJ, hgl]
    simp
  rw [e3]
  simp only [if_true]
  rw [r.low k hk]
  rfl
theorem law_j2 (r : Run f a b c p z g V J bl v) {k : Nat} (hk : 60 ≤ k) (h0 : 0 ≤ i) (hi : i < 3) (hi' : i + 1 = i') (m : Int) (x10 : List Nat) (hx : x10.length < 1000) :
    laws_FnBanks.j2 (k + 1) p y m x10 3 i false a b c f a b c g = laws_FnBanks.l0 k p y m (x10 ++ [v]) 3 i' a b c f := by
  rw [laws_FnBanks.j2, if_neg (by decide), sw_v r hk, Option.bind_some, sw_s r hk, Option.bind_some, sw_l r hk, Option.bind_some, if_pos rfl, if_pos rfl, if_pos rfl, if_pos (by omega), w64 (by omega) (by omega), hi']
theorem law_step (r : Run f a b c p z g V J bl v) (h6 : f.length ≤ 6) (h0 : 0 ≤ i) (hi : i < 3) (hl : y.length = 3) (hz : rdOf (0 : Nat) y i = z) (hi' : i + 1 = i') (m : Int) {x10 x11 : List Nat} (hx : x10.length < 1000) (hx' : x10 ++ [v] = x11) (k : Nat) (hk : 60 ≤ k) :
    laws_FnBanks.l0 (k + 1 + 1) p y m x10 3 i a b c f = laws_FnBanks.l0 k p y m x11 3 i' a b c f := by
  rw [law_l0 r h6 h0 hi hl hz (by omega) m x10, law_j2 r hk h0 hi hi' m x10 hx, hx']
theorem law_end {m : Int} {vs : List Nat} (hl : (vs.length : Int) = 3) (k : Nat) : laws_FnBanks.l0 (k + 1) p y m vs 3 3 a b c f = laws_FnBanks.l1 k m vs 3 0 := by
  rw [laws_FnBanks.l0, if_neg (by decide), hl]
theorem law_j0 {m : Int} (hl : (y.length : Int) = 3) (k : Nat) : laws_FnBanks.j0 (k + 1) p y m false a b c f = laws_FnBanks.l0 k p y m [] 3 0 a b c f := by
  rw [laws_FnBanks.j0, if_neg (by decide), hl]
end
/-- The best of three. -/
def Best (vs : List Nat) (m : Nat) : Prop := m < 3 ∧ ∀ i : Nat, i < 3 → fgt .f32 (rdOf (0 : Nat) vs (i : Int)) (rdOf (0 : Nat) vs (m : Int)) = false ∧ (i < m → feq .f32 (rdOf (0 : Nat) vs (i : Int)) (rdOf (0 : Nat) vs (m : Int)) = false)
theorem Best_of {x y z : Nat} (hx : Fn x) (hy : Fn y) (hz : Fn z) {m : Nat} {w : Nat} (hm : m < 3) (hw : rdOf (0 : Nat) [x, y, z] (m : Int) = w) (hf : Fn w) (h0 : vl x ≤ vl w ∧ (0 < m → vl x < vl w)) (h1 : vl y ≤ vl w ∧ (1 < m → vl y < vl w)) (h2 : vl z ≤ vl w) : Best [x, y, z] m := by
  have key : ∀ u, Fn u → vl u ≤ vl w → fgt .f32 u w = false := fun u hu h => by
    rw [Bool.eq_false_iff]
    intro h3
    have := (fgt_ hu hf).mp h3
    omega
  have key2 : ∀ u, Fn u → vl u < vl w → feq .f32 u w = false := fun u hu h => by
    rw [Bool.eq_false_iff]
    intro h3
    have := (feq_ hu hf).mp h3
    omega
  refine ⟨hm, fun i hi => ?_⟩
  rw [hw]
  have h : i = 0 ∨ i = 1 ∨ i = 2 := by omega
  rcases h with rfl | rfl | rfl
  · exact ⟨key x hx h0.1, fun q => key2 x hx (h0.2 q)⟩
  · exact ⟨key y hy h1.1, fun q => key2 y hy (h1.2 q)⟩
  · exact ⟨key z hz h2, fun q => absurd q (by omega)⟩
theorem best_end {f : List S66} {a b c : Cx} {p : Int} {y : List Nat} (hl : y.length = 3) (k : Nat) (best : Int) (most : Nat) : impl_BestBank.l0 (k + 1) a b c f p y 3 3 best most = some (best, true) := by
  rw [impl_BestBank.l0, if_neg (by omega)]
theorem best_ {f : List S66} (h : Md f) (h6 : f.length ≤ 6) {a b c : Cx} {p : Int} (h0 : 0 ≤ p) (h1 : p < f.length) {z0 z1 z2 : Nat} {g0 g1 g2 : List S66} {V0 V1 V2 J0 J1 J2 : List S39} {b0 b1 b2 : Int} {v0 v1 v2 : Nat}
    (r0 : Run f a b c p z0 g0 V0 J0 b0 v0) (r1 : Run f a b c p z1 g1 V1 J1 b1 v1) (r2 : Run f a b c p z2 g2 V2 J2 b2 v2) : ∃ m : Nat, Best [v0, v1, v2] m ∧ ∀ k, 70 ≤ k → impl_BestBank.f k a b c f p [z0, z1, z2] 3 = some ((m : Int), true) := by
  have hb : ∀ (m : Nat), (∀ k, 60 ≤ k → impl_BestBank.l0 (k + 4) a b c f p [z0, z1, z2] 3 0 0 0 = some ((m : Int), true)) → ∀ k, 70 ≤ k → impl_BestBank.f k a b c f p [z0, z1, z2] 3 = some ((m : Int), true) := by
    intro m hm k hk
    obtain ⟨k, rfl⟩ : ∃ j, k = j + 4 := ⟨k - 4, by omega⟩
    unfold impl_BestBank.f
    rw [has_ h h6 a b c h0 h1 (by omega)]
    simp only [Option.bind_some, if_true, List.length_cons, List.length_nil]
    rw [if_pos (by decide), if_pos (by decide), if_pos (by decide), if_pos (by decide)]
    exact hm k (by omega)
  have s0 : ∀ k, 60 ≤ k → impl_BestBank.l0 (k + 4) a b c f p [z0, z1, z2] 3 0 0 0 = impl_BestBank.l0 (k + 3) a b c f p [z0, z1, z2] 3 1 0 v0 := by
    intro k hk
    rw [best_step (k := k + 3) (i' := 1) r0 (show (0 : Int) < 3 by decide) rfl (by omega) rfl rfl, if_pos rfl]
  have s1 : ∀ k, 60 ≤ k → impl_BestBank.l0 (k + 3) a b c f p [z0, z1, z2] 3 1 0 v0 = if fgt .f32 v1 v0 = true then impl_BestBank.l0 (k + 2) a b c f p [z0, z1, z2] 3 2 1 v1 else impl_BestBank.l0 (k + 2) a b c f p [z0, z1, z2] 3 2 0 v0 := by
    intro k hk
    rw [best_step (k := k + 2) (i' := 2) r1 (show (1 : Int) < 3 by decide) rfl (by omega) rfl rfl, if_neg (by decide)]
  have s2 : ∀ k, 60 ≤ k → ∀ (best : Int) (most : Nat), impl_BestBank.l0 (k + 2) a b c f p [z0, z1, z2] 3 2 best most = if fgt .f32 v2 most = true then some (2, true) else some (best, true) := by
    intro k hk best most
    rw [best_step (k := k + 1) (i' := 3) r2 (show (2 : Int) < 3 by decide) rfl (by omega) rfl rfl, if_neg (by decide), best_end rfl, best_end rfl]
  have f0 := r0.fn
  have f1 := r1.fn
  have f2 := r2.fn
  by_cases c1 : fgt .f32 v1 v0 = true
  · have d1 := (fgt_ f1 f0).mp c1
    by_cases c2 : fgt .f32 v2 v1 = true
    · have d2 := (fgt_ f2 f1).mp c2
      exact ⟨2, Best_of (w := v2) f0 f1 f2 (by decide) rfl f2 (by omega) (by omega) (by omega), hb 2 fun k hk => by rw [s0 k hk, s1 k hk, if_pos c1, s2 k hk, if_pos c2]; rfl⟩
    · have d2 := mt (fgt_ f2 f1).mpr c2
      exact ⟨1, Best_of (w := v1) f0 f1 f2 (by decide) rfl f1 (by omega) (by omega) (by omega), hb 1 fun k hk => by rw [s0 k hk, s1 k hk, if_pos c1, s2 k hk, if_neg c2]; rfl⟩
  · have d1 := mt (fgt_ f1 f0).mpr c1
    by_cases c2 : fgt .f32 v2 v0 = true
    · have d2 := (fgt_ f2 f0).mp c2
      exact ⟨2, Best_of (w := v2) f0 f1 f2 (by decide) rfl f2 (by omega) (by omega) (by omega), hb 2 fun k hk => by rw [s0 k hk, s1 k hk, if_neg c1, s2 k hk, if_pos c2]; rfl⟩
    · have d2 := mt (fgt_ f2 f0).mpr c2
      exact ⟨0, Best_of (w := v0) f0 f1 f2 (by decide) rfl f0 (by omega) (by omega) (by omega), hb 0 fun k hk => by rw [s0 k hk, s1 k hk, if_neg c1, s2 k hk, if_neg c2]; rfl⟩
/-- The law's last loop. -/
theorem last_step {vs : List Nat} {m : Nat} (hl : vs.length = 3) (hb : Best vs m) {i : Nat} {j j' : Int} (hj : j = (i : Int)) (hj' : j + 1 = j') (hi : i < 3) {k k' : Nat} (hk' : k' = k + 1) : laws_FnBanks.l1 k' (m : Int) vs 3 j = laws_FnBanks.l1 k (m : Int) vs 3 j' := by
  subst hk' hj' hj
  obtain ⟨hm, hb⟩ := hb
  obtain ⟨h1, h2⟩ := hb i hi
  rw [laws_FnBanks.l1, if_pos (by omega), if_pos (by omega), if_pos (by omega), if_pos (by omega), if_pos (by omega), h1, if_neg (by decide), w64 (by omega) (by omega)]
  by_cases c : i < m
  · rw [if_pos (by omega), h2 c, if_neg (by decide)]
  · rw [if_neg (by omega)]
theorem last_ {vs : List Nat} {m : Nat} (hl : vs.length = 3) (hb : Best vs m) (k : Nat) : laws_FnBanks.l1 (k + 4) (m : Int) vs 3 0 = some true := by
  rw [last_step hl hb (i := 0) (k := k + 3) (k' := k + 4) (j := 0) (j' := 1) rfl rfl (by decide) rfl, last_step hl hb (i := 1) (k := k + 2) (k' := k + 3) (j := 1) (j' := 2) rfl rfl (by decide) rfl, last_step hl hb (i := 2) (k := k + 1) (k' := k + 2) (j := 2) (j' := 3) rfl rfl (by decide) rfl]
  rw [laws_FnBanks.l1, if_neg (by decide)]
theorem at_ {l : List Int} (hw : ∀ x ∈ l, (Lit.int .u8 x).wf = true) {i n : Int} (h0 : 0 ≤ i) (h1 : i ≤ 3) (hn : 2 ≤ n) (hn2 : n ≤ 1000) : ∃ t : Nat, laws_b10At.f l i n = some (t : Int) ∧ (t : Int) < n := by
  obtain ⟨r1, r2⟩ := rd_u8 hw i
  unfold laws_b10At.f
  rw [if_neg (by omega)]
  have key : ∀ x : Int, 0 ≤ x → ∃ t : Nat, Int.tmod x n = (t : Int) ∧ (t : Int) < n := fun x hx => by
    have := Int.tmod_nonneg n hx
    have := Int.tmod_lt_of_pos x (b := n) (by omega)
    exact ⟨(Int.tmod x n).toNat, by omega, by omega⟩
  split
  · obtain ⟨t, e, h⟩ := key _ r1
    exact ⟨t, by rw [if_neg (by omega), w64 (by omega) (by omega), e], h⟩
  · rw [if_neg (by omega), w64 (n := i * 37) (by omega) (by omega), w64 (by omega) (by omega)]
    obtain ⟨t, e, h⟩ := key (i * 37 + 11) (by omega)
    exact ⟨t, by rw [e], h⟩
theorem tail_ {f : List S66} {a b c : Cx} {p m : Nat} {z0 z1 z2 : Nat} {g0 g1 g2 : List S66} {V0 V1 V2 J0 J1 J2 : List S39} {b0 b1 b2 : Int} {v0 v1 v2 : Nat} (h6 : f.length ≤ 6)
    (r0 : Run f a b c p z0 g0 V0 J0 b0 v0) (r1 : Run f a b c p z1 g1 V1 J1 b1 v1) (r2 : Run f a b c p z2 g2 V2 J2 b2 v2) (hb : Best [v0, v1, v2] m) {K : Nat} (hK : 100 ≤ K) :
    laws_FnBanks.j0 (K + 4 + 1 + 1 + 1 + 1 + 1 + 1 + 1 + 1) p [z0, z1, z2] m false a b c f = some true := by
  rw [law_j0 rfl]
  rw [law_step (i := 0) (i' := 1) (x10 := []) (x11 := [v0]) r0 h6 (by decide) (by decide) rfl rfl rfl m (by show 0 < 1000; decide) rfl _ (by omega)]
  rw [law_step (i := 1) (i' := 2) (x10 := [v0]) (x11 := [v0, v1]) r1 h6 (by decide) (by decide) rfl rfl rfl m (by show 1 < 1000; decide) rfl _ (by omega)]
  rw [law_step (i := 2) (i' := 3) (x10 := [v0, v1]) (x11 := [v0, v1, v2]) r2 h6 (by decide) (by decide) rfl rfl rfl m (by show 2 < 1000; decide) rfl _ (by omega)]
  rw [law_end rfl]
  exact last_ rfl hb K
theorem main_ : laws_FnBanks.Pure := by
  intro l0 l1 _ _ hw0 _ _ hw1
  obtain ⟨K, hK⟩ : ∃ K : Nat, 100 ≤ K := ⟨100, by omega⟩
  refine ⟨K + 4 + 1 + 1 + 1 + 1 + 1 + 1 + 1 + 1, ?_⟩
  unfold laws_FnBanks.f
  have hlong : ∃ t, laws_b10Long.f l0 l1 = some t := by
    unfold laws_b10Long.f
    split
    · exact ⟨_, rfl⟩
    · exact ⟨_, rfl⟩
  obtain ⟨t, ht⟩ := hlong
  rw [ht, Option.bind_some]
  by_cases c : t = true
  · rw [if_pos c]
  rw [if_neg c]
  obtain ⟨a, b, c, f, e1, hs, hm, h2, h6⟩ := mild_ hw0
  rw [e1 _ (by omega), Option.bind_some]
  obtain ⟨p, q1, q2⟩ := at_ hw1 (i := 0) (n := (f.length : Int)) (by decide) (by decide) (by omega) (by omega)
  obtain ⟨t1, q3, q4⟩ := at_ hw1 (i := 1) (n := 9) (by decide) (by decide) (by decide) (by decide)
  obtain ⟨t2, q5, q6⟩ := at_ hw1 (i := 2) (n := 9) (by decide) (by decide) (by decide) (by decide)
  obtain ⟨t3, q7, q8⟩ := at_ hw1 (i := 3) (n := 9) (by decide) (by decide) (by decide) (by decide)
  obtain ⟨k1, L1, z1⟩ := bz_ (all_lt bzA (a := t1) (by omega))
  obtain ⟨k2, L2, z2⟩ := bz_ (all_lt bzB (a := t2) (by omega))
  obtain ⟨k3, L3, z3⟩ := bz_ (all_lt bzC (a := t3) (by omega))
  have w1 : wrap64 (1 + (t1 : Int)) = 1 + (t1 : Int) := w64 (by omega) (by omega)
  have w2 : wrap64 (1 + (t2 : Int)) = 1 + (t2 : Int) := w64 (by omega) (by omega)
  have w3 : wrap64 (1 + (t3 : Int)) = 1 + (t3 : Int) := w64 (by omega) (by omega)
  rw [q1, Option.bind_some, q3, Option.bind_some, w1, if_pos k1, q5, Option.bind_some, w2, if_pos k2, q7, Option.bind_some, w3, if_pos k3, Option.bind_some]
  obtain ⟨g1, V1, J1, b1, v1, r1⟩ := run_ hm h2 h6 hs (p := (p : Int)) (by omega) (by omega) z1
  obtain ⟨g2, V2, J2, b2, v2, r2⟩ := run_ hm h2 h6 hs (p := (p : Int)) (by omega) (by omega) z2
  obtain ⟨g3, V3, J3, b3, v3, r3⟩ := run_ hm h2 h6 hs (p := (p : Int)) (by omega) (by omega) z3
  obtain ⟨m, hb, hB⟩ := best_ hm h6 (p := (p : Int)) (by omega) (by omega) r1 r2 r3
  have hB' := hB (K + 4 + 1 + 1 + 1 + 1 + 1 + 1 + 1 + 1) (by omega)
  unfold bz at hB'
  have hm3 := hb.1
  have d : (decide ((m : Int) ≥ (([bz 1115684864 t1, bz 1107296256 t2, bz 1098907648 t3] : List Nat).length : Int))) = false := decide_eq_false (by simp; omega)
  unfold bz at d r1 r2 r3
  rw [hB', Option.bind_some, if_pos rfl, if_neg (show ¬ ((m : Int), true).1 < 0 by show ¬ (m : Int) < 0; omega), d]
  exact tail_ h6 r1 r2 r3 hb hK
end Go.Proofs.Ytcgpomicgbmdlaa.Bk
