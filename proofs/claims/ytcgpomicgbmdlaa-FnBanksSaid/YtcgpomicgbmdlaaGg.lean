/- Floats on a grid of 2^-16: rounding, intervals, what the operations answer on them; conditions: as each lemma states them. -/
import Derived.Test.YtcgpomicgbmdlaaFl
namespace Go.Proofs.Ytcgpomicgbmdlaa.Bd
open Go Ieee

/-- A word's rung is below 'n' binades (so its number is below a power of two). -/
def Bd (f : Format) (n x : Nat) : Prop := x % f.signWeight < n * f.binade
/-- Nought of either sign. -/
def Zr (f : Format) (x : Nat) : Prop := x = 0 ∨ x = f.signWeight

theorem Bd.mono {f : Format} {n m x : Nat} (h : Bd f n x) (hm : n ≤ m) : Bd f m x := Nat.lt_of_lt_of_le h (Nat.mul_le_mul_right _ hm)
theorem binade_pos (f : Format) : 0 < f.binade := Nat.two_pow_pos _
theorem Bd.pos {f : Format} {n x : Nat} (h : Bd f n x) : 1 ≤ n := by
  rcases Nat.eq_zero_or_pos n with rfl | hp
  · simp [Bd] at h
  · exact hp

theorem infRung_lt (f : Format) : f.infRung < f.signWeight := by
  unfold Format.infRung Format.signWeight Format.binade
  rw [Nat.pow_add, Nat.sub_mul]
  have := Nat.two_pow_pos f.fractionBits
  have := Nat.two_pow_pos f.exponentBits
  have : 0 < 2 ^ f.exponentBits * 2 ^ f.fractionBits := Nat.mul_pos ‹_› ‹_›
  omega

theorem word_mod (f : Format) (neg : Bool) (r : Nat) (h : r ≤ f.infRung) : f.word neg r % f.signWeight = r := by
  have := infRung_lt f
  unfold Format.word
  cases neg <;> simp [Nat.mod_eq_of_lt (Nat.lt_of_le_of_lt h this)]

theorem cut_le (neg : Bool) (n d fb : Nat) (h : n < 2 ^ (fb + 1 + d)) : Toward.even.cut neg n d ≤ 2 ^ (fb + 1) := by
  unfold Toward.cut
  simp only [Nat.one_shiftLeft]
  have hp := Nat.two_pow_pos (fb + 1)
  by_cases c : d ≤ n.log2 + 2
  · rw [Nat.min_eq_left c]
    have hq : n / 2 ^ d < 2 ^ (fb + 1) := by
      rw [Nat.div_lt_iff_lt_mul (Nat.two_pow_pos d), ← Nat.pow_add]
      exact h
    have : ∀ b : Bool, b.toNat ≤ 1 := by decide
    have := this (decide (2 ^ d < 2 * (n % 2 ^ d)) || (2 ^ d == 2 * (n % 2 ^ d) && n / 2 ^ d % 2 == 1))
    omega
  · rw [Nat.min_eq_right (by omega)]
    have hlt : n < 2 ^ (n.log2 + 2) := by
      rcases Nat.eq_zero_or_pos n with rfl | hp
      · exact Nat.two_pow_pos _
      · exact (Nat.log2_lt (by omega)).mp (by omega)
    rw [Nat.div_eq_of_lt hlt]
    have : ∀ b : Bool, b.toNat ≤ 1 := by decide
    have := this (decide (2 ^ (n.log2 + 2) < 2 * (n % 2 ^ (n.log2 + 2))) || (2 ^ (n.log2 + 2) == 2 * (n % 2 ^ (n.log2 + 2)) && 0 % 2 == 1))
    omega

theorem cut_zero (neg : Bool) (n : Nat) : Toward.even.cut neg n 0 = n := by
  unfold Toward.cut
  simp [Nat.mod_one]

section ops
variable {f : Format} {n m x y : Nat}
/-- A word whose rung is at or above 'c' binades, and finite. -/
def Lo (f : Format) (c x : Nat) : Prop := c * f.binade ≤ x % f.signWeight ∧ x % f.signWeight < f.infRung
end ops

/-! ### the two kinds: what the tests of the printed functions ask -/
open Go.Proofs.YtcgpomicgbmdlaaW.PrintWords
/-- Bounded words of a kind. -/
def B (k : FloatKind) (n x : Nat) : Prop := Bd k.format n x
instance (k : FloatKind) (n x : Nat) : Decidable (B k n x) := inferInstanceAs (Decidable (_ < _))
def top : FloatKind → Nat | .f32 => 255 | .f64 => 2047
section
variable {k : FloatKind} {n m x y : Nat}
theorem B.mono (h : B k n x) (hm : n ≤ m) : B k m x := Bd.mono h hm
theorem fok_some {op : BinOp} {r : Nat} (h : floatBits op k x y = some r) : fok op k x y = true ∧ fv op k x y = r := by
  unfold fok fv
  rw [h]
  exact ⟨rfl, rfl⟩
def Lw (k : FloatKind) (c x : Nat) : Prop := Lo k.format c x
instance (k : FloatKind) (n x : Nat) : Decidable (Lw k n x) := inferInstanceAs (Decidable (_ ∧ _))
end
/-- Nought of either sign, of a kind. -/
def Z (k : FloatKind) (x : Nat) : Prop := ∃ s, x = k.format.word s 0
theorem Z.B {k : FloatKind} {x : Nat} (h : Z k x) : B k 1 x := by
  obtain ⟨s, rfl⟩ := h
  cases k <;> cases s <;> decide
theorem Z.read {k : FloatKind} {x : Nat} (h : Z k x) : ∃ s, k.format.read x = .number s 0 k.format.leastPlace := by
  obtain ⟨s, rfl⟩ := h
  cases k <;> cases s <;> exact ⟨_, rfl⟩
section
variable {k : FloatKind} {n x y : Nat}
end
end Go.Proofs.Ytcgpomicgbmdlaa.Bd
/- Floats on a grid: a number that lies between two multiples of 2^-16 stays so when it is rounded; what add, sub, mul, quo and the conversions answer then; conditions: as each lemma states them. -/
namespace Go.Proofs.Ytcgpomicgbmdlaa.Gr
open Go Ieee Go.Proofs.Ytcgpomicgbmdlaa.Bd Go.Proofs.YtcgpomicgbmdlaaW.PrintWords

/-- 'z * 2 ^ i' is at most 'h * 2 ^ -16'. -/
def vle (z i h : Int) : Prop := z * 2 ^ (i + 16).toNat ≤ h * 2 ^ (-(i + 16)).toNat
def vge (z i h : Int) : Prop := h * 2 ^ (-(i + 16)).toNat ≤ z * 2 ^ (i + 16).toNat
theorem p2pos (n : Nat) : (0 : Int) < 2 ^ n := Int.pow_pos (by decide)
theorem vle_shift {z i h : Int} (n : Nat) : vle (z * 2 ^ n) i h ↔ vle z (i + n) h := by
  unfold vle
  rcases Int.le_total 0 (i + 16) with c | c
  · have e1 : (i + n + 16).toNat = (i + 16).toNat + n := by omega
    have e2 : (-(i + n + 16)).toNat = 0 := by omega
    have e3 : (-(i + 16)).toNat = 0 := by omega
    rw [e1, e2, e3, Int.mul_assoc, Int.pow_add, Int.mul_comm (2 ^ n)]
  · have e3 : (i + 16).toNat = 0 := by omega
    rw [e3, Int.pow_zero, Int.mul_one]
    obtain ⟨m, hm⟩ : ∃ m : Nat, m = (-(i + 16)).toNat := ⟨_, rfl⟩
    rcases Nat.le_total n m with d | d
    · have e1 : (i + n + 16).toNat = 0 := by omega
      have e2 : (-(i + n + 16)).toNat = m - n := by omega
      rw [e1, e2, ← hm, Int.pow_zero, Int.mul_one]
      have e4 : h * 2 ^ m = (h * 2 ^ (m - n)) * 2 ^ n := by rw [Int.mul_assoc, ← Int.pow_add, Nat.sub_add_cancel d]
      rw [e4]
      exact ⟨fun q => Int.le_of_mul_le_mul_right q (p2pos n), fun q => Int.mul_le_mul_of_nonneg_right q (Int.le_of_lt (p2pos n))⟩
    · have e1 : (i + n + 16).toNat = n - m := by omega
      have e2 : (-(i + n + 16)).toNat = 0 := by omega
      rw [e1, e2, ← hm, Int.pow_zero, Int.mul_one]
      have e4 : z * 2 ^ n = (z * 2 ^ (n - m)) * 2 ^ m := by rw [Int.mul_assoc, ← Int.pow_add, Nat.sub_add_cancel d]
      rw [e4]
      exact ⟨fun q => Int.le_of_mul_le_mul_right q (p2pos m), fun q => Int.mul_le_mul_of_nonneg_right q (Int.le_of_lt (p2pos m))⟩
theorem vge_iff {z i h : Int} : vge z i h ↔ vle (-z) i (-h) := by
  unfold vge vle
  rw [Int.neg_mul, Int.neg_mul]
  omega
theorem vge_shift {z i h : Int} (n : Nat) : vge (z * 2 ^ n) i h ↔ vge z (i + n) h := by
  rw [vge_iff, vge_iff, ← Int.neg_mul]
  exact vle_shift n
theorem vle_add {z1 z2 i h1 h2 : Int} (a : vle z1 i h1) (b : vle z2 i h2) : vle (z1 + z2) i (h1 + h2) := by
  unfold vle at *
  rw [Int.add_mul, Int.add_mul]
  omega
theorem vge_add {z1 z2 i h1 h2 : Int} (a : vge z1 i h1) (b : vge z2 i h2) : vge (z1 + z2) i (h1 + h2) := by
  unfold vge at *
  rw [Int.add_mul, Int.add_mul]
  omega
theorem vle_mono {z i h h' : Int} (a : vle z i h) (b : h ≤ h') : vle z i h' := by
  unfold vle at *
  exact Int.le_trans a (Int.mul_le_mul_of_nonneg_right b (Int.le_of_lt (p2pos _)))
theorem vge_mono {z i h h' : Int} (a : vge z i h) (b : h' ≤ h) : vge z i h' := by
  unfold vge at *
  exact Int.le_trans (Int.mul_le_mul_of_nonneg_right b (Int.le_of_lt (p2pos _))) a

theorem cut_spec (neg : Bool) (n d : Nat) : n / 2 ^ d ≤ Toward.even.cut neg n d ∧ (Toward.even.cut neg n d ≤ n / 2 ^ d + 1) ∧ (n % 2 ^ d = 0 → Toward.even.cut neg n d = n / 2 ^ d) := by
  unfold Toward.cut
  simp only [Nat.one_shiftLeft]
  have hb : ∀ b : Bool, b.toNat ≤ 1 := by decide
  by_cases c : d ≤ n.log2 + 2
  · rw [Nat.min_eq_left c]
    have h1 := hb (decide (2 ^ d < 2 * (n % 2 ^ d)) || (2 ^ d == 2 * (n % 2 ^ d) && n / 2 ^ d % 2 == 1))
    refine ⟨by omega, by omega, fun h0 => ?_⟩
    rw [h0]
    have h2 : (decide (2 ^ d < 2 * 0) || (2 ^ d == 2 * 0 && n / 2 ^ d % 2 == 1)) = false := by
      have := Nat.two_pow_pos d
      simp
    rw [h2]
    rfl
  · rw [Nat.min_eq_right (by omega)]
    have hlt : n < 2 ^ (n.log2 + 1) := Nat.lt_log2_self
    have hlt2 : 2 * n < 2 ^ (n.log2 + 2) := by rw [Nat.pow_succ]; omega
    have hlt3 : n < 2 ^ d := Nat.lt_of_lt_of_le hlt (Nat.pow_le_pow_right (by omega) (by omega))
    rw [Nat.div_eq_of_lt (show n < 2 ^ (n.log2 + 2) by omega), Nat.mod_eq_of_lt (show n < 2 ^ (n.log2 + 2) by omega), Nat.div_eq_of_lt hlt3]
    have h2 : (decide (2 ^ (n.log2 + 2) < 2 * n) || (2 ^ (n.log2 + 2) == 2 * n && 0 % 2 == 1)) = false := by
      have h4 : ¬ (2 ^ (n.log2 + 2) < 2 * n) := by omega
      simp [h4]
    rw [h2]
    exact ⟨Nat.le_refl _, by decide, fun _ => rfl⟩
theorem cut_le_int (neg : Bool) (n d N : Nat) (h : n ≤ N * 2 ^ d) : Toward.even.cut neg n d ≤ N := by
  obtain ⟨h1, h2, h3⟩ := cut_spec neg n d
  have hp := Nat.two_pow_pos d
  have hq : n / 2 ^ d ≤ N := by rw [Nat.div_le_iff_le_mul hp]; omega
  rcases Nat.lt_or_ge (n / 2 ^ d) N with c | c
  · omega
  · have e : n / 2 ^ d = N := by omega
    have hd := Nat.div_add_mod n (2 ^ d)
    rw [e, Nat.mul_comm] at hd
    have := h3 (by omega)
    omega
theorem cut_ge_int (neg : Bool) (n d N : Nat) (h : N * 2 ^ d ≤ n) : N ≤ Toward.even.cut neg n d :=
  Nat.le_trans (by rw [Nat.le_div_iff_mul_le (Nat.two_pow_pos d)]; exact h) (cut_spec neg n d).1

theorem read_rung (f : Format) (neg : Bool) (q kept : Nat) (h1 : kept ≤ 2 ^ (f.fractionBits + 1)) (h2 : q = 0 ∨ f.binade ≤ kept) (h3 : q + 3 ≤ 2 ^ f.exponentBits - 1) :
    q * f.binade + kept ≤ f.infRung ∧ ∃ m n : Nat, kept = m * 2 ^ n ∧ f.read (f.word neg (q * f.binade + kept)) = .number neg m (f.leastPlace + q + n) := by
  have hb := binade_pos f
  have e2 : (2 : Nat) ^ (f.fractionBits + 1) = 2 * f.binade := by rw [Nat.pow_succ, Nat.mul_comm]; rfl
  rw [e2] at h1
  have hi : (q + 3) * f.binade ≤ f.infRung := Nat.mul_le_mul_right _ h3
  rw [Nat.add_mul] at hi
  have hlt : q * f.binade + kept < f.infRung := by omega
  have hs := infRung_lt f
  refine ⟨Nat.le_of_lt hlt, ?_⟩
  have hm : f.word neg (q * f.binade + kept) % f.signWeight = q * f.binade + kept := word_mod f neg _ (Nat.le_of_lt hlt)
  have hn : (f.word neg (q * f.binade + kept) / f.signWeight % 2 == 1) = neg := by
    unfold Format.word
    cases neg
    · simp only [Bool.false_eq_true, if_false]
      rw [Nat.div_eq_of_lt (by omega)]
      rfl
    · simp only [if_true]
      rw [Nat.add_div_left _ (by omega), Nat.div_eq_of_lt (by omega)]
      rfl
  unfold Format.read
  simp only [hm, hn]
  by_cases c : q * f.binade + kept < f.binade
  · rw [if_pos c]
    have hq : q = 0 := by
      rcases Nat.eq_zero_or_pos q with h | h
      · exact h
      · have : 1 * f.binade ≤ q * f.binade := Nat.mul_le_mul_right _ h
        omega
    subst hq
    exact ⟨kept, 0, by simp, by simp⟩
  · rw [if_neg c, if_pos hlt]
    have hk : f.binade ≤ kept := by
      rcases h2 with rfl | h
      · omega
      · exact h
    by_cases c2 : kept < 2 * f.binade
    · have e3 : q * f.binade + kept = (q + 1) * f.binade + (kept - f.binade) := by rw [Nat.add_mul]; omega
      have e4 : (q * f.binade + kept) / f.binade = q + 1 := by
        rw [e3, Nat.mul_comm, Nat.mul_add_div hb, Nat.div_eq_of_lt (by omega)]
      have e5 : (q * f.binade + kept) % f.binade = kept - f.binade := by
        rw [e3, Nat.mul_comm, Nat.mul_add_mod, Nat.mod_eq_of_lt (by omega)]
      refine ⟨kept, 0, by simp, ?_⟩
      rw [e4, e5]
      congr 1
      · omega
      · simp
    · have e3 : q * f.binade + kept = (q + 2) * f.binade + 0 := by rw [Nat.add_mul]; omega
      have e4 : (q * f.binade + kept) / f.binade = q + 2 := by
        rw [e3, Nat.mul_comm, Nat.mul_add_div hb]
        simp
      have e5 : (q * f.binade + kept) % f.binade = 0 := by
        rw [e3, Nat.mul_comm, Nat.mul_add_mod]
        simp
      refine ⟨f.binade, 1, by omega, ?_⟩
      rw [e4, e5]
      congr 1
      show f.leastPlace + ((q + 2 - 1 : Nat) : Int) = _
      omega
theorem vle_nat {m : Nat} {i : Int} {b : Nat} (h : vle (m : Int) i b) (hi : i ≤ -16) : m ≤ b * 2 ^ (-16 - i).toNat := by
  unfold vle at h
  have e1 : (i + 16).toNat = 0 := by omega
  have e2 : (-(i + 16)).toNat = (-16 - i).toNat := by omega
  rw [e1, e2, Int.pow_zero, Int.mul_one] at h
  exact_mod_cast h
theorem vle_of_nat {m : Nat} {i : Int} {b : Nat} (hi : i ≤ -16) (h : m ≤ b * 2 ^ (-16 - i).toNat) : vle (m : Int) i b := by
  unfold vle
  have e1 : (i + 16).toNat = 0 := by omega
  have e2 : (-(i + 16)).toNat = (-16 - i).toNat := by omega
  rw [e1, e2, Int.pow_zero, Int.mul_one]
  exact_mod_cast h
theorem vge_nat {m : Nat} {i : Int} {b : Nat} (h : vge (m : Int) i b) (hi : i ≤ -16) : b * 2 ^ (-16 - i).toNat ≤ m := by
  unfold vge at h
  have e1 : (i + 16).toNat = 0 := by omega
  have e2 : (-(i + 16)).toNat = (-16 - i).toNat := by omega
  rw [e1, e2, Int.pow_zero, Int.mul_one] at h
  exact_mod_cast h
theorem vge_of_nat {m : Nat} {i : Int} {b : Nat} (hi : i ≤ -16) (h : b * 2 ^ (-16 - i).toNat ≤ m) : vge (m : Int) i b := by
  unfold vge
  have e1 : (i + 16).toNat = 0 := by omega
  have e2 : (-(i + 16)).toNat = (-16 - i).toNat := by omega
  rw [e1, e2, Int.pow_zero, Int.mul_one]
  exact_mod_cast h
theorem vle_log {mag b fb : Nat} {place : Int} (hm : mag ≠ 0) (hb : b < 2 ^ (fb + 1)) (h : vle (mag : Int) place b) : place + (mag.log2 : Int) - fb ≤ -16 := by
  rcases Int.le_total 0 (place + 16) with c | c
  · unfold vle at h
    have e2 : (-(place + 16)).toNat = 0 := by omega
    rw [e2, Int.pow_zero, Int.mul_one] at h
    have h' : mag * 2 ^ (place + 16).toNat ≤ b := by exact_mod_cast h
    have h1 : 2 ^ mag.log2 ≤ mag := Nat.log2_self_le hm
    have h2 : 2 ^ (mag.log2 + (place + 16).toNat) < 2 ^ (fb + 1) := by
      rw [Nat.pow_add]
      exact Nat.lt_of_le_of_lt (Nat.le_trans (Nat.mul_le_mul_right _ h1) h') hb
    have h3 := (Nat.pow_lt_pow_iff_right (by omega)).mp h2
    omega
  · have h' := vle_nat h (by omega)
    have h1 : 2 ^ mag.log2 ≤ mag := Nat.log2_self_le hm
    have h2 : 2 ^ mag.log2 < 2 ^ (fb + 1 + (-16 - place).toNat) := by
      rw [Nat.pow_add]
      exact Nat.lt_of_le_of_lt (Nat.le_trans h1 h') (Nat.mul_lt_mul_of_pos_right hb (Nat.two_pow_pos _))
    have h3 := (Nat.pow_lt_pow_iff_right (by omega)).mp h2
    omega
/-- Rounding to the nearest keeps bounds on the grid. -/
theorem rnd (f : Format) (hf : f.leastPlace ≤ -16) (hq : (-16 - f.leastPlace).toNat + 3 ≤ 2 ^ f.exponentBits - 1) (neg : Bool) (mag : Nat) (place : Int) (b : Nat) (hb : b < 2 ^ (f.fractionBits + 1)) (h : vle (mag : Int) place b) :
    ∃ (m : Nat) (i : Int), f.read (f.nearest neg mag place) = .number neg m i ∧ f.leastPlace ≤ i ∧ vle (m : Int) i b ∧ ∀ a : Nat, vge (mag : Int) place a → vge (m : Int) i a := by
  by_cases hm : mag = 0
  · subst hm
    unfold Format.nearest
    rw [if_pos rfl]
    obtain ⟨_, m, n, h1, h2⟩ := read_rung f neg 0 0 (Nat.zero_le _) (.inl rfl) (by omega)
    rw [Nat.zero_mul, Nat.zero_add] at h2
    have hm0 : m = 0 := by
      rcases Nat.mul_eq_zero.mp h1.symm with h | h
      · exact h
      · exact absurd h (Nat.ne_of_gt (Nat.two_pow_pos n))
    subst hm0
    refine ⟨0, _, h2, by omega, ?_, fun a ha => ?_⟩
    · unfold vle
      simp only [Int.natCast_zero, Int.zero_mul]
      exact Int.mul_nonneg (by omega) (Int.le_of_lt (p2pos _))
    · unfold vge at ha ⊢
      simp only [Int.natCast_zero, Int.zero_mul] at ha ⊢
      have ha0 : (a : Int) ≤ 0 := by
        rcases Int.lt_or_le 0 (a : Int) with c | c
        · have := Int.mul_pos c (p2pos (-(place + 16)).toNat)
          omega
        · exact c
      have ha1 : (a : Int) = 0 := by omega
      rw [ha1, Int.zero_mul]
      exact Int.le_refl _
  · have hlog := vle_log hm hb h
    unfold Format.nearest
    rw [if_neg hm]
    simp only
    generalize hl : max (place + (mag.log2 : Int) - f.fractionBits) f.leastPlace = last
    have hl1 : last ≤ -16 := by omega
    have hl2 : f.leastPlace ≤ last := by omega
    obtain ⟨kept, hk⟩ : ∃ kept, kept = Toward.even.cut neg (mag <<< (place - last).toNat) (last - place).toNat := ⟨_, rfl⟩
    rw [← hk]
    -- what is kept, at its place
    have hK : kept ≤ 2 ^ (f.fractionBits + 1) ∧ (f.leastPlace < last → f.binade ≤ kept) ∧ vle (kept : Int) last b ∧ ∀ a : Nat, vge (mag : Int) place a → vge (kept : Int) last a := by
      rcases Int.le_total last place with c | c
      · have e1 : (last - place).toNat = 0 := by omega
        rw [e1, cut_zero, Nat.shiftLeft_eq] at hk
        have e2 : last + ((place - last).toNat : Int) = place := by omega
        refine ⟨?_, fun hlt => ?_, ?_, fun a ha => ?_⟩
        · have h1 : mag < 2 ^ (mag.log2 + 1) := Nat.lt_log2_self
          have h3 : mag * 2 ^ (place - last).toNat < 2 ^ (mag.log2 + 1) * 2 ^ (place - last).toNat := Nat.mul_lt_mul_of_pos_right h1 (Nat.two_pow_pos _)
          rw [← Nat.pow_add] at h3
          rw [hk]
          exact Nat.le_of_lt (Nat.lt_of_lt_of_le h3 (Nat.pow_le_pow_right (by omega) (by omega)))
        · have h1 : 2 ^ mag.log2 ≤ mag := Nat.log2_self_le hm
          rw [hk]
          refine Nat.le_trans ?_ (Nat.mul_le_mul_right _ h1)
          rw [← Nat.pow_add]
          exact Nat.pow_le_pow_right (by omega) (by omega)
        · rw [hk, Int.natCast_mul, Int.natCast_pow]
          exact (vle_shift _).mpr (by rw [e2]; exact h)
        · rw [hk, Int.natCast_mul, Int.natCast_pow]
          exact (vge_shift _).mpr (by rw [e2]; exact ha)
      · have e1 : (place - last).toNat = 0 := by omega
        rw [e1, Nat.shiftLeft_zero] at hk
        have hmn := vle_nat h (by omega)
        have e2 : (-16 - place).toNat = (-16 - last).toNat + (last - place).toNat := by omega
        refine ⟨?_, fun hlt => ?_, ?_, fun a ha => ?_⟩
        · rw [hk]
          refine cut_le _ _ _ _ ?_
          have h1 : mag < 2 ^ (mag.log2 + 1) := Nat.lt_log2_self
          exact Nat.lt_of_lt_of_le h1 (Nat.pow_le_pow_right (by omega) (by omega))
        · rw [hk]
          refine cut_ge_int _ _ _ _ ?_
          have h1 : 2 ^ mag.log2 ≤ mag := Nat.log2_self_le hm
          refine Nat.le_trans ?_ h1
          show 2 ^ f.fractionBits * 2 ^ _ ≤ _
          rw [← Nat.pow_add]
          exact Nat.pow_le_pow_right (by omega) (by omega)
        · refine vle_of_nat hl1 ?_
          rw [hk]
          refine cut_le_int _ _ _ _ ?_
          rw [Nat.mul_assoc, ← Nat.pow_add, ← e2]
          exact hmn
        · refine vge_of_nat hl1 ?_
          rw [hk]
          refine cut_ge_int _ _ _ _ ?_
          rw [Nat.mul_assoc, ← Nat.pow_add, ← e2]
          exact vge_nat ha (by omega)
    obtain ⟨k1, k2, k3, k4⟩ := hK
    obtain ⟨r1, m, n, r2, r3⟩ := read_rung f neg (last - f.leastPlace).toNat kept k1 (by
      rcases Int.lt_or_le f.leastPlace last with c | c
      · exact .inr (k2 c)
      · exact .inl (by omega)) (by omega)
    rw [Nat.min_eq_left r1]
    have e3 : f.leastPlace + ((last - f.leastPlace).toNat : Int) = last := by omega
    rw [e3] at r3
    refine ⟨m, last + n, r3, by omega, ?_, fun a ha => ?_⟩
    · refine (vle_shift n).mp ?_
      have : (kept : Int) = (m : Int) * 2 ^ n := by rw [r2, Int.natCast_mul, Int.natCast_pow]; rfl
      rw [← this]
      exact k3
    · refine (vge_shift n).mp ?_
      have : (kept : Int) = (m : Int) * 2 ^ n := by rw [r2, Int.natCast_mul, Int.natCast_pow]; rfl
      rw [← this]
      exact k4 a ha
end Go.Proofs.Ytcgpomicgbmdlaa.Gr
/- Floats on a grid, second text: intervals, and what the operations answer on them; conditions: as each lemma states them. -/
namespace Go.Proofs.Ytcgpomicgbmdlaa.Gr
open Go Ieee Go.Proofs.Ytcgpomicgbmdlaa.Bd Go.Proofs.YtcgpomicgbmdlaaW.PrintWords

theorem vle_exp {z i h : Int} (X Y : Nat) (e : (X : Int) - Y = i + 16) : vle z i h ↔ z * 2 ^ X ≤ h * 2 ^ Y := by
  unfold vle
  rcases Int.le_total 0 (i + 16) with c | c
  · have e1 : (i + 16).toNat + Y = X := by omega
    have e2 : (-(i + 16)).toNat = 0 := by omega
    rw [e2, ← e1, Int.pow_add, ← Int.mul_assoc, Int.pow_zero, Int.mul_one]
    exact ⟨fun q => Int.mul_le_mul_of_nonneg_right q (Int.le_of_lt (p2pos Y)), fun q => Int.le_of_mul_le_mul_right q (p2pos Y)⟩
  · have e1 : (-(i + 16)).toNat + X = Y := by omega
    have e2 : (i + 16).toNat = 0 := by omega
    rw [e2, ← e1, Int.pow_add, ← Int.mul_assoc, Int.pow_zero, Int.mul_one]
    exact ⟨fun q => Int.mul_le_mul_of_nonneg_right q (Int.le_of_lt (p2pos X)), fun q => Int.le_of_mul_le_mul_right q (p2pos X)⟩
theorem vge_exp {z i h : Int} (X Y : Nat) (e : (X : Int) - Y = i + 16) : vge z i h ↔ h * 2 ^ Y ≤ z * 2 ^ X := by
  rw [vge_iff, vle_exp X Y e, Int.neg_mul, Int.neg_mul]
  omega
/-- A number with its sign. -/
def sg (s : Bool) (m : Nat) : Int := if s then -(m : Int) else m
theorem sg_not (s : Bool) (m : Nat) : sg (!s) m = -sg s m := by cases s <;> simp [sg]
theorem signed_sg (s : Bool) (m u : Nat) : signed s m u = sg s m * 2 ^ u := by
  unfold signed sg
  cases s <;> simp [Nat.shiftLeft_eq, Int.neg_mul]
/-- A finite word between two multiples of 2^-16. -/
def I (k : FloatKind) (lo hi : Int) (x : Nat) : Prop := ∃ s m i, k.format.read x = .number s m i ∧ k.format.leastPlace ≤ i ∧ vge (sg s m) i lo ∧ vle (sg s m) i hi
def tp (k : FloatKind) : Int := match k with | .f32 => 16777216 | .f64 => 9007199254740992
theorem tp_eq (k : FloatKind) : tp k = ((2 ^ (k.format.fractionBits + 1) : Nat) : Int) := by cases k <;> rfl
theorem fmt (k : FloatKind) : k.format.leastPlace ≤ -16 ∧ (-16 - k.format.leastPlace).toNat + 3 ≤ 2 ^ k.format.exponentBits - 1 := by cases k <;> decide
theorem I.mono {k : FloatKind} {lo hi lo' hi' : Int} {x : Nat} (h : I k lo hi x) (h1 : lo' ≤ lo) (h2 : hi ≤ hi') : I k lo' hi' x := by
  obtain ⟨s, m, i, a, b, c, d⟩ := h
  exact ⟨s, m, i, a, b, vge_mono c h1, vle_mono d h2⟩
theorem vle_nn {m : Nat} {i h : Int} (a : vle (m : Int) i h) : 0 ≤ h ∨ False := by
  unfold vle at a
  rcases Int.lt_or_le h 0 with c | c
  · have h1 : 0 ≤ (m : Int) * 2 ^ (i + 16).toNat := Int.mul_nonneg (by omega) (Int.le_of_lt (p2pos _))
    have h2 : h * 2 ^ (-(i + 16)).toNat < 0 := Int.mul_neg_of_neg_of_pos c (p2pos _)
    omega
  · exact .inl c
theorem vge_nn {m : Nat} {i h : Int} (hh : h ≤ 0) : vge (m : Int) i h := by
  unfold vge
  have h1 : 0 ≤ (m : Int) * 2 ^ (i + 16).toNat := Int.mul_nonneg (by omega) (Int.le_of_lt (p2pos _))
  have h2 : h * 2 ^ (-(i + 16)).toNat ≤ 0 := Int.mul_nonpos_of_nonpos_of_nonneg hh (Int.le_of_lt (p2pos _))
  omega
theorem rndI (k : FloatKind) (neg : Bool) (mag : Nat) (place lo hi : Int) (hl : -tp k < lo) (hh : hi < tp k) (h1 : vge (sg neg mag) place lo) (h2 : vle (sg neg mag) place hi) : I k lo hi (k.format.nearest neg mag place) := by
  obtain ⟨f1, f2⟩ := fmt k
  rw [tp_eq] at hl hh
  cases neg with
  | false =>
    simp only [sg, Bool.false_eq_true, if_false] at h1 h2
    have h0 : 0 ≤ hi := by rcases vle_nn h2 with h | h; exact h; exact h.elim
    obtain ⟨b, rfl⟩ := Int.eq_ofNat_of_zero_le h0
    obtain ⟨m, i, r1, r2, r3, r4⟩ := rnd k.format f1 f2 false mag place b (by exact_mod_cast hh) h2
    refine ⟨false, m, i, r1, r2, ?_, by simpa [sg] using r3⟩
    simp only [sg, Bool.false_eq_true, if_false]
    rcases Int.lt_or_le 0 lo with c | c
    · obtain ⟨a, rfl⟩ := Int.eq_ofNat_of_zero_le (Int.le_of_lt c)
      exact r4 a h1
    · exact vge_nn c
  | true =>
    simp only [sg, if_true] at h1 h2
    have h1' : vle (mag : Int) place (-lo) := by have := vge_iff.mp h1; rwa [Int.neg_neg] at this
    have h0 : 0 ≤ -lo := by rcases vle_nn h1' with h | h; exact h; exact h.elim
    obtain ⟨b, hb⟩ := Int.eq_ofNat_of_zero_le h0
    rw [hb] at h1'
    obtain ⟨m, i, r1, r2, r3, r4⟩ := rnd k.format f1 f2 true mag place b (by omega) h1'
    refine ⟨true, m, i, r1, r2, ?_, ?_⟩
    · simp only [sg, if_true]
      rw [vge_iff, Int.neg_neg, hb]
      exact r3
    · simp only [sg, if_true]
      rcases Int.lt_or_le hi 0 with c | c
      · obtain ⟨a, ha⟩ := Int.eq_ofNat_of_zero_le (show 0 ≤ -hi by omega)
        have h2' : vge (mag : Int) place (-hi) := by rw [vge_iff, Int.neg_neg]; exact h2
        have := r4 a (by rw [← ha]; exact h2')
        rw [← ha, vge_iff, Int.neg_neg] at this
        exact this
      · have := vge_nn (m := m) (i := i) (h := -hi) (by omega)
        rw [vge_iff, Int.neg_neg] at this
        exact this
theorem sum_I {k : FloatKind} {s t : Bool} {m n : Nat} {i j l1 h1 l2 h2 : Int} (a1 : vge (sg s m) i l1) (a2 : vle (sg s m) i h1) (b1 : vge (sg t n) j l2) (b2 : vle (sg t n) j h2) (hl : -tp k < l1 + l2) (hh : h1 + h2 < tp k) :
    ∃ d, (Datum.number s m i).sum (.number t n j) = some d ∧ I k (l1 + l2) (h1 + h2) (k.format.write d) := by
  refine ⟨_, rfl, ?_⟩
  show I k _ _ (k.format.nearest _ _ _)
  generalize hB : min i j = base
  have e1 : base + ((i - base).toNat : Int) = i := by omega
  have e2 : base + ((j - base).toNat : Int) = j := by omega
  have hT : signed s m (i - base).toNat + signed t n (j - base).toNat = sg s m * 2 ^ (i - base).toNat + sg t n * 2 ^ (j - base).toNat := by rw [signed_sg, signed_sg]
  rw [hT]
  have q1 := (vge_shift (i - base).toNat).mpr (by rw [e1]; exact a1)
  have q2 := (vle_shift (i - base).toNat).mpr (by rw [e1]; exact a2)
  have q3 := (vge_shift (j - base).toNat).mpr (by rw [e2]; exact b1)
  have q4 := (vle_shift (j - base).toNat).mpr (by rw [e2]; exact b2)
  generalize hz : sg s m * 2 ^ (i - base).toNat + sg t n * 2 ^ (j - base).toNat = T
  have p1 := vge_add q1 q3
  have p2 := vle_add q2 q4
  rw [hz] at p1 p2
  have hsg : sg (if T = 0 then s && t else decide (T < 0)) T.natAbs = T := by
    by_cases c : T = 0
    · subst c
      simp [sg]
    · rw [if_neg c]
      unfold sg
      by_cases c2 : T < 0
      · simp [c2]; omega
      · simp [c2]; omega
  exact rndI k _ _ _ _ _ hl hh (by rw [hsg]; exact p1) (by rw [hsg]; exact p2)
section
variable {k : FloatKind} {l1 h1 l2 h2 : Int} {x y : Nat}
theorem add_I (hx : I k l1 h1 x) (hy : I k l2 h2 y) (hl : -tp k < l1 + l2) (hh : h1 + h2 < tp k) : fok .add k x y = true ∧ I k (l1 + l2) (h1 + h2) (fv .add k x y) := by
  obtain ⟨s, m, i, r1, _, a1, a2⟩ := hx
  obtain ⟨t, n, j, r2, _, b1, b2⟩ := hy
  obtain ⟨d, e, h⟩ := sum_I a1 a2 b1 b2 hl hh
  obtain ⟨g1, g2⟩ := fok_some (op := .add) (k := k) (x := x) (y := y) (r := k.format.write d) (by
    show k.format.add x y = _
    unfold Format.add
    rw [r1, r2, e]
    rfl)
  exact ⟨g1, g2 ▸ h⟩
theorem sub_I (hx : I k l1 h1 x) (hy : I k l2 h2 y) (hl : -tp k < l1 - h2) (hh : h1 - l2 < tp k) : fok .sub k x y = true ∧ I k (l1 - h2) (h1 - l2) (fv .sub k x y) := by
  obtain ⟨s, m, i, r1, _, a1, a2⟩ := hx
  obtain ⟨t, n, j, r2, _, b1, b2⟩ := hy
  have b1' : vge (sg (!t) n) j (-h2) := by rw [sg_not, vge_iff, Int.neg_neg, Int.neg_neg]; exact b2
  have b2' : vle (sg (!t) n) j (-l2) := by rw [sg_not]; exact vge_iff.mp b1
  obtain ⟨d, e, h⟩ := sum_I (k := k) a1 a2 b1' b2' (by omega) (by omega)
  obtain ⟨g1, g2⟩ := fok_some (op := .sub) (k := k) (x := x) (y := y) (r := k.format.write d) (by
    show k.format.sub x y = _
    unfold Format.sub
    rw [r1, r2]
    show Option.map _ ((Datum.number s m i).sum (.number (!t) n j)) = _
    rw [e]
    rfl)
  refine ⟨g1, g2 ▸ ?_⟩
  rw [Int.sub_eq_add_neg, Int.sub_eq_add_neg]
  exact h
end
theorem abs_of {s : Bool} {m : Nat} {i : Int} {a : Int} (h1 : vge (sg s m) i (-a)) (h2 : vle (sg s m) i a) : vle (m : Int) i a := by
  cases s with
  | false => exact h2
  | true => have := vge_iff.mp h1; rwa [sg, if_pos rfl, Int.neg_neg, Int.neg_neg] at this
theorem of_abs {s : Bool} {m : Nat} {i : Int} {a : Int} (h : vle (m : Int) i a) : vge (sg s m) i (-a) ∧ vle (sg s m) i a := by
  have h0 : 0 ≤ a := by rcases vle_nn h with h | h; exact h; exact h.elim
  have h2 : vge (m : Int) i (-a) := vge_nn (by omega)
  cases s with
  | false => exact ⟨h2, h⟩
  | true =>
    simp only [sg, if_true]
    refine ⟨by rw [vge_iff, Int.neg_neg, Int.neg_neg]; exact h, ?_⟩
    have := vge_iff.mp h2
    rwa [Int.neg_neg] at this
theorem vle_mul {m n : Nat} {i j : Int} {a b c : Nat} (h1 : vle (m : Int) i a) (h2 : vle (n : Int) j b) (hc : a * b ≤ c * 65536) : vle ((m * n : Nat) : Int) (i + j) c := by
  rw [vle_exp (i + 16).toNat (-(i + 16)).toNat (by omega)] at h1
  rw [vle_exp (j + 16).toNat (-(j + 16)).toNat (by omega)] at h2
  rw [vle_exp ((i + 16).toNat + (j + 16).toNat) ((-(i + 16)).toNat + (-(j + 16)).toNat + 16) (by omega)]
  have h1' : m * 2 ^ (i + 16).toNat ≤ a * 2 ^ (-(i + 16)).toNat := by exact_mod_cast h1
  have h2' : n * 2 ^ (j + 16).toNat ≤ b * 2 ^ (-(j + 16)).toNat := by exact_mod_cast h2
  have h3 := Nat.mul_le_mul h1' h2'
  have e1 : m * n * 2 ^ ((i + 16).toNat + (j + 16).toNat) = m * 2 ^ (i + 16).toNat * (n * 2 ^ (j + 16).toNat) := by rw [Nat.pow_add]; ac_rfl
  have e2 : a * 2 ^ (-(i + 16)).toNat * (b * 2 ^ (-(j + 16)).toNat) = a * b * 2 ^ ((-(i + 16)).toNat + (-(j + 16)).toNat) := by rw [Nat.pow_add]; ac_rfl
  have h4 : m * n * 2 ^ ((i + 16).toNat + (j + 16).toNat) ≤ c * 2 ^ ((-(i + 16)).toNat + (-(j + 16)).toNat + 16) := by
    rw [e1]
    refine Nat.le_trans h3 ?_
    rw [e2, Nat.pow_add 2 _ 16]
    refine Nat.le_trans (Nat.mul_le_mul_right _ hc) (Nat.le_of_eq ?_)
    show c * 2 ^ 16 * _ = _
    ac_rfl
  exact_mod_cast h4
theorem vge_mul {m n : Nat} {i j : Int} {a b c : Nat} (h1 : vge (m : Int) i a) (h2 : vge (n : Int) j b) (hc : c * 65536 ≤ a * b) : vge ((m * n : Nat) : Int) (i + j) c := by
  rw [vge_exp (i + 16).toNat (-(i + 16)).toNat (by omega)] at h1
  rw [vge_exp (j + 16).toNat (-(j + 16)).toNat (by omega)] at h2
  rw [vge_exp ((i + 16).toNat + (j + 16).toNat) ((-(i + 16)).toNat + (-(j + 16)).toNat + 16) (by omega)]
  have h1' : a * 2 ^ (-(i + 16)).toNat ≤ m * 2 ^ (i + 16).toNat := by exact_mod_cast h1
  have h2' : b * 2 ^ (-(j + 16)).toNat ≤ n * 2 ^ (j + 16).toNat := by exact_mod_cast h2
  have h3 := Nat.mul_le_mul h1' h2'
  have e1 : m * n * 2 ^ ((i + 16).toNat + (j + 16).toNat) = m * 2 ^ (i + 16).toNat * (n * 2 ^ (j + 16).toNat) := by rw [Nat.pow_add]; ac_rfl
  have e2 : a * 2 ^ (-(i + 16)).toNat * (b * 2 ^ (-(j + 16)).toNat) = a * b * 2 ^ ((-(i + 16)).toNat + (-(j + 16)).toNat) := by rw [Nat.pow_add]; ac_rfl
  have h4 : c * 2 ^ ((-(i + 16)).toNat + (-(j + 16)).toNat + 16) ≤ m * n * 2 ^ ((i + 16).toNat + (j + 16).toNat) := by
    rw [e1]
    refine Nat.le_trans ?_ h3
    rw [e2, Nat.pow_add 2 _ 16]
    refine Nat.le_trans (Nat.le_of_eq ?_) (Nat.mul_le_mul_right _ hc)
    show _ = c * 2 ^ 16 * _
    ac_rfl
  exact_mod_cast h4
section
variable {k : FloatKind} {a b c : Nat} {x y : Nat}
theorem mul_I (hx : I k (-(a : Int)) a x) (hy : I k (-(b : Int)) b y) (hc : a * b ≤ c * 65536) (ht : (c : Int) < tp k) : fok .mul k x y = true ∧ I k (-(c : Int)) c (fv .mul k x y) := by
  obtain ⟨s, m, i, r1, _, a1, a2⟩ := hx
  obtain ⟨t, n, j, r2, _, b1, b2⟩ := hy
  obtain ⟨g1, g2⟩ := fok_some (op := .mul) (k := k) (x := x) (y := y) (r := k.format.nearest (s ^^ t) (m * n) (i + j)) (by
    show k.format.mul x y = _
    unfold Format.mul
    rw [r1, r2]
    rfl)
  obtain ⟨q1, q2⟩ := of_abs (s := s ^^ t) (vle_mul (abs_of a1 a2) (abs_of b1 b2) hc)
  exact ⟨g1, g2 ▸ rndI k _ _ _ _ _ (by omega) ht q1 q2⟩
/-- A square. -/
theorem sq_I {l h : Int} {al : Nat} (hx : I k l h x) (hl : -(a : Int) ≤ l) (hh : h ≤ a) (ha : al = 0 ∨ (al : Int) ≤ l ∨ h ≤ -(al : Int)) (hc : a * a ≤ c * 65536) (hb : b * 65536 ≤ al * al) (ht : (c : Int) < tp k) : fok .mul k x x = true ∧ I k b c (fv .mul k x x) := by
  obtain ⟨s, m, i, r1, _, a1, a2⟩ := hx
  obtain ⟨g1, g2⟩ := fok_some (op := .mul) (k := k) (x := x) (y := x) (r := k.format.nearest (s ^^ s) (m * m) (i + i)) (by
    show k.format.mul x x = _
    unfold Format.mul
    rw [r1]
    rfl)
  have hm : vle (m : Int) i a := abs_of (vge_mono a1 hl) (vle_mono a2 hh)
  have hg : vge (m : Int) i al := by
    rcases Nat.eq_zero_or_pos al with h0 | h0
    · subst h0; exact vge_nn (Int.le_refl _)
    rcases ha with h1 | h1 | h1
    · omega
    · have h2 := vge_mono a1 h1
      cases s with
      | false => exact h2
      | true =>
        have h3 := vge_iff.mp h2
        rw [sg, if_pos rfl, Int.neg_neg] at h3
        rcases vle_nn h3 with h | h
        · omega
        · exact h.elim
    · have h2 := vle_mono a2 h1
      cases s with
      | false =>
        rcases vle_nn (m := m) h2 with h | h
        · omega
        · exact h.elim
      | true =>
        rw [sg, if_pos rfl] at h2
        rw [vge_iff]
        exact h2
  have e : (s ^^ s) = false := by cases s <;> rfl
  rw [e] at g2
  refine ⟨g1, g2 ▸ rndI k false (m * m) (i + i) _ _ ?_ ht (vge_mul hg hg hb) (vle_mul hm hm hc)⟩
  have := tp_eq k
  have h0 : (0 : Int) < tp k := by rw [tp_eq]; exact_mod_cast Nat.two_pow_pos _
  omega
end

theorem quot_arith {m n a p c α β γ δ M ξ η : Nat} (h1 : m * α ≤ a * β) (h2 : p * δ ≤ n * γ) (hc : a * 65536 ≤ c * p) (e : M * ξ * (β * γ) = α * δ * 65536 * η) (hp : 0 < p) (hb : 0 < β * γ) : m * M * ξ ≤ c * n * η := by
  generalize 65536 = K at hc e
  refine Nat.le_of_mul_le_mul_right (c := p * (β * γ)) ?_ (Nat.mul_pos hp hb)
  have e1 : m * M * ξ * (p * (β * γ)) = m * p * (M * ξ * (β * γ)) := by ac_rfl
  have e2 : m * p * (α * δ * K * η) = (m * α) * (p * δ) * (K * η) := by ac_rfl
  have e3 : (a * β) * (n * γ) * (K * η) = (a * K) * (n * (β * γ) * η) := by ac_rfl
  have e4 : (c * p) * (n * (β * γ) * η) = c * n * η * (p * (β * γ)) := by ac_rfl
  rw [e1, e, e2]
  refine Nat.le_trans (Nat.mul_le_mul_right _ (Nat.mul_le_mul h1 h2)) ?_
  rw [e3, ← e4]
  exact Nat.mul_le_mul_right _ hc
theorem quot_le {d m n : Nat} {s t : Bool} {i j : Int} {a p c : Nat} (hm : vle (m : Int) i a) (hn : vge (n : Int) j p) (hp : 0 < p) (hc : a * 65536 ≤ c * p) (hd : c < 2 ^ (d - 1)) (hd1 : 1 ≤ d) :
    n ≠ 0 ∧ ∃ q mag place, (Datum.number s m i).quotient d (.number t n j) = some (.number q mag place) ∧ vle (mag : Int) place c := by
  have hn0 : n ≠ 0 := by
    intro h0
    subst h0
    unfold vge at hn
    have h1 : (0 : Int) < (p : Int) * 2 ^ (-(j + 16)).toNat := Int.mul_pos (by omega) (p2pos _)
    simp only [Int.natCast_zero, Int.zero_mul] at hn
    omega
  refine ⟨hn0, ?_⟩
  unfold Datum.quotient
  simp only [if_neg hn0]
  refine ⟨_, _, _, rfl, ?_⟩
  generalize hM : d + n.log2 - m.log2 = more
  generalize hP : i - j - (more : Int) - 1 = P
  have hnp : 0 < n := Nat.pos_of_ne_zero hn0
  -- the exact quotient, across
  rw [vle_exp (i + 16).toNat (-(i + 16)).toNat (by omega)] at hm
  rw [vge_exp (j + 16).toNat (-(j + 16)).toNat (by omega)] at hn
  have h1 : m * 2 ^ (i + 16).toNat ≤ a * 2 ^ (-(i + 16)).toNat := by exact_mod_cast hm
  have h2 : p * 2 ^ (-(j + 16)).toNat ≤ n * 2 ^ (j + 16).toNat := by exact_mod_cast hn
  have key : ∀ X Y : Nat, (X : Int) - Y = P + 17 → m * 2 ^ more * 2 ^ X ≤ c * n * 2 ^ Y := by
    intro X Y e
    refine quot_arith h1 h2 hc ?_ hp (Nat.mul_pos (Nat.two_pow_pos _) (Nat.two_pow_pos _))
    rw [show (65536 : Nat) = 2 ^ 16 from rfl, ← Nat.pow_add, ← Nat.pow_add, ← Nat.pow_add, ← Nat.pow_add, ← Nat.pow_add, ← Nat.pow_add]
    congr 1
    omega
  clear h1 h2
  rcases Int.lt_or_le P (-16) with hP1 | hP1
  · have h6 := key 0 (-17 - P).toNat (by omega)
    rw [Nat.pow_zero, Nat.mul_one] at h6
    obtain ⟨N, hN⟩ : ∃ N, N = c * 2 ^ (-17 - P).toNat := ⟨_, rfl⟩
    have h7 : m <<< more ≤ N * n := by
      rw [Nat.shiftLeft_eq, hN]
      refine Nat.le_trans h6 (Nat.le_of_eq ?_)
      ac_rfl
    refine vle_of_nat (by omega) ?_
    have e9 : (-16 - P).toNat = (-17 - P).toNat + 1 := by omega
    rw [e9, Nat.pow_succ, ← Nat.mul_assoc, ← hN]
    have hq : m <<< more / n ≤ N := by rw [Nat.div_le_iff_le_mul hnp]; omega
    have hbt : ∀ b : Bool, b.toNat ≤ 1 := by decide
    have hb1 := hbt (m <<< more % n != 0)
    rcases Nat.lt_or_ge (m <<< more / n) N with c1 | c1
    · omega
    · have e : m <<< more / n = N := by omega
      have hdm := Nat.div_add_mod (m <<< more) n
      rw [e, Nat.mul_comm] at hdm
      have h0 : m <<< more % n = 0 := by omega
      have hz : (m <<< more % n != 0).toNat = 0 := by rw [h0]; rfl
      omega
  · by_cases hm0 : m = 0
    · subst hm0
      have hz : 2 * (0 <<< more / n) + (0 <<< more % n != 0).toNat = 0 := by simp
      rw [hz]
      unfold vle
      simp only [Int.natCast_zero, Int.zero_mul]
      exact Int.mul_nonneg (by omega) (Int.le_of_lt (p2pos _))
    · exfalso
      have h6 := key (P + 17).toNat 0 (by omega)
      rw [Nat.pow_zero, Nat.mul_one] at h6
      have h8 : 2 ^ m.log2 ≤ m := Nat.log2_self_le hm0
      have h9 : n < 2 ^ (n.log2 + 1) := Nat.lt_log2_self
      have h10 : 2 ^ (d + n.log2) ≤ m * 2 ^ more := by
        refine Nat.le_trans ?_ (Nat.mul_le_mul_right _ h8)
        rw [← Nat.pow_add]
        exact Nat.pow_le_pow_right (by omega) (by omega)
      have h11 : m * 2 ^ more * 2 ≤ m * 2 ^ more * 2 ^ (P + 17).toNat := Nat.mul_le_mul_left _ (by
        have : 2 ^ 1 ≤ 2 ^ (P + 17).toNat := Nat.pow_le_pow_right (by omega) (by omega)
        simpa using this)
      have h12 : c * n < 2 ^ (d - 1) * 2 ^ (n.log2 + 1) := Nat.mul_lt_mul_of_lt_of_le hd (Nat.le_of_lt h9) (Nat.two_pow_pos _)
      rw [← Nat.pow_add, show d - 1 + (n.log2 + 1) = d + n.log2 by omega] at h12
      omega
theorem read_neg (k : FloatKind) (y : Nat) : k.format.read (fneg k y) = (k.format.read y).opposite := by
  have hs : k.format.signWeight = 2 ^ (k.format.exponentBits + k.format.fractionBits) := rfl
  have hx : fneg k y = y ^^^ k.format.signWeight := rfl
  have hp : 0 < 2 ^ (k.format.exponentBits + k.format.fractionBits) := Nat.two_pow_pos _
  have h1 : (y ^^^ k.format.signWeight) % k.format.signWeight = y % k.format.signWeight := by
    rw [hs, Nat.xor_mod_two_pow, Nat.mod_self, Nat.xor_zero]
  have h2 : ((y ^^^ k.format.signWeight) / k.format.signWeight % 2 == 1) = !(y / k.format.signWeight % 2 == 1) := by
    rw [hs, Nat.xor_div_two_pow, Nat.div_self hp]
    generalize y / 2 ^ (k.format.exponentBits + k.format.fractionBits) = z
    have e : (z ^^^ 1) % 2 = z % 2 ^^^ 1 := Nat.xor_mod_two_pow (a := z) (b := 1) (n := 1)
    rw [e]
    rcases Nat.mod_two_eq_zero_or_one z with h | h <;> rw [h] <;> rfl
  rw [hx]
  unfold Format.read
  simp only [h1, h2]
  split
  · rfl
  · split
    · rfl
    · split <;> rfl
theorem read_lt (f : Format) {y : Nat} {s : Bool} {m : Nat} {i : Int} (h : f.read y = .number s m i) : m < 2 ^ (f.fractionBits + 1) := by
  have hb := binade_pos f
  have e2 : (2 : Nat) ^ (f.fractionBits + 1) = 2 * f.binade := by rw [Nat.pow_succ, Nat.mul_comm]; rfl
  rw [e2]
  unfold Format.read at h
  simp only at h
  split at h
  · injection h with h1 h2 h3
    omega
  · split at h
    · injection h with h1 h2 h3
      have := Nat.mod_lt (y % f.signWeight) hb
      omega
    · split at h <;> cases h
theorem cv_I {s d : FloatKind} {lo hi : Int} {x : Nat} (hsd : s ≠ d) (hx : I s lo hi x) (hl : -tp d < lo) (hh : hi < tp d) : cvok s x d = true ∧ I d lo hi (cv s x d) := by
  obtain ⟨g, m, i, r1, r2, a1, a2⟩ := hx
  have hI := rndI d g m i lo hi hl hh a1 a2
  have hI2 := hI
  obtain ⟨g', m', i', r3, _⟩ := hI
  have h : floatToFloatBits s x d = some (d.encode (.number g m i)) := by
    unfold floatToFloatBits
    rw [if_neg hsd]
    unfold FloatKind.decode
    rw [r1]
    dsimp only
    have : d.format.read (d.encode (.number g m i)) = .number g' m' i' := r3
    rw [this]
    rfl
  unfold cvok cv
  rw [h]
  exact ⟨rfl, hI2⟩
theorem rootFrom_sq (n : Nat) : ∀ (t r : Nat), r * r ≤ n → Datum.rootFrom n t r * Datum.rootFrom n t r ≤ n
  | 0, _, h => h
  | t + 1, r, h => by
    unfold Datum.rootFrom
    simp only
    split
    · rename_i h1
      exact rootFrom_sq n t _ h1
    · exact rootFrom_sq n t r h
theorem sqrt_arith {m a c α β μ ζ : Nat} (h1 : m * α ≤ a * β) (hc : a * 65536 ≤ c * c) (e : ζ * (α * 65536) = μ * β) (hp : 0 < α) : m * μ ≤ c * c * ζ := by
  have hK : 0 < 65536 := by decide
  generalize 65536 = K at hc e hK
  refine Nat.le_of_mul_le_mul_right (c := α * K) ?_ (Nat.mul_pos hp hK)
  have e1 : m * μ * (α * K) = (m * α) * (μ * K) := by ac_rfl
  have e2 : a * β * (μ * K) = (a * K) * (μ * β) := by ac_rfl
  have e3 : c * c * ζ * (α * K) = c * c * (ζ * (α * K)) := by ac_rfl
  rw [e1, e3, e]
  refine Nat.le_trans (Nat.mul_le_mul_right _ h1) ?_
  rw [e2]
  exact Nat.mul_le_mul_right _ hc
theorem sqrt_I {a c : Nat} {x : Nat} (hx : I .f64 0 a x) (ha : (a : Int) < tp .f64) (hc : a * 65536 ≤ c * c) (ht : (c : Int) < tp .f64) : sqok x = true ∧ I .f64 0 c (sqv x) := by
  obtain ⟨s, m, i, r1, r2, a1, a2⟩ := hx
  have hlt := read_lt _ r1
  by_cases hm : m = 0
  · subst hm
    have hr : FloatKind.f64.format.sqrt x = some (FloatKind.f64.format.nearest s 0 i) := by
      unfold Format.sqrt
      rw [r1]
      rfl
    unfold sqok sqv
    rw [hr]
    have hz : sg s 0 = 0 := by cases s <;> rfl
    refine ⟨rfl, rndI .f64 s 0 i 0 c (by decide) ht ?_ ?_⟩
    · rw [hz]; exact vge_nn (m := 0) (Int.le_refl _)
    · rw [hz]
      unfold vle
      rw [Int.zero_mul]
      exact Int.mul_nonneg (by omega) (Int.le_of_lt (p2pos _))
  · have hs : s = false := by
      cases s with
      | false => rfl
      | true =>
        exfalso
        have h3 := vge_iff.mp a1
        rw [sg, if_pos rfl, Int.neg_neg, Int.neg_zero] at h3
        unfold vle at h3
        rw [Int.zero_mul] at h3
        have : 0 < (m : Int) * 2 ^ (i + 16).toNat := Int.mul_pos (by omega) (p2pos _)
        omega
    subst hs
    simp only [sg, Bool.false_eq_true, if_false] at a2
    have hab : a < 2 ^ (52 + 1) := by
      have : tp .f64 = ((2 ^ (52 + 1) : Nat) : Int) := rfl
      rw [this] at ha
      exact_mod_cast ha
    have hlog := vle_log hm hab a2
    have hl2 : m.log2 < 53 := by
      rw [Nat.log2_lt hm]
      exact hlt
    obtain ⟨more, hmore⟩ : ∃ more, more = 2 * (52 + 2) - m.log2 + ((i - ((2 * (52 + 2) - m.log2 : Nat) : Int)) % 2).toNat := ⟨_, rfl⟩
    obtain ⟨w, hw⟩ : ∃ w, w = Datum.rootFrom (m <<< more) ((m <<< more).log2 / 2 + 1) 0 := ⟨_, rfl⟩
    obtain ⟨P, hP⟩ : ∃ P, P = (i - (more : Int)) / 2 - 1 := ⟨_, rfl⟩
    have hr : FloatKind.f64.format.sqrt x = some (FloatKind.f64.format.nearest false (2 * w + (w * w != m <<< more).toNat) P) := by
      unfold Format.sqrt
      rw [r1]
      show Option.map _ ((Datum.number false m i).root (52 + 2)) = _
      unfold Datum.root
      simp only [if_neg hm, Bool.false_eq_true, if_false]
      rw [← hmore, ← hw, ← hP]
      rfl
    have hww : w * w ≤ m <<< more := by rw [hw]; exact rootFrom_sq _ _ 0 (Nat.zero_le _)
    have hpar : 2 * (P + 1) = i - (more : Int) := by omega
    have hP2 : P ≤ -17 := by omega
    unfold sqok sqv
    rw [hr]
    obtain ⟨N, hN⟩ : ∃ N, N = c * 2 ^ (-17 - P).toNat := ⟨_, rfl⟩
    have hn : m <<< more ≤ N * N := by
      rw [vle_exp (i + 16).toNat (-(i + 16)).toNat (by omega)] at a2
      have h1 : m * 2 ^ (i + 16).toNat ≤ a * 2 ^ (-(i + 16)).toNat := by exact_mod_cast a2
      have e1 : N * N = c * c * (2 ^ (-17 - P).toNat * 2 ^ (-17 - P).toNat) := by rw [hN]; ac_rfl
      rw [e1, ← Nat.pow_add, Nat.shiftLeft_eq]
      refine sqrt_arith h1 hc ?_ (Nat.two_pow_pos _)
      rw [show (65536 : Nat) = 2 ^ 16 from rfl, ← Nat.pow_add, ← Nat.pow_add, ← Nat.pow_add]
      congr 1
      omega
    have hwN : 2 * w + (w * w != m <<< more).toNat ≤ 2 * N := by
      have hle : w ≤ N := by
        rcases Nat.lt_or_ge N w with h | h
        · have := Nat.mul_lt_mul'' h h
          omega
        · exact h
      have hbt : ∀ b : Bool, b.toNat ≤ 1 := by decide
      have hb1 := hbt (w * w != m <<< more)
      rcases Nat.lt_or_ge w N with h | h
      · omega
      · have e : w = N := by omega
        have h0 : (w * w != m <<< more) = false := by
          have : w * w = m <<< more := Nat.le_antisymm hww (by rw [e]; exact hn)
          simp [this]
        rw [h0]
        show 2 * w + 0 ≤ _
        omega
    refine ⟨rfl, rndI .f64 false _ P 0 c (by decide) ht (vge_nn (Int.le_refl _)) ?_⟩
    simp only [sg, Bool.false_eq_true, if_false]
    refine vle_of_nat (by omega) ?_
    have e9 : (-16 - P).toNat = (-17 - P).toNat + 1 := by omega
    rw [e9, Nat.pow_succ, ← Nat.mul_assoc, ← hN]
    omega
section
variable {k : FloatKind} {a c : Nat} {x y : Nat}
theorem quo_I {pl ph : Nat} (hx : I k (-(a : Int)) a x) (hy : I k pl ph y) (hp : 0 < pl) (hc : a * 65536 ≤ c * pl) (ht : (c : Int) < tp k) : fok .quo k x y = true ∧ I k (-(c : Int)) c (fv .quo k x y) := by
  obtain ⟨s, m, i, r1, _, a1, a2⟩ := hx
  obtain ⟨t, n, j, r2, _, b1, b2⟩ := hy
  have hb : vge (n : Int) j pl := by
    cases t with
    | false => exact b1
    | true =>
      have h3 := vge_iff.mp b1
      rw [sg, if_pos rfl, Int.neg_neg] at h3
      rcases vle_nn h3 with h | h
      · omega
      · exact h.elim
  have hct : c < 2 ^ (k.format.fractionBits + 2 - 1) := by
    have := tp_eq k
    have h2 : (c : Int) < ((2 ^ (k.format.fractionBits + 1) : Nat) : Int) := by rw [← this]; exact ht
    exact_mod_cast h2
  obtain ⟨_, q, mag, place, e, h⟩ := quot_le (d := k.format.fractionBits + 2) (s := s) (t := t) (abs_of a1 a2) hb hp hc hct (by omega)
  obtain ⟨g1, g2⟩ := fok_some (op := .quo) (k := k) (x := x) (y := y) (r := k.format.nearest q mag place) (by
    show k.format.div x y = _
    unfold Format.div
    rw [r1, r2, e]
    rfl)
  obtain ⟨q1, q2⟩ := of_abs (s := q) h
  exact ⟨g1, g2 ▸ rndI k _ _ _ _ _ (by omega) ht q1 q2⟩
theorem neg_I {l h : Int} (hx : I k l h x) : I k (-h) (-l) (fneg k x) := by
  obtain ⟨s, m, i, r1, r2, a1, a2⟩ := hx
  refine ⟨!s, m, i, ?_, r2, ?_, ?_⟩
  · rw [read_neg, r1]
    rfl
  · rw [sg_not, vge_iff, Int.neg_neg, Int.neg_neg]; exact a2
  · rw [sg_not]; exact vge_iff.mp a1
end
end Go.Proofs.Ytcgpomicgbmdlaa.Gr
