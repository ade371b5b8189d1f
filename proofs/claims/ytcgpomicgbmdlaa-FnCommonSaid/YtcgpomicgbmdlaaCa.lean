/- Bounds of float operations, and of the feeder that FnCommon draws; conditions: as each lemma states them. -/
import Derived.Test.YtcgpomicgbmdlaaFl
import Derived.Test.YtcgpomicgbmdlaaPFnCommonm6
import Derived.Test.YtcgpomicgbmdlaaPFnCommonm5
import Derived.Test.YtcgpomicgbmdlaaPFnCommonm1
import Derived.Test.YtcgpomicgbmdlaaPFnCommonm7
import Derived.Test.YtcgpomicgbmdlaaPFnCommonm8
import Derived.Laws.BitsLemmas
import Derived.Test.YtcgpomicgbmdlaaPFnCommonm2
namespace Go.Proofs.Ytcgpomicgbmdlaa.Bd
open Go Ieee

/-- A word's rung is below 'n' binades (so its number is below a power of two). -/
def Bd (f : Format) (n x : Nat) : Prop := x % f.signWeight < n * f.binade
/-- Nought of either sign. -/
def Zr (f : Format) (x : Nat) : Prop := x = 0 ∨ x = f.signWeight

theorem Bd.mono {f : Format} {n m x : Nat} (h : Bd f n x) (hm : n ≤ m) : Bd f m x := Nat.lt_of_lt_of_le h (Nat.mul_le_mul_right _ hm)
theorem binade_pos (f : Format) : 0 < f.binade := Nat.two_pow_pos _
theorem Bd.pos {f : Format} {n x : Nat} (h : Bd f n x) : 1 ≤ n := by
  rcases Nat.eq_zero_or_pos n with rfl | hp
  · simp [Bd] at h
  · exact hp

/-- What a bounded word stands for. -/
theorem read_bd {f : Format} {n x : Nat} (hn : n ≤ 2 ^ f.exponentBits - 1) (h : Bd f n x) :
    ∃ s m i, f.read x = .number s m i ∧ f.leastPlace ≤ i ∧ (m ≠ 0 → i + (m.log2 : Int) ≤ f.leastPlace + f.fractionBits + n - 2) := by
  have hb := binade_pos f
  have h1 := h.pos
  unfold Bd at h
  unfold Format.read
  simp only
  by_cases c : x % f.signWeight < f.binade
  · rw [if_pos c]
    refine ⟨_, _, _, rfl, Int.le_refl _, fun hm => ?_⟩
    have := (Nat.log2_lt hm (k := f.fractionBits)).mpr c
    omega
  · rw [if_neg c]
    have hi : x % f.signWeight < f.infRung := Nat.lt_of_lt_of_le h (Nat.mul_le_mul_right _ hn)
    rw [if_pos hi]
    refine ⟨_, _, _, rfl, by omega, fun hm => ?_⟩
    have hq : x % f.signWeight / f.binade < n := by rw [Nat.div_lt_iff_lt_mul hb]; exact h
    have hq1 : 1 ≤ x % f.signWeight / f.binade := by rw [Nat.le_div_iff_mul_le hb]; omega
    have hr := Nat.mod_lt (x % f.signWeight) hb
    have hl : (f.binade + x % f.signWeight % f.binade).log2 < f.fractionBits + 1 := by
      rw [Nat.log2_lt hm, Nat.pow_succ]
      show _ < f.binade * 2
      omega
    omega

theorem infRung_lt (f : Format) : f.infRung < f.signWeight := by
  unfold Format.infRung Format.signWeight Format.binade
  rw [Nat.pow_add, Nat.sub_mul]
  have := Nat.two_pow_pos f.fractionBits
  have := Nat.two_pow_pos f.exponentBits
  have : 0 < 2 ^ f.exponentBits * 2 ^ f.fractionBits := Nat.mul_pos ‹_› ‹_›
  omega

theorem word_mod (f : Format) (neg : Bool) (r : Nat) (h : r ≤ f.infRung) : f.word neg r % f.signWeight = r := by
  have := infRung_lt f
  unfold Format.word
  cases neg <;> simp [Nat.mod_eq_of_lt (Nat.lt_of_le_of_lt h this)]

theorem cut_le (neg : Bool) (n d fb : Nat) (h : n < 2 ^ (fb + 1 + d)) : Toward.even.cut neg n d ≤ 2 ^ (fb + 1) := by
  unfold Toward.cut
  simp only [Nat.one_shiftLeft]
  have hp := Nat.two_pow_pos (fb + 1)
  by_cases c : d ≤ n.log2 + 2
  · rw [Nat.min_eq_left c]
    have hq : n / 2 ^ d < 2 ^ (fb + 1) := by
      rw [Nat.div_lt_iff_lt_mul (Nat.two_pow_pos d), ← Nat.pow_add]
      exact h
    have : ∀ b : Bool, b.toNat ≤ 1 := by decide
    have := this (decide (2 ^ d < 2 * (n % 2 ^ d)) || (2 ^ d == 2 * (n % 2 ^ d) && n / 2 ^ d % 2 == 1))
    omega
  · rw [Nat.min_eq_right (by omega)]
    have hlt : n < 2 ^ (n.log2 + 2) := by
      rcases Nat.eq_zero_or_pos n with rfl | hp
      · exact Nat.two_pow_pos _
      · exact (Nat.log2_lt (by omega)).mp (by omega)
    rw [Nat.div_eq_of_lt hlt]
    have : ∀ b : Bool, b.toNat ≤ 1 := by decide
    have := this (decide (2 ^ (n.log2 + 2) < 2 * (n % 2 ^ (n.log2 + 2))) || (2 ^ (n.log2 + 2) == 2 * (n % 2 ^ (n.log2 + 2)) && 0 % 2 == 1))
    omega

theorem cut_zero (neg : Bool) (n : Nat) : Toward.even.cut neg n 0 = n := by
  unfold Toward.cut
  simp [Nat.mod_one]

/-- What is written of a bounded number. -/
theorem write_bd {f : Format} {neg : Bool} {mag : Nat} {place e : Int} {N : Nat} (h : mag ≠ 0 → place + (mag.log2 : Int) ≤ e) (hN : (e - f.fractionBits - f.leastPlace).toNat + 3 ≤ N) :
    Bd f N (f.nearest neg mag place) := by
  have hb := binade_pos f
  unfold Bd Format.nearest
  by_cases hm : mag = 0
  · rw [if_pos hm, word_mod _ _ _ (Nat.zero_le _)]
    exact Nat.mul_pos (by omega) hb
  · rw [if_neg hm]
    simp only
    generalize hl : max (place + (mag.log2 : Int) - f.fractionBits) f.leastPlace = last
    have hk : Toward.even.cut neg (mag <<< (place - last).toNat) (last - place).toNat ≤ 2 ^ (f.fractionBits + 1) := by
      by_cases c : last ≤ place
      · have h0 : (last - place).toNat = 0 := by omega
        rw [h0, cut_zero, Nat.shiftLeft_eq]
        have h1 : mag < 2 ^ (mag.log2 + 1) := Nat.lt_log2_self
        have h2 : mag.log2 + 1 + (place - last).toNat ≤ f.fractionBits + 1 := by omega
        have h3 : mag * 2 ^ (place - last).toNat < 2 ^ (mag.log2 + 1) * 2 ^ (place - last).toNat := Nat.mul_lt_mul_of_pos_right h1 (Nat.two_pow_pos _)
        rw [← Nat.pow_add] at h3
        exact Nat.le_of_lt (Nat.lt_of_lt_of_le h3 (Nat.pow_le_pow_right (by omega) h2))
      · have h0 : (place - last).toNat = 0 := by omega
        rw [h0, Nat.shiftLeft_zero]
        refine cut_le _ _ _ _ ?_
        have h1 : mag < 2 ^ (mag.log2 + 1) := Nat.lt_log2_self
        exact Nat.lt_of_lt_of_le h1 (Nat.pow_le_pow_right (by omega) (by omega))
    rw [word_mod _ _ _ (Nat.min_le_right _ _)]
    refine Nat.lt_of_le_of_lt (Nat.min_le_left _ _) ?_
    have h2 : (2 : Nat) ^ (f.fractionBits + 1) = 2 * f.binade := by rw [Nat.pow_succ, Nat.mul_comm]; rfl
    have hT : (last - f.leastPlace).toNat + 3 ≤ N := by have := h hm; omega
    have h3 : ((last - f.leastPlace).toNat + 3) * f.binade ≤ N * f.binade := Nat.mul_le_mul_right _ hT
    rw [Nat.add_mul] at h3
    omega

theorem log2_shift {m u : Nat} (_ : m ≠ 0) : m <<< u < 2 ^ (m.log2 + 1 + u) := by
  rw [Nat.shiftLeft_eq, Nat.pow_add]
  exact Nat.mul_lt_mul_of_pos_right Nat.lt_log2_self (Nat.two_pow_pos _)

theorem signed_abs (s : Bool) (m u : Nat) : (signed s m u).natAbs = m <<< u := by
  unfold signed
  split
  · rw [Int.natAbs_neg, Int.natAbs_natCast]
  · rw [Int.natAbs_natCast]
/-- The sum of two bounded numbers. -/
theorem sum_bd {s t : Bool} {m n : Nat} {i j e : Int} (h1 : m ≠ 0 → i + (m.log2 : Int) ≤ e) (h2 : n ≠ 0 → j + (n.log2 : Int) ≤ e) :
    ∃ q mag place, (Datum.number s m i).sum (.number t n j) = some (.number q mag place) ∧ (mag ≠ 0 → place + (mag.log2 : Int) ≤ e + 1) := by
  refine ⟨_, _, _, rfl, fun h0 => ?_⟩
  generalize hB : min i j = base at h0 ⊢
  have a1 : (signed s m (i - base).toNat).natAbs = m <<< (i - base).toNat := signed_abs _ _ _
  have a2 : (signed t n (j - base).toNat).natAbs = n <<< (j - base).toNat := signed_abs _ _ _
  have a3 := Int.natAbs_add_le (signed s m (i - base).toNat) (signed t n (j - base).toNat)
  rw [a1, a2] at a3
  have hle : base ≤ e := by
    by_cases c : m = 0
    · by_cases c2 : n = 0
      · subst c c2
        simp at a3
        omega
      · have := h2 c2; omega
    · have := h1 c; omega
  have p1 : m <<< (i - base).toNat < 2 ^ ((e - base).toNat + 1) := by
    by_cases c : m = 0
    · subst c; rw [Nat.zero_shiftLeft]; exact Nat.two_pow_pos _
    · have := h1 c
      exact Nat.lt_of_lt_of_le (log2_shift c) (Nat.pow_le_pow_right (by omega) (by omega))
  have p2 : n <<< (j - base).toNat < 2 ^ ((e - base).toNat + 1) := by
    by_cases c : n = 0
    · subst c; rw [Nat.zero_shiftLeft]; exact Nat.two_pow_pos _
    · have := h2 c
      exact Nat.lt_of_lt_of_le (log2_shift c) (Nat.pow_le_pow_right (by omega) (by omega))
  have p3 : (signed s m (i - base).toNat + signed t n (j - base).toNat).natAbs < 2 ^ ((e - base).toNat + 1 + 1) := by
    rw [Nat.pow_succ]; omega
  have := (Nat.log2_lt h0).mpr p3
  omega

/-- The product of two bounded numbers. -/
theorem prod_bd {s t : Bool} {m n : Nat} {i j e e' : Int} (h1 : m ≠ 0 → i + (m.log2 : Int) ≤ e) (h2 : n ≠ 0 → j + (n.log2 : Int) ≤ e') :
    ∃ q mag place, (Datum.number s m i).product (.number t n j) = some (.number q mag place) ∧ (mag ≠ 0 → place + (mag.log2 : Int) ≤ e + e' + 1) := by
  refine ⟨_, _, _, rfl, fun h0 => ?_⟩
  have c : m ≠ 0 := fun c => h0 (by rw [c, Nat.zero_mul])
  have c2 : n ≠ 0 := fun c => h0 (by rw [c, Nat.mul_zero])
  have q1 := h1 c
  have q2 := h2 c2
  have p : m * n < 2 ^ (m.log2 + 1 + (n.log2 + 1)) := by
    rw [Nat.pow_add]
    exact Nat.mul_lt_mul_of_lt_of_le Nat.lt_log2_self (Nat.le_of_lt Nat.lt_log2_self) (Nat.two_pow_pos _)
  have := (Nat.log2_lt h0).mpr p
  omega

/-- The quotient of a bounded number and one that is bounded from below. -/
theorem quot_bd {d : Nat} {s t : Bool} {m n : Nat} {i j e l : Int} (h1 : m ≠ 0 → i + (m.log2 : Int) ≤ e) (hn : n ≠ 0) (h2 : l ≤ j + (n.log2 : Int)) :
    ∃ q mag place, (Datum.number s m i).quotient d (.number t n j) = some (.number q mag place) ∧ (mag ≠ 0 → place + (mag.log2 : Int) ≤ e - l) := by
  unfold Datum.quotient
  simp only [if_neg hn]
  refine ⟨_, _, _, rfl, fun h0 => ?_⟩
  generalize hM : d + n.log2 - m.log2 = more at h0 ⊢
  by_cases c : m = 0
  · subst c
    rw [Nat.zero_shiftLeft, Nat.zero_div, Nat.zero_mod] at h0
    exact absurd rfl h0
  · have q1 := h1 c
    have p1 := log2_shift (u := more) c
    have p2 : 2 ^ n.log2 ≤ n := Nat.log2_self_le hn
    have p3 : m <<< more / n < 2 ^ (m.log2 + 1 + more - n.log2) := by
      rw [Nat.div_lt_iff_lt_mul (by omega)]
      refine Nat.lt_of_lt_of_le p1 ?_
      have p4 : (2 : Nat) ^ (m.log2 + 1 + more) = 2 ^ (m.log2 + 1 + more - n.log2) * 2 ^ n.log2 := by
        rw [← Nat.pow_add]
        congr 1
        omega
      rw [p4]
      exact Nat.mul_le_mul_left _ p2
    have p5 : 2 * (m <<< more / n) + (m <<< more % n != 0).toNat < 2 ^ (m.log2 + 1 + more - n.log2 + 1) := by
      rw [Nat.pow_succ]
      have : ∀ b : Bool, b.toNat ≤ 1 := by decide
      have := this (m <<< more % n != 0)
      omega
    have := (Nat.log2_lt h0).mpr p5
    omega

section ops
variable {f : Format} {n m x y : Nat}
theorem add_bd (hx : Bd f n x) (hy : Bd f m y) (hn : n ≤ 2 ^ f.exponentBits - 1) (hm : m ≤ 2 ^ f.exponentBits - 1) : ∃ r, f.add x y = some r ∧ Bd f (max n m + 2) r := by
  obtain ⟨s, a, i, h1, _, h2⟩ := read_bd hn hx
  obtain ⟨t, b, j, h3, _, h4⟩ := read_bd hm hy
  have := hx.pos
  have := hy.pos
  obtain ⟨q, mag, place, h5, h6⟩ := sum_bd (s := s) (t := t) (m := a) (n := b) (i := i) (j := j) (e := f.leastPlace + f.fractionBits + (max n m : Nat) - 2) (fun h => by have := h2 h; omega) (fun h => by have := h4 h; omega)
  refine ⟨f.nearest q mag place, ?_, ?_⟩
  · unfold Format.add
    rw [h1, h3, h5]
    rfl
  · exact write_bd h6 (by omega)
theorem sub_bd (hx : Bd f n x) (hy : Bd f m y) (hn : n ≤ 2 ^ f.exponentBits - 1) (hm : m ≤ 2 ^ f.exponentBits - 1) : ∃ r, f.sub x y = some r ∧ Bd f (max n m + 2) r := by
  obtain ⟨s, a, i, h1, _, h2⟩ := read_bd hn hx
  obtain ⟨t, b, j, h3, _, h4⟩ := read_bd hm hy
  have := hx.pos
  have := hy.pos
  obtain ⟨q, mag, place, h5, h6⟩ := sum_bd (s := s) (t := !t) (m := a) (n := b) (i := i) (j := j) (e := f.leastPlace + f.fractionBits + (max n m : Nat) - 2) (fun h => by have := h2 h; omega) (fun h => by have := h4 h; omega)
  refine ⟨f.nearest q mag place, ?_, ?_⟩
  · unfold Format.sub
    rw [h1, h3]
    show Option.map f.write ((Datum.number s a i).sum (.number (!t) b j)) = _
    rw [h5]
    rfl
  · exact write_bd h6 (by omega)
theorem mul_bd (hx : Bd f n x) (hy : Bd f m y) (hn : n ≤ 2 ^ f.exponentBits - 1) (hm : m ≤ 2 ^ f.exponentBits - 1) : ∃ r, f.mul x y = some r ∧ Bd f ((f.leastPlace + f.fractionBits + n + m - 3).toNat + 3) r := by
  obtain ⟨s, a, i, h1, _, h2⟩ := read_bd hn hx
  obtain ⟨t, b, j, h3, _, h4⟩ := read_bd hm hy
  obtain ⟨q, mag, place, h5, h6⟩ := prod_bd (s := s) (t := t) h2 h4
  refine ⟨f.nearest q mag place, ?_, ?_⟩
  · unfold Format.mul
    rw [h1, h3, h5]
    rfl
  · exact write_bd h6 (by omega)
/-- A word whose rung is at or above 'c' binades, and finite. -/
def Lo (f : Format) (c x : Nat) : Prop := c * f.binade ≤ x % f.signWeight ∧ x % f.signWeight < f.infRung
theorem read_lo {c : Nat} (hc : 1 ≤ c) (h : Lo f c x) : ∃ s m i, f.read x = .number s m i ∧ m ≠ 0 ∧ f.leastPlace + f.fractionBits + c - 1 ≤ i + (m.log2 : Int) := by
  have hb := binade_pos f
  obtain ⟨h1, h2⟩ := h
  unfold Format.read
  simp only
  have h3 : 1 * f.binade ≤ c * f.binade := Nat.mul_le_mul_right _ hc
  rw [if_neg (by omega), if_pos h2]
  refine ⟨_, _, _, rfl, by omega, ?_⟩
  have hq : c ≤ x % f.signWeight / f.binade := by rw [Nat.le_div_iff_mul_le hb]; exact h1
  have hl : f.fractionBits ≤ (f.binade + x % f.signWeight % f.binade).log2 := by
    rw [Nat.le_log2 (by omega)]
    show f.binade ≤ _
    omega
  omega
theorem div_bd {c : Nat} (hx : Bd f n x) (hn : n ≤ 2 ^ f.exponentBits - 1) (hc : 1 ≤ c) (hy : Lo f c y) : ∃ r, f.div x y = some r ∧ Bd f (((n : Int) - c - 1 - f.fractionBits - f.leastPlace).toNat + 3) r := by
  obtain ⟨s, a, i, h1, _, h2⟩ := read_bd hn hx
  obtain ⟨t, b, j, h3, h4, h5⟩ := read_lo hc hy
  obtain ⟨q, mag, place, h6, h7⟩ := quot_bd (d := f.fractionBits + 2) (s := s) (t := t) h2 h4 h5
  refine ⟨f.nearest q mag place, ?_, ?_⟩
  · unfold Format.div
    rw [h1, h3, h6]
    rfl
  · exact write_bd h7 (by omega)
/-- A bounded number is equal to itself. -/
theorem order_self (hx : Bd f n x) (hn : n ≤ 2 ^ f.exponentBits - 1) : f.order x x = some .eq := by
  obtain ⟨s, a, i, h1, _, h2⟩ := read_bd hn hx
  unfold Format.order
  rw [h1]
  show some (compare _ _) = _
  simp
end ops

/-! ### the two kinds: what the tests of the printed functions ask -/
open Go.Proofs.YtcgpomicgbmdlaaW.PrintWords
/-- Bounded words of a kind. -/
def B (k : FloatKind) (n x : Nat) : Prop := Bd k.format n x
instance (k : FloatKind) (n x : Nat) : Decidable (B k n x) := inferInstanceAs (Decidable (_ < _))
def top : FloatKind → Nat | .f32 => 255 | .f64 => 2047
theorem top_eq (k : FloatKind) : top k = 2 ^ k.format.exponentBits - 1 := by cases k <;> rfl
section
variable {k : FloatKind} {n m x y : Nat}
theorem B.mono (h : B k n x) (hm : n ≤ m) : B k m x := Bd.mono h hm
theorem fok_some {op : BinOp} {r : Nat} (h : floatBits op k x y = some r) : fok op k x y = true ∧ fv op k x y = r := by
  unfold fok fv
  rw [h]
  exact ⟨rfl, rfl⟩
theorem add_B (hx : B k n x) (hy : B k m y) (hn : n ≤ top k) (hm : m ≤ top k) : fok .add k x y = true ∧ B k (max n m + 2) (fv .add k x y) := by
  rw [top_eq] at hn hm
  obtain ⟨r, h, hb⟩ := add_bd hx hy hn hm
  obtain ⟨h1, h2⟩ := fok_some (op := .add) h
  exact ⟨h1, h2 ▸ hb⟩
theorem sub_B (hx : B k n x) (hy : B k m y) (hn : n ≤ top k) (hm : m ≤ top k) : fok .sub k x y = true ∧ B k (max n m + 2) (fv .sub k x y) := by
  rw [top_eq] at hn hm
  obtain ⟨r, h, hb⟩ := sub_bd hx hy hn hm
  obtain ⟨h1, h2⟩ := fok_some (op := .sub) h
  exact ⟨h1, h2 ▸ hb⟩
theorem mul_B64 (hx : B .f64 n x) (hy : B .f64 m y) (hn : n ≤ 2047) (hm : m ≤ 2047) : fok .mul .f64 x y = true ∧ B .f64 (n + m - 1025 + 3) (fv .mul .f64 x y) := by
  obtain ⟨r, h, hb⟩ := mul_bd hx hy hn hm
  obtain ⟨h1, h2⟩ := fok_some (op := .mul) h
  refine ⟨h1, h2 ▸ Bd.mono hb ?_⟩
  show ((-1074 : Int) + 52 + n + m - 3).toNat + 3 ≤ _
  omega
theorem mul_B32 (hx : B .f32 n x) (hy : B .f32 m y) (hn : n ≤ 255) (hm : m ≤ 255) : fok .mul .f32 x y = true ∧ B .f32 (n + m - 129 + 3) (fv .mul .f32 x y) := by
  obtain ⟨r, h, hb⟩ := mul_bd hx hy hn hm
  obtain ⟨h1, h2⟩ := fok_some (op := .mul) h
  refine ⟨h1, h2 ▸ Bd.mono hb ?_⟩
  show ((-149 : Int) + 23 + n + m - 3).toNat + 3 ≤ _
  omega
def Lw (k : FloatKind) (c x : Nat) : Prop := Lo k.format c x
instance (k : FloatKind) (n x : Nat) : Decidable (Lw k n x) := inferInstanceAs (Decidable (_ ∧ _))
theorem quo_B64 {c : Nat} (hx : B .f64 n x) (hy : Lw .f64 c y) (hn : n ≤ 2047) (hc : 1 ≤ c) : fok .quo .f64 x y = true ∧ B .f64 (n + 1021 - c + 3) (fv .quo .f64 x y) := by
  obtain ⟨r, h, hb⟩ := div_bd hx hn hc hy
  obtain ⟨h1, h2⟩ := fok_some (op := .quo) h
  refine ⟨h1, h2 ▸ Bd.mono hb ?_⟩
  show ((n : Int) - c - 1 - 52 - -1074).toNat + 3 ≤ _
  omega
theorem widen_B (hx : B .f32 n x) (hn : n ≤ 255) : cvok .f32 x .f64 = true ∧ B .f64 (n + 897) (cv .f32 x .f64) := by
  obtain ⟨s, a, i, h1, _, h2⟩ := read_bd (f := FloatKind.f32.format) hn hx
  have hw : B .f64 (n + 897) (FloatKind.f64.encode (.number s a i)) := by
    refine write_bd h2 ?_
    show ((-149 : Int) + 23 + n - 2 - 52 - -1074).toNat + 3 ≤ _
    omega
  have hw0 := hw
  have hx0 := hx.pos
  obtain ⟨s', a', i', h3, _, _⟩ := read_bd (f := FloatKind.f64.format) (by show _ ≤ 2047; omega) hw
  have h : floatToFloatBits .f32 x .f64 = some (FloatKind.f64.encode (.number s a i)) := by
    unfold floatToFloatBits
    rw [if_neg (by decide)]
    unfold FloatKind.decode
    rw [h1]
    dsimp only
    rw [h3]
    rfl
  unfold cvok cv
  rw [h]
  exact ⟨rfl, hw0⟩
theorem narrow_B (hx : B .f64 n x) (hn : n ≤ 1149) : cvok .f64 x .f32 = true ∧ B .f32 (n - 898 + 3) (cv .f64 x .f32) := by
  obtain ⟨s, a, i, h1, _, h2⟩ := read_bd (f := FloatKind.f64.format) (by show _ ≤ 2047; omega) hx
  have hw : B .f32 (n - 898 + 3) (FloatKind.f32.encode (.number s a i)) := by
    refine write_bd h2 ?_
    show ((-1074 : Int) + 52 + n - 2 - 23 - -149).toNat + 3 ≤ _
    omega
  have hw0 := hw
  obtain ⟨s', a', i', h3, _, _⟩ := read_bd (f := FloatKind.f32.format) (by show _ ≤ 255; omega) hw
  have h : floatToFloatBits .f64 x .f32 = some (FloatKind.f32.encode (.number s a i)) := by
    unfold floatToFloatBits
    rw [if_neg (by decide)]
    unfold FloatKind.decode
    rw [h1]
    dsimp only
    rw [h3]
    rfl
  unfold cvok cv
  rw [h]
  exact ⟨rfl, hw0⟩
theorem order_B (hx : B k n x) (hn : n ≤ top k) : k.format.order x x = some .eq := order_self hx (top_eq k ▸ hn)
theorem fne_self (hx : B k n x) (hn : n ≤ top k) : fne k x x = false := by
  unfold fne
  rw [order_B hx hn]
  rfl
/-- 'x - x' is +0. -/
theorem sub_self_B (hx : B k n x) (hn : n ≤ top k) : fok .sub k x x = true ∧ fv .sub k x x = 0 := by
  obtain ⟨s, a, i, h1, _, h2⟩ := read_bd (f := k.format) (top_eq k ▸ hn) hx
  refine fok_some (op := .sub) ?_
  show k.format.sub x x = some 0
  unfold Format.sub
  rw [h1]
  have h3 : (Datum.number s a i).opposite = .number (!s) a i := rfl
  rw [h3]
  unfold Datum.sum
  have h4 : signed s a (i - min i i).toNat + signed (!s) a (i - min i i).toNat = 0 := by
    unfold signed
    cases s <;> simp <;> omega
  simp only [h4]
  cases s <;> rfl
theorem zero_B (k : FloatKind) : B k 1 0 := by cases k <;> decide
end
/-- Nought of either sign, of a kind. -/
def Z (k : FloatKind) (x : Nat) : Prop := ∃ s, x = k.format.word s 0
theorem Z.B {k : FloatKind} {x : Nat} (h : Z k x) : B k 1 x := by
  obtain ⟨s, rfl⟩ := h
  cases k <;> cases s <;> decide
theorem Z.read {k : FloatKind} {x : Nat} (h : Z k x) : ∃ s, k.format.read x = .number s 0 k.format.leastPlace := by
  obtain ⟨s, rfl⟩ := h
  cases k <;> cases s <;> exact ⟨_, rfl⟩
theorem Z0 (k : FloatKind) : Z k 0 := ⟨false, rfl⟩
section
variable {k : FloatKind} {n x y : Nat}
theorem mul_Z (hx : Z k x) (hy : Bd.B k n y) (hn : n ≤ top k) : fok .mul k x y = true ∧ Z k (fv .mul k x y) := by
  obtain ⟨s, h1⟩ := hx.read
  obtain ⟨t, b, j, h2, _, _⟩ := read_bd (f := k.format) (top_eq k ▸ hn) hy
  obtain ⟨h3, h4⟩ := fok_some (op := .mul) (k := k) (x := x) (y := y) (r := k.format.word (s ^^ t) 0) (by
    show k.format.mul x y = _
    unfold Format.mul
    rw [h1, h2]
    show some (k.format.nearest (s ^^ t) (0 * b) _) = _
    rw [Nat.zero_mul]
    rfl)
  exact ⟨h3, _, h4⟩
theorem add_Z (hx : Z k x) (hy : Z k y) : fok .add k x y = true ∧ Z k (fv .add k x y) := by
  obtain ⟨s, rfl⟩ := hx
  obtain ⟨t, rfl⟩ := hy
  cases k <;> cases s <;> cases t <;> refine ⟨rfl, ?_⟩ <;> first | exact ⟨false, rfl⟩ | exact ⟨true, rfl⟩
theorem sub_Z (hx : Z k x) (hy : Z k y) : fok .sub k x y = true ∧ Z k (fv .sub k x y) := by
  obtain ⟨s, rfl⟩ := hx
  obtain ⟨t, rfl⟩ := hy
  cases k <;> cases s <;> cases t <;> refine ⟨rfl, ?_⟩ <;> first | exact ⟨false, rfl⟩ | exact ⟨true, rfl⟩
theorem narrow_Z (hx : Z .f64 x) : cvok .f64 x .f32 = true ∧ Z .f32 (cv .f64 x .f32) := by
  obtain ⟨s, rfl⟩ := hx
  cases s <;> refine ⟨rfl, ?_⟩ <;> first | exact ⟨false, rfl⟩ | exact ⟨true, rfl⟩
theorem widen_Z (hx : Z .f32 x) : cvok .f32 x .f64 = true ∧ Z .f64 (cv .f32 x .f64) := by
  obtain ⟨s, rfl⟩ := hx
  cases s <;> refine ⟨rfl, ?_⟩ <;> first | exact ⟨false, rfl⟩ | exact ⟨true, rfl⟩
end
end Go.Proofs.Ytcgpomicgbmdlaa.Bd
namespace Go.Proofs.Ytcgpomicgbmdlaa.Pure
open Go Go.RowKit Go.Proofs.YtcgpomicgbmdlaaW.PrintWords Go.Proofs.YtcgpomicgbmdlaaW.PrintLast Go.Proofs.Ytcgpomicgbmdlaa.PFnCommon Go.Proofs.Ytcgpomicgbmdlaa.Bd
set_option linter.unusedSimpArgs false
set_option linter.unusedVariables false

/-- A bounded complex number. -/
def C (n : Nat) (z : Cx) : Prop := Bd.B .f32 n z.re ∧ Bd.B .f32 n z.im
theorem C.mono {n m : Nat} {z : Cx} (h : C n z) (hm : n ≤ m) : C m z := ⟨h.1.mono hm, h.2.mono hm⟩
theorem C0 : C 1 (⟨0, 0⟩ : Cx) := ⟨zero_B _, zero_B _⟩

theorem mulC {n m N : Nat} {x y : Cx} (hx : C n x) (hy : C m y) (hn : n ≤ 240) (hm : m ≤ 240) (hN : n + m ≤ N + 121) (hN0 : 3 ≤ N) (hN2 : n + m ≤ 360) :
    ∃ r, impl_MulComplex.f x y = some r ∧ C N r := by
  obtain ⟨a1, a2⟩ := widen_B hx.1 (by omega)
  obtain ⟨b1, b2⟩ := widen_B hx.2 (by omega)
  obtain ⟨c1, c2⟩ := widen_B hy.1 (by omega)
  obtain ⟨d1, d2⟩ := widen_B hy.2 (by omega)
  obtain ⟨e1, e2⟩ := mul_B64 a2 c2 (by omega) (by omega)
  obtain ⟨f1, f2⟩ := mul_B64 b2 d2 (by omega) (by omega)
  obtain ⟨g1, g2⟩ := sub_B e2 f2 (by show _ ≤ 2047; omega) (by show _ ≤ 2047; omega)
  obtain ⟨h1, h2⟩ := narrow_B g2 (by omega)
  obtain ⟨i1, i2⟩ := mul_B64 a2 d2 (by omega) (by omega)
  obtain ⟨j1, j2⟩ := mul_B64 b2 c2 (by omega) (by omega)
  obtain ⟨k1, k2⟩ := add_B i2 j2 (by show _ ≤ 2047; omega) (by show _ ≤ 2047; omega)
  obtain ⟨l1, l2⟩ := narrow_B k2 (by omega)
  refine ⟨⟨_, _⟩, ?_, h2.mono (by omega), l2.mono (by omega)⟩
  · unfold impl_MulComplex.f impl_wide.f
    simp only [a1, b1, c1, d1, e1, f1, g1, h1, i1, j1, k1, l1, if_true, Option.bind_some]
    rfl
theorem mulZ {m : Nat} {y : Cx} (hy : C m y) (hm : m ≤ 240) : ∃ r, impl_MulComplex.f (⟨0, 0⟩ : Cx) y = some r ∧ Bd.Z .f32 r.re ∧ Bd.Z .f32 r.im := by
  obtain ⟨a1, a2⟩ := widen_Z (Z0 .f32)
  obtain ⟨c1, c2⟩ := widen_B hy.1 (by omega)
  obtain ⟨d1, d2⟩ := widen_B hy.2 (by omega)
  obtain ⟨e1, e2⟩ := mul_Z a2 c2 (by show _ ≤ 2047; omega)
  obtain ⟨f1, f2⟩ := mul_Z a2 d2 (by show _ ≤ 2047; omega)
  obtain ⟨g1, g2⟩ := sub_Z e2 f2
  obtain ⟨h1, h2⟩ := narrow_Z g2
  obtain ⟨k1, k2⟩ := add_Z f2 e2
  obtain ⟨l1, l2⟩ := narrow_Z k2
  refine ⟨⟨_, _⟩, ?_, h2, l2⟩
  · unfold impl_MulComplex.f impl_wide.f
    simp only [a1, c1, d1, e1, f1, g1, h1, k1, l1, if_true, Option.bind_some]
    rfl

/-! ### more rounds -/
theorem lift_ {α : Type} {F : Nat → Option α} {r : α} {K : Nat} (hm : ∀ k, LeO (F k) (F (k + 1))) (h : F K = some r) : ∀ k, K ≤ k → F k = some r := by
  intro k hk
  induction k with
  | zero => obtain rfl : K = 0 := by omega
            exact h
  | succ k ih =>
    by_cases c : K = k + 1
    · subst c; exact h
    · exact hm k _ (ih (by omega))
def t1 : Cx := ⟨3204448256, 1063105495⟩
def t2 : Cx := ⟨3204448256, 3210589143⟩
theorem turnsK : ∀ k, 60 ≤ k → impl_turns.f k = some (t1, t2) := lift_ impl_turns.mono (by kernel_rfl)
theorem t1C : C 127 t1 := ⟨by decide +kernel, by decide +kernel⟩
theorem t2C : C 127 t2 := ⟨by decide +kernel, by decide +kernel⟩
theorem addC {n m N : Nat} {x y : Cx} (hx : C n x) (hy : C m y) (hn : n ≤ 250) (hm : m ≤ 250) (hN : max n m + 2 ≤ N) :
    fok .add .f32 x.re y.re = true ∧ fok .add .f32 x.im y.im = true ∧ C N (⟨fv .add .f32 x.re y.re, fv .add .f32 x.im y.im⟩ : Cx) := by
  obtain ⟨a1, a2⟩ := add_B hx.1 hy.1 (by show _ ≤ 255; omega) (by show _ ≤ 255; omega)
  obtain ⟨b1, b2⟩ := add_B hx.2 hy.2 (by show _ ≤ 255; omega) (by show _ ≤ 255; omega)
  exact ⟨a1, b1, a2.mono hN, b2.mono hN⟩
/-- The phases of bounded parts. -/
theorem phasesC {n : Nat} {z p m : Cx} (hz : C n z) (hp : C n p) (hm : C n m) (h0 : 120 ≤ n) (hn : n ≤ 200) :
    ∃ a b c, (∀ k, 60 ≤ k → impl_PhasesOf.f k z p m = some (a, b, c)) ∧ C (n + 10) a ∧ C (n + 10) b ∧ C (n + 10) c := by
  obtain ⟨a1, a2, a3⟩ := addC hz hp (by omega) (by omega) (Nat.le_refl _)
  obtain ⟨b1, b2, b3⟩ := addC a3 hm (by omega) (by omega) (Nat.le_refl _)
  obtain ⟨q1, c1, c2⟩ := mulC (N := n + 6) t2C hp (by omega) (by omega) (by omega) (by omega) (by omega)
  obtain ⟨d1, d2, d3⟩ := addC hz c2 (by omega) (by omega) (Nat.le_refl _)
  obtain ⟨q2, e1, e2⟩ := mulC (N := n + 6) t1C hm (by omega) (by omega) (by omega) (by omega) (by omega)
  obtain ⟨f1, f2, f3⟩ := addC d3 e2 (by omega) (by omega) (Nat.le_refl _)
  obtain ⟨q3, g1, g2⟩ := mulC (N := n + 6) t1C hp (by omega) (by omega) (by omega) (by omega) (by omega)
  obtain ⟨h1, h2, h3⟩ := addC hz g2 (by omega) (by omega) (Nat.le_refl _)
  obtain ⟨q4, i1, i2⟩ := mulC (N := n + 6) t2C hm (by omega) (by omega) (by omega) (by omega) (by omega)
  obtain ⟨j1, j2, j3⟩ := addC h3 i2 (by omega) (by omega) (Nat.le_refl _)
  refine ⟨_, _, _, fun k hk => ?_, b3.mono (by omega), f3.mono (by omega), j3.mono (by omega)⟩
  · unfold impl_PhasesOf.f
    simp only [turnsK k hk, a1, a2, b1, b2, c1, d1, d2, e1, f1, f2, g1, h1, h2, i1, j1, j2, if_true, Option.bind_some]
end Go.Proofs.Ytcgpomicgbmdlaa.Pure
namespace Go.Proofs.Ytcgpomicgbmdlaa.Pure
open Go Go.RowKit Go.Proofs.YtcgpomicgbmdlaaW.PrintWords Go.Proofs.YtcgpomicgbmdlaaW.PrintLast Go.Proofs.Ytcgpomicgbmdlaa.PFnCommon Go.Proofs.Ytcgpomicgbmdlaa.Bd
set_option linter.unusedSimpArgs false
set_option linter.unusedVariables false

theorem quoC {n c : Nat} {p : Nat} {x d : Cx} (hx : C 131 x) (hd : Bd.B .f32 130 d.re) (hd2 : Bd.B .f32 130 (fneg .f32 d.im)) (hp : impl_power.f d = some p) (hl : Bd.Lw .f64 1023 p) :
    ∃ t, impl_QuotientOf.f x d = some t ∧ C 141 t := by
  obtain ⟨a1, a2⟩ := widen_B hx.1 (by omega)
  obtain ⟨b1, b2⟩ := widen_B hx.2 (by omega)
  obtain ⟨c1, c2⟩ := widen_B hd (by omega)
  obtain ⟨d1, d2⟩ := widen_B hd2 (by omega)
  obtain ⟨e1, e2⟩ := mul_B64 a2 c2 (by omega) (by omega)
  obtain ⟨f1, f2⟩ := mul_B64 b2 d2 (by omega) (by omega)
  obtain ⟨g1, g2⟩ := sub_B e2 f2 (by show _ ≤ 2047; omega) (by show _ ≤ 2047; omega)
  obtain ⟨i1, i2⟩ := mul_B64 a2 d2 (by omega) (by omega)
  obtain ⟨j1, j2⟩ := mul_B64 b2 c2 (by omega) (by omega)
  obtain ⟨k1, k2⟩ := add_B i2 j2 (by show _ ≤ 2047; omega) (by show _ ≤ 2047; omega)
  obtain ⟨l1, l2⟩ := quo_B64 g2 hl (by omega) (by omega)
  obtain ⟨m1, m2⟩ := quo_B64 k2 hl (by omega) (by omega)
  obtain ⟨n1, n2⟩ := narrow_B l2 (by omega)
  obtain ⟨o1, o2⟩ := narrow_B m2 (by omega)
  refine ⟨⟨_, _⟩, ?_, n2.mono (by omega), o2.mono (by omega)⟩
  · unfold impl_QuotientOf.f impl_wide.f impl_ConjugateOf.f
    simp only [hp, a1, b1, c1, d1, e1, f1, g1, i1, j1, k1, l1, m1, n1, o1, if_true, Option.bind_some]
    rfl
theorem isFin {n x : Nat} (hx : Bd.B .f32 n x) (hn : n ≤ 255) : impl_IsFinite.f x = some true := by
  obtain ⟨h1, h2⟩ := sub_self_B hx hn
  unfold impl_IsFinite.f
  rw [if_pos h1, h2]
  rfl
theorem isFinC {n : Nat} {z : Cx} (hz : C n z) (hn : n ≤ 255) : ∀ k, 5 ≤ k → impl_IsFiniteComplex.f k z = some true := by
  intro k hk
  obtain ⟨j, rfl⟩ : ∃ j, k = j + 5 := ⟨k - 5, by omega⟩
  have f1 : impl_finite_1.f z.re = some false := by unfold impl_finite_1.f; rw [isFin hz.1 hn]; rfl
  have f2 : impl_finite_1.f z.im = some false := by unfold impl_finite_1.f; rw [isFin hz.2 hn]; rfl
  unfold impl_IsFiniteComplex.f impl_finite.f slices_ContainsFunc_float32_float32_f166.f slices_IndexFunc_float32_float32_f166.f
  have g0 : ∀ a b : Nat, rdOf (0 : Nat) [a, b] 0 = a := fun _ _ => rfl
  have g1 : ∀ a b : Nat, rdOf (0 : Nat) [a, b] 1 = b := fun _ _ => rfl
  have w1 : wrap64 1 = 1 := by kernel_rfl
  have w2 : wrap64 2 = 2 := by kernel_rfl
  simp [slices_IndexFunc_float32_float32_f166.l0, g0, g1, f1, f2, w1, w2]
theorem same1 {n x : Nat} (hx : Bd.B .f32 n x) (hn : n ≤ 255) : ∀ k, 1 ≤ k → impl_SameNumber.f k x x = some true := by
  intro k hk
  obtain ⟨j, rfl⟩ : ∃ j, k = j + 1 := ⟨k - 1, by omega⟩
  have h1 : impl_isNaN.f x = some false := by unfold impl_isNaN.f; rw [fne_self hx hn]
  unfold impl_SameNumber.f
  simp [h1, impl_SameNumber.j0]
theorem sameC {n : Nat} {z : Cx} (hz : C n z) (hn : n ≤ 255) : ∀ k, 1 ≤ k → impl_SameComplex.f k z z = some true := by
  intro k hk
  unfold impl_SameComplex.f
  simp [same1 hz.1 hn k hk, same1 hz.2 hn k hk]
theorem samePh {n : Nat} {a b c : Cx} (ha : C n a) (hb : C n b) (hc : C n c) (hn : n ≤ 255) : ∀ k, 1 ≤ k → impl_SamePhases.f k a b c a b c = some true := by
  intro k hk
  unfold impl_SamePhases.f
  simp [sameC ha hn k hk, sameC hb hn k hk, sameC hc hn k hk]
theorem samePa {n : Nat} {a b c : Cx} (ha : C n a) (hb : C n b) (hc : C n c) (hn : n ≤ 255) : ∀ k, 1 ≤ k → impl_SameParts.f k a b c a b c = some true := by
  intro k hk
  unfold impl_SameParts.f
  simp [sameC ha hn k hk, sameC hb hn k hk, sameC hc hn k hk]
theorem long0 : impl_LongOf.f (⟨0, 0⟩ : Cx) = some 0 := by kernel_rfl
theorem apart0 {n : Nat} {z : Cx} (hz : C n z) (hn : n ≤ 255) : laws_r8Apart.f z z = some 0 := by
  obtain ⟨h1, h2⟩ := sub_self_B hz.1 hn
  obtain ⟨h3, h4⟩ := sub_self_B hz.2 hn
  unfold laws_r8Apart.f
  rw [if_pos h1, if_pos h3, h2, h4, long0]
  kernel_rfl

/-! ### the numbers of the feeder -/
/-- 'n' sixteenths. -/
def h (n : Nat) : Nat := fv .quo .f32 (floatOfInt .f32 n) 1098907648
/-- The source's number. -/
def fS (v : Nat) : Nat := floatOfInt .f32 (8 + v)
theorem all_lt {n : Nat} {P : Nat → Bool} (hP : (List.range n).all P = true) {a : Nat} (ha : a < n) : P a = true := List.all_eq_true.mp hP a (List.mem_range.mpr ha)
def addT (a b : Nat) : Bool := fok .add .f32 (h a) (h b) && (fv .add .f32 (h a) (h b) == h (a + b))
theorem addTab : (List.range 25).all (fun a => (List.range 5).all fun b => addT a b) = true := by decide +kernel
theorem add16 {a b : Nat} (ha : a ≤ 24) (hb : b ≤ 4) : fok .add .f32 (h a) (h b) = true ∧ fv .add .f32 (h a) (h b) = h (a + b) := by
  have := all_lt (all_lt addTab (a := a) (by omega)) (a := b) (by omega)
  simpa [addT] using this
theorem quo16T : (List.range 5).all (fun a => fok .quo .f32 (floatOfInt .f32 (a : Nat)) 1098907648) = true := by decide +kernel
theorem quo16 {a : Nat} (ha : a ≤ 4) : fok .quo .f32 (floatOfInt .f32 (a : Nat)) 1098907648 = true := all_lt quo16T (by omega)
theorem h0 : h 0 = 0 := by kernel_rfl
/-- The real part of the sum of the line's parts and the fault's. -/
def reT (a : Nat) : Bool :=
  let z1 := fv .add .f32 (h a) 0
  let z2 := fv .add .f32 z1 0
  let l := fv .sub .f32 (h a) 0
  let s1 := fv .add .f32 z2 l
  let s2 := fv .add .f32 s1 l
  fok .add .f32 (h a) 0 && fok .add .f32 z1 0 && fok .sub .f32 (h a) 0 && fok .add .f32 z2 l && fok .add .f32 s1 l && fok .add .f32 s2 1069547520 && (fv .add .f32 s2 1069547520 == h (3 * a + 24))
theorem reTab : (List.range 21).all reT = true := by decide +kernel
def imT (b c : Nat) : Bool :=
  let z1 := fv .add .f32 (h b) (h c)
  let z2 := fv .add .f32 z1 (h c)
  let l := fv .sub .f32 (h b) (h c)
  let s1 := fv .add .f32 z2 l
  let s2 := fv .add .f32 s1 l
  fok .add .f32 (h b) (h c) && fok .add .f32 z1 (h c) && fok .sub .f32 (h b) (h c) && fok .add .f32 z2 l && fok .add .f32 s1 l && fok .add .f32 s2 0 && (fv .add .f32 s2 0 == h (3 * b))
theorem imTab : (List.range 21).all (fun b => (List.range 11).all fun c => imT b c) = true := by decide +kernel
def powT (a b : Nat) : Bool := (impl_power.f ⟨h (3 * a + 24), h (3 * b)⟩).any fun p => decide (Bd.Lw .f64 1023 p)
theorem any_some {α : Type} {P : α → Bool} {q : Option α} (h1 : q.any P = true) : ∃ p, q = some p ∧ P p = true := by
  cases q with
  | none => cases h1
  | some p => exact ⟨p, rfl, h1⟩
theorem powTab : (List.range 21).all (fun a => (List.range 21).all fun b => powT a b) = true := by decide +kernel
theorem hB : (List.range 21).all (fun a => decide (Bd.B .f32 130 (h (3 * a + 24))) && decide (Bd.B .f32 130 (fneg .f32 (h (3 * a))))) = true := by decide +kernel
end Go.Proofs.Ytcgpomicgbmdlaa.Pure
namespace Go.Proofs.Ytcgpomicgbmdlaa.Pure
open Go Go.RowKit Go.Proofs.YtcgpomicgbmdlaaW.PrintWords Go.Proofs.YtcgpomicgbmdlaaW.PrintLast Go.Proofs.Ytcgpomicgbmdlaa.PFnCommon Go.Proofs.Ytcgpomicgbmdlaa.Bd
set_option linter.unusedSimpArgs false
set_option linter.unusedVariables false

theorem w64 {n : Int} (h0 : -1000 ≤ n) (h1 : n < 9223372036854775808) : wrap64 n = n := by unfold wrap64; omega
theorem rd_u8 {l : List Int} (hw : ∀ x ∈ l, (Lit.int .u8 x).wf = true) (i : Int) : 0 ≤ rd l i ∧ rd l i ≤ 255 := by
  unfold rd
  rw [List.getD_eq_getElem?_getD]
  by_cases c : i.toNat < l.length
  · rw [List.getElem?_eq_getElem c]
    have := hw _ (List.getElem_mem c)
    simp [Lit.wf, IntKind.min, IntKind.max, IntKind.bits, IntKind.signed] at this
    simpa using by omega
  · rw [List.getElem?_eq_none (by omega)]
    simp
theorem and255 (x : Int) : 0 ≤ Go.bits .and .u64 x 255 ∧ Go.bits .and .u64 x 255 ≤ 255 := by
  unfold Go.bits
  simp only
  have h1 : (BitVec.ofInt IntKind.u64.bits x &&& BitVec.ofInt IntKind.u64.bits 255).toNat ≤ 255 := by
    rw [BitVec.toNat_and]
    exact Nat.and_le_right
  generalize (BitVec.ofInt IntKind.u64.bits x &&& BitVec.ofInt IntKind.u64.bits 255).toNat = n at h1 ⊢
  have : IntKind.u64.wrap (n : Int) = n := by
    unfold IntKind.wrap
    simp [IntKind.bits, IntKind.signed]
    omega
  rw [this]
  omega
theorem next_ {l : List Int} (hw : ∀ x ∈ l, (Lit.int .u8 x).wf = true) {a s : Int} (h0 : 0 ≤ a) (h1 : a < 1000000) :
    ∃ v s', spec_l00Src_next.f l a s = some (v, a + 1, s') ∧ 0 ≤ v ∧ v ≤ 255 := by
  have hr := rd_u8 hw a
  have hb := fun x => and255 x
  have w1 : wrap64 (a + 1) = a + 1 := w64 (by omega) (by omega)
  have w2 : wrap64 (rd l a) = rd l a := w64 (by omega) (by omega)
  have w3 : ∀ x, wrap64 (Go.bits .and .u64 x 255) = Go.bits .and .u64 x 255 := fun x => w64 (by have := hb x; omega) (by have := hb x; omega)
  unfold spec_l00Src_next.f
  simp only [w1, w2, w3, if_pos h0]
  split
  · split
    · exact ⟨_, _, rfl, hr.1, hr.2⟩
    · exact ⟨_, _, rfl, (hb _).1, (hb _).2⟩
  · split
    · exact ⟨_, _, rfl, by omega, by omega⟩
    · exact ⟨_, _, rfl, (hb _).1, (hb _).2⟩
/-- What a source is: the place in the input, the seed (free). -/
theorem pick_ {l : List Int} (hw : ∀ x ∈ l, (Lit.int .u8 x).wf = true) {a s n : Int} (h0 : 0 ≤ a) (h1 : a < 1000000) (hn : n ≤ 200) :
    ∃ v a' s', spec_l00Src_pick.f l a s n = some (v, a', s') ∧ 0 ≤ v ∧ (v < n ∨ v = 0) ∧ 0 ≤ a' ∧ a' ≤ a + 1 := by
  unfold spec_l00Src_pick.f
  by_cases c : n ≤ 1
  · rw [if_pos c]
    exact ⟨_, _, _, rfl, by omega, .inr rfl, h0, by omega⟩
  · obtain ⟨v, s', h2, h3, h4⟩ := next_ hw (s := s) h0 h1
    rw [if_neg c, h2]
    simp only [Option.bind_some]
    rw [if_neg (by omega), if_neg (by omega)]
    refine ⟨_, _, _, rfl, Int.tmod_nonneg _ h3, .inl (Int.tmod_lt_of_pos _ (by omega)), by omega, by omega⟩

theorem numT : (List.range 64).all (fun n => fok .quo .f32 (floatOfInt .f32 ((n : Int) - 32)) 1098907648) = true := by decide +kernel
theorem num_ok {n : Int} (h0 : -32 ≤ n) (h1 : n ≤ 31) : fok .quo .f32 (floatOfInt .f32 n) 1098907648 = true := by
  have := all_lt numT (a := (n + 32).toNat) (by omega)
  have e : (((n + 32).toNat : Nat) : Int) - 32 = n := by omega
  rw [e] at this
  exact this
theorem number_ {l : List Int} (hw : ∀ x ∈ l, (Lit.int .u8 x).wf = true) {a : Int} (h0 : 0 ≤ a) : ∃ t, spec_R8Number.f l a = some t := by
  obtain ⟨r1, r2⟩ := rd_u8 hw a
  have w2 : wrap64 (rd l a) = rd l a := w64 (by omega) (by omega)
  have m1 : 0 ≤ Int.tmod (rd l a) 33 := Int.tmod_nonneg _ r1
  have m2 : Int.tmod (rd l a) 33 < 33 := Int.tmod_lt_of_pos _ (by omega)
  have d1 : 0 ≤ Int.tdiv (rd l a) 33 := Int.tdiv_nonneg r1 (by omega)
  have d2 : Int.tdiv (rd l a) 33 ≤ 7 := by rw [Int.tdiv_eq_ediv_of_nonneg r1]; omega
  unfold spec_R8Number.f
  split
  · (try rw [if_pos h0]); rw [w2, w64 (n := Int.tdiv (rd l a) 33) (by omega) (by omega), w64 (n := Int.tmod (rd l a) 33 - 16) (by omega) (by omega), w64 (n := Int.tdiv (rd l a) 33 - 3) (by omega) (by omega),
      if_pos (num_ok (by omega) (by omega)), if_pos (num_ok (by omega) (by omega))]
    exact ⟨_, rfl⟩
  · rw [if_pos (num_ok (by omega) (by omega)), if_pos (num_ok (by omega) (by omega))]
    exact ⟨_, rfl⟩
theorem load_ {l : List Int} (hw : ∀ x ∈ l, (Lit.int .u8 x).wf = true) {a s : Int} (h0 : 0 ≤ a) (h1 : a < 900000) :
    ∃ t1 t2 t3 a' s', spec_r8Load.f l a s = some (t1, t2, t3, a', s') ∧ 0 ≤ a' ∧ a' ≤ a + 3 := by
  obtain ⟨v1, a1, s1, p1, q1, _, b1, c1⟩ := pick_ hw (s := s) (n := 40) h0 (by omega) (by omega)
  obtain ⟨t1, n1⟩ := number_ hw q1
  obtain ⟨v2, a2, s2, p2, q2, _, b2, c2⟩ := pick_ hw (s := s1) (n := 40) b1 (by omega) (by omega)
  obtain ⟨t2, n2⟩ := number_ hw q2
  obtain ⟨v3, a3, s3, p3, q3, _, b3, c3⟩ := pick_ hw (s := s2) (n := 40) b2 (by omega) (by omega)
  obtain ⟨t3, n3⟩ := number_ hw q3
  refine ⟨t1, t2, t3, a3, s3, ?_, b3, by omega⟩
  unfold spec_r8Load.f
  simp only [p1, n1, p2, n2, p3, n3, Option.bind_some]
theorem one_ {l : List Int} (hw : ∀ x ∈ l, (Lit.int .u8 x).wf = true) {a s n : Int} (h0 : 0 ≤ a) (h1 : a < 1000000) (hn : n ≤ 200) :
    ∃ v a' s', spec_l00Src_one.f l a s n = some (v, a', s') ∧ 0 ≤ a' ∧ a' ≤ a + 1 := by
  obtain ⟨v1, a1, s1, p1, q1, _, b1, c1⟩ := pick_ hw (s := s) h0 h1 hn
  unfold spec_l00Src_one.f
  rw [p1]
  exact ⟨_, _, _, rfl, b1, c1⟩

/-! ### the feeder that is drawn -/
structure GoodBus (i : Nat) (b : S66) : Prop where
  par : (i = 0 ∧ b.f0 = -1) ∨ (0 < i ∧ 0 ≤ b.f0 ∧ b.f0 < i)
  line : ∃ o p s : Nat, o ≤ 4 ∧ p ≤ 4 ∧ s ≤ 2 ∧ (i = 0 → o = 0 ∧ p = 0 ∧ s = 0) ∧ b.f1 = ⟨h o, h p⟩ ∧ b.f2 = ⟨0, h s⟩
  kind : 0 ≤ b.f3 ∧ b.f3 ≤ 2
  cust : 0 ≤ b.f5 ∧ b.f5 ≤ 29
def Good (l : List S66) : Prop := ∀ i : Nat, i < l.length → GoodBus i (rd_T66 l i)
theorem Good.nil : Good [] := fun i hi => absurd hi (by simp)
theorem Good.snoc {l : List S66} {b : S66} (hl : Good l) (hb : GoodBus l.length b) : Good (l ++ [b]) := by
  intro i hi
  have e : rd_T66 (l ++ [b]) i = if i < l.length then rd_T66 l i else b := by
    unfold rd_T66
    simp only [Int.toNat_natCast, List.getD_eq_getElem?_getD]
    split
    · rename_i c
      rw [List.getElem?_append_left c]
    · rename_i c
      have : i = l.length := by simp at hi; omega
      subst this
      simp
  rw [e]
  split
  · exact hl i ‹_›
  · have : i = l.length := by simp at hi; omega
    subst this
    exact hb
theorem feed_j1 {l : List Int} (hw : ∀ x ∈ l, (Lit.int .u8 x).wf = true) {a s : Int} (h0 : 0 ≤ a) (h1 : a < 800000) (k : Nat) (x5 x6 : Int) (s0 s1 s2 : Cx) (acc : List S66) (hacc : acc.length < 100) (par : Int) (own sh : Cx) :
    ∃ b a' s', spec_R8Feeder.j1 (k + 1) x5 x6 l a s s0 s1 s2 acc par own sh 0 (⟨0, 0⟩ : Cx) (⟨0, 0⟩ : Cx) (⟨0, 0⟩ : Cx) 0 = spec_R8Feeder.l0 k x5 (wrap64 (x6 + 1)) l a' s' s0 s1 s2 (acc ++ [b]) ∧
      b.f0 = par ∧ b.f1 = own ∧ b.f2 = sh ∧ (0 ≤ b.f3 ∧ b.f3 ≤ 2) ∧ (0 ≤ b.f5 ∧ b.f5 ≤ 29) ∧ 0 ≤ a' ∧ a' ≤ a + 6 := by
  obtain ⟨v1, a1, z1, p1, q1, r1, b1, c1⟩ := pick_ hw (s := s) (n := 3) h0 (by omega) (by omega)
  obtain ⟨v2, a2, z2, p2, b2, c2⟩ := one_ hw (s := z1) (n := 3) b1 (by omega) (by omega)
  have ha : acc.length < 2199023255552 := by omega
  rw [spec_R8Feeder.j1]
  simp only [p1, p2, Option.bind_some, if_pos ha]
  split
  · obtain ⟨v3, a3, z3, p3, q3, r3, b3, c3⟩ := pick_ hw (s := z2) (n := 30) b2 (by omega) (by omega)
    simp only [p3, Option.bind_some]
    exact ⟨_, _, _, rfl, rfl, rfl, rfl, by dsimp only; omega, by dsimp only; omega, b3, by omega⟩
  · obtain ⟨t1, t2, t3, a3, z3, p3, b3, c3⟩ := load_ hw (s := z2) b2 (by omega)
    obtain ⟨v4, a4, z4, p4, q4, r4, b4, c4⟩ := pick_ hw (s := z3) (n := 30) b3 (by omega) (by omega)
    simp only [p3, p4, Option.bind_some]
    split
    · exact ⟨_, _, _, rfl, rfl, rfl, rfl, by dsimp only; omega, by dsimp only; omega, b4, by omega⟩
    · exact ⟨_, _, _, rfl, rfl, rfl, rfl, by dsimp only; omega, by dsimp only; omega, b4, by omega⟩
theorem fq {v : Int} (h0 : 0 ≤ v) (h1 : v ≤ 4) : fok .quo .f32 (floatOfInt .f32 v) 1098907648 = true ∧ fv .quo .f32 (floatOfInt .f32 v) 1098907648 = h v.toNat := by
  refine ⟨num_ok (by omega) (by omega), ?_⟩
  unfold h
  rw [Int.toNat_of_nonneg h0]
theorem feed_l0 {l : List Int} (hw : ∀ x ∈ l, (Lit.int .u8 x).wf = true) (n : Nat) (hn : n ≤ 6) (s0 s1 s2 : Cx) : ∀ (m i k : Nat) (a s : Int) (acc : List S66), 0 ≤ a → a ≤ 10 + 20 * i → i + m = n → 2 * m + 1 ≤ k → acc.length = i → Good acc →
    ∃ f, spec_R8Feeder.l0 k n i l a s s0 s1 s2 acc = some (s0, s1, s2, f) ∧ Good f ∧ f.length = n := by
  intro m
  induction m with
  | zero =>
    intro i k a s acc h0 h1 hi hk hl hg
    obtain ⟨k, rfl⟩ : ∃ j, k = j + 1 := ⟨k - 1, by omega⟩
    rw [spec_R8Feeder.l0, if_neg (by omega)]
    exact ⟨acc, rfl, hg, by omega⟩
  | succ m ih =>
    intro i k a s acc h0 h1 hi hk hl hg
    obtain ⟨k, rfl⟩ : ∃ j, k = j + 2 := ⟨k - 2, by omega⟩
    have fin : ∀ (a' s' : Int) (par : Int) (own sh : Cx), 0 ≤ a' → a' ≤ a + 5 → ((i = 0 ∧ par = -1) ∨ (0 < i ∧ 0 ≤ par ∧ par < i)) →
        (∃ o p s : Nat, o ≤ 4 ∧ p ≤ 4 ∧ s ≤ 2 ∧ (i = 0 → o = 0 ∧ p = 0 ∧ s = 0) ∧ own = ⟨h o, h p⟩ ∧ sh = ⟨0, h s⟩) →
        ∃ f, spec_R8Feeder.j1 (k + 1) n i l a' s' s0 s1 s2 acc par own sh 0 (⟨0, 0⟩ : Cx) (⟨0, 0⟩ : Cx) (⟨0, 0⟩ : Cx) 0 = some (s0, s1, s2, f) ∧ Good f ∧ f.length = n := by
      intro a' s' par own sh h2 h3 hp hl2
      obtain ⟨b, a4, s4, e, e0, e1, e2, e3, e5, h4, h5⟩ := feed_j1 hw (s := s') h2 (by omega) k n i s0 s1 s2 acc (by omega) par own sh
      rw [e, w64 (by omega) (by omega)]
      have := ih (i + 1) k a4 s4 (acc ++ [b]) h4 (by omega) (by omega) (by omega) (by simp; omega) (hg.snoc ⟨by rw [e0, hl]; exact hp, by rw [e1, e2, hl]; exact hl2, e3, e5⟩)
      exact this
    rw [spec_R8Feeder.l0, if_pos (by omega)]
    by_cases c : (i : Int) > 0
    · rw [if_pos c]
      obtain ⟨v1, a1, z1, p1, b1, c1⟩ := one_ hw (s := s) (n := 2) h0 (by omega) (by omega)
      simp only [p1, Option.bind_some]
      split
      · obtain ⟨v2, a2, z2, p2, q2, r2, b2, c2⟩ := pick_ hw (s := z1) (n := i) b1 (by omega) (by omega)
        obtain ⟨v3, a3, z3, p3, q3, r3, b3, c3⟩ := pick_ hw (s := z2) (n := 4) b2 (by omega) (by omega)
        obtain ⟨v4, a4, z4, p4, q4, r4, b4, c4⟩ := pick_ hw (s := z3) (n := 5) b3 (by omega) (by omega)
        obtain ⟨v5, a5, z5, p5, q5, r5, b5, c5⟩ := pick_ hw (s := z4) (n := 3) b4 (by omega) (by omega)
        obtain ⟨f1, g1⟩ := fq (v := 1 + v3) (by omega) (by omega)
        obtain ⟨f2, g2⟩ := fq (v := v4) (by omega) (by omega)
        obtain ⟨f3, g3⟩ := fq (v := v5) (by omega) (by omega)
        have w := w64 (n := 1 + v3) (by omega) (by omega)
        simp only [p2, p3, p4, p5, w, f1, f2, f3, g1, g2, g3, if_true, Option.bind_some]
        exact fin _ _ _ _ _ b5 (by omega) (.inr ⟨by omega, q2, by omega⟩) ⟨_, _, _, by omega, by omega, by omega, fun h => absurd h (by omega), rfl, rfl⟩
      · obtain ⟨v3, a3, z3, p3, q3, r3, b3, c3⟩ := pick_ hw (s := z1) (n := 4) b1 (by omega) (by omega)
        obtain ⟨v4, a4, z4, p4, q4, r4, b4, c4⟩ := pick_ hw (s := z3) (n := 5) b3 (by omega) (by omega)
        obtain ⟨v5, a5, z5, p5, q5, r5, b5, c5⟩ := pick_ hw (s := z4) (n := 3) b4 (by omega) (by omega)
        obtain ⟨f1, g1⟩ := fq (v := 1 + v3) (by omega) (by omega)
        obtain ⟨f2, g2⟩ := fq (v := v4) (by omega) (by omega)
        obtain ⟨f3, g3⟩ := fq (v := v5) (by omega) (by omega)
        have w := w64 (n := 1 + v3) (by omega) (by omega)
        have w' := w64 (n := (i : Int) - 1) (by omega) (by omega)
        simp only [p3, p4, p5, w, w', f1, f2, f3, g1, g2, g3, if_true, Option.bind_some]
        exact fin _ _ _ _ _ b5 (by omega) (.inr ⟨by omega, by omega, by omega⟩) ⟨_, _, _, by omega, by omega, by omega, fun h => absurd h (by omega), rfl, rfl⟩
    · rw [if_neg c]
      have : i = 0 := by omega
      subst this
      have w' : wrap64 (((0 : Nat) : Int) - 1) = -1 := w64 (by omega) (by omega)
      rw [w']
      exact fin _ _ _ _ _ h0 (by omega) (.inl ⟨rfl, rfl⟩) ⟨0, 0, 0, by omega, by omega, by omega, fun _ => ⟨rfl, rfl, rfl⟩, by rw [Pure.h0], by rw [Pure.h0]⟩
end Go.Proofs.Ytcgpomicgbmdlaa.Pure
