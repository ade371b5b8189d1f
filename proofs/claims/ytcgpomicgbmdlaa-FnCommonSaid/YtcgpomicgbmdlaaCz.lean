/- Paths, faults and their parts for the feeder that FnCommon draws: what the functions of the walk answer; conditions: as each lemma states them. -/
import Derived.Test.YtcgpomicgbmdlaaCa
import Derived.Test.YtcgpomicgbmdlaaPFnCommonm6
import Derived.Test.YtcgpomicgbmdlaaPFnCommonm7
import Derived.Test.YtcgpomicgbmdlaaPFnCommonm8
namespace Go.Proofs.Ytcgpomicgbmdlaa.Pure
open Go Go.RowKit Go.Proofs.YtcgpomicgbmdlaaW.PrintWords Go.Proofs.YtcgpomicgbmdlaaW.PrintLast Go.Proofs.Ytcgpomicgbmdlaa.PFnCommon Go.Proofs.Ytcgpomicgbmdlaa.Bd
set_option linter.unusedSimpArgs false
set_option linter.unusedVariables false

def evT (v : Nat) : Bool :=
  match spec_l02Even.f 60 ⟨fS v, 0⟩ with
  | none => false
  | some s => (s.1.re == fS v) && (s.1.im == 0) && (match impl_PartsOf.f 60 s.1 s.2.1 s.2.2 with | none => false | some p => (p.2.1.re == fS v) && (p.2.1.im == 0))
theorem evTab : (List.range 8).all evT = true := by decide +kernel
theorem src_ {v : Nat} (hv : v < 8) : ∃ b c z m : Cx, (∀ k, 60 ≤ k → spec_l02Even.f k ⟨fS v, 0⟩ = some (⟨fS v, 0⟩, b, c)) ∧ (∀ k, 60 ≤ k → impl_PartsOf.f k ⟨fS v, 0⟩ b c = some (z, ⟨fS v, 0⟩, m)) := by
  have h1 := all_lt evTab hv
  unfold evT at h1
  split at h1
  · cases h1
  · rename_i s hs
    obtain ⟨⟨r, i⟩, b, c⟩ := s
    simp only [Bool.and_eq_true, beq_iff_eq] at h1
    obtain ⟨⟨rfl, rfl⟩, h1⟩ := h1
    split at h1
    · cases h1
    · rename_i p hp
      obtain ⟨z, ⟨r2, i2⟩, m⟩ := p
      simp only [Bool.and_eq_true, beq_iff_eq] at h1
      obtain ⟨rfl, rfl⟩ := h1
      exact ⟨b, c, z, m, lift_ (fun k => spec_l02Even.mono _ k) hs, lift_ (fun k => impl_PartsOf.mono _ _ _ k) hp⟩
theorem feed_ {l : List Int} (hw : ∀ x ∈ l, (Lit.int .u8 x).wf = true) : ∃ (v : Nat) (b c z m : Cx) (f : List S66), v < 8 ∧ (∀ k, 60 ≤ k → spec_R8Feeder.f k l = some (⟨fS v, 0⟩, b, c, f)) ∧ (∀ k, 60 ≤ k → impl_PartsOf.f k ⟨fS v, 0⟩ b c = some (z, ⟨fS v, 0⟩, m)) ∧ Good f ∧ 1 ≤ f.length ∧ f.length ≤ 6 := by
  obtain ⟨v, a1, s1, p1, q1, r1, b1, c1⟩ := pick_ hw (a := 0) (s := 0) (n := 8) (by omega) (by omega) (by omega)
  obtain ⟨n, a2, s2, p2, q2, r2, b2, c2⟩ := pick_ hw (s := s1) (n := 6) b1 (by omega) (by omega)
  obtain ⟨v, rfl⟩ := Int.eq_ofNat_of_zero_le q1
  obtain ⟨n, rfl⟩ := Int.eq_ofNat_of_zero_le q2
  obtain ⟨b, c, z, m, h1, h2⟩ := src_ (v := v) (by omega)
  obtain ⟨f, h3, h4, h5⟩ := feed_l0 hw (n + 1) (by omega) ⟨fS v, 0⟩ b c (n + 1) 0 60 a2 s2 [] b2 (by omega) (by omega) (by omega) rfl Good.nil
  have h6 : ∀ k, 60 ≤ k → spec_R8Feeder.l0 k ((n + 1 : Nat) : Int) ((0 : Nat) : Int) l a2 s2 ⟨fS v, 0⟩ b c [] = some (⟨fS v, 0⟩, b, c, f) := lift_ (fun k => by
    have := spec_R8Feeder.mono_l k
    exact this.1 _ _ _ _ _ _ _ _ _) h3
  refine ⟨v, b, c, z, m, f, by omega, fun k hk => ?_, h2, h4, by omega, by omega⟩
  unfold spec_R8Feeder.f spec_l00From.f
  have e1 : floatOfInt .f32 (wrap64 (8 + (v : Int))) = fS v := by rw [w64 (by omega) (by omega)]; rfl
  have e2 : wrap64 (1 + (n : Int)) = ((n + 1 : Nat) : Int) := by rw [w64 (by omega) (by omega)]; omega
  simp only [Option.bind_some, p1, e1, h1 k hk, p2, e2]
  exact h6 k hk

/-! ### a right feeder -/
theorem in_t {a b c : Int} (h0 : b ≤ a) (h1 : a ≤ c) : impl_in.f a b c = some true := by
  unfold impl_in.f
  rw [if_pos h0, decide_eq_true h1]
theorem valid_l0 {f : List S66} (hf : Good f) (hl : 1 ≤ f.length) (hl2 : f.length ≤ 6) (s0 s1 s2 : Cx) : ∀ (m i k : Nat), i + m = f.length → 3 * m + 1 ≤ k → impl_ValidFeeder.l0 k f (f.length : Int) i s0 s1 s2 f = some true := by
  intro m
  induction m with
  | zero =>
    intro i k hi hk
    obtain ⟨k, rfl⟩ : ∃ j, k = j + 1 := ⟨k - 1, by omega⟩
    rw [impl_ValidFeeder.l0, if_neg (by omega), in_t (by omega) (by omega)]
    rfl
  | succ m ih =>
    intro i k hi hk
    obtain ⟨k, rfl⟩ : ∃ j, k = j + 3 := ⟨k - 3, by omega⟩
    have hb := hf i (by omega)
    have n1 := ih (i + 1) k (by omega) (by omega)
    have e : wrap64 ((i : Int) + 1) = ((i + 1 : Nat) : Int) := by rw [w64 (by omega) (by omega)]; omega
    rw [impl_ValidFeeder.l0, if_pos (by omega), if_pos (by omega), if_pos (by omega)]
    unfold impl_kindOk.f
    rw [in_t hb.kind.1 hb.kind.2, in_t hb.cust.1 (by have := hb.cust.2; omega)]
    simp only [Option.bind_some, if_true, Bool.not_true]
    rw [impl_ValidFeeder.j1, if_neg (by decide)]
    rcases hb.par with ⟨rfl, hp⟩ | ⟨h0, h1, h2⟩
    · obtain ⟨o, p, s, _, _, _, hz, h3, h4⟩ := hb.line
      obtain ⟨rfl, rfl, rfl⟩ := hz rfl
      have c1 : cne .f32 (h 0) (h 0) 0 0 = false := by rw [h0]; rfl
      have c2 : cne .f32 0 (h 0) 0 0 = false := by rw [h0]; rfl
      rw [if_pos (by rfl), if_pos hp, h3, h4]
      simp only [c1, c2, Bool.false_eq_true, if_false]
      rw [impl_ValidFeeder.j2, if_neg (by decide), if_neg (by decide), e]
      exact n1
    · rw [if_neg (by omega), impl_ValidFeeder.j2, if_neg (by decide), if_pos (by omega), w64 (n := (i : Int) - 1) (by omega) (by omega), in_t h1 (by omega), e]
      simp only [Option.bind_some, if_true]
      exact n1
theorem has_ {f : List S66} (hf : Good f) (hl : 1 ≤ f.length) (hl2 : f.length ≤ 6) (s0 s1 s2 : Cx) {b : Int} (h0 : 0 ≤ b) (h1 : b < f.length) {k : Nat} (hk : 20 ≤ k) : impl_Feeder_has.f k s0 s1 s2 f b = some (true, s0, s1, s2) := by
  have := valid_l0 hf hl hl2 s0 s1 s2 f.length 0 k (by omega) (by omega)
  unfold impl_Feeder_has.f impl_ValidFeeder.f
  have e : impl_ValidFeeder.l0 k f (f.length : Int) 0 s0 s1 s2 f = some true := this
  rw [e]
  simp only [Option.bind_some, if_true]
  rw [w64 (by omega) (by omega), in_t h0 (by omega)]
  rfl

/-! ### paths -/
/-- The buses from the root to one. -/
def pth (f : List S66) (a : Nat) : List Int :=
  if c : 0 ≤ (rd_T66 f a).f0 ∧ (rd_T66 f a).f0 < a then pth f (rd_T66 f a).f0.toNat ++ [(a : Int)] else [(a : Int)]
termination_by a
decreasing_by omega
theorem pth_len (f : List S66) (a : Nat) : 1 ≤ (pth f a).length ∧ (pth f a).length ≤ a + 1 := by
  induction a using Nat.strongRecOn with
  | _ a ih =>
    rw [pth]
    split
    · have := ih (rd_T66 f a).f0.toNat (by omega)
      simp
      omega
    · simp
theorem pth_mem (f : List S66) (a : Nat) : ∀ x ∈ pth f a, 0 ≤ x ∧ x ≤ a := by
  induction a using Nat.strongRecOn with
  | _ a ih =>
    rw [pth]
    split
    · intro x hx
      rcases List.mem_append.mp hx with hx | hx
      · have := ih (rd_T66 f a).f0.toNat (by omega) x hx
        omega
      · have := List.mem_singleton.mp hx
        omega
    · intro x hx
      have := List.mem_singleton.mp hx
      omega
theorem pth_head {f : List S66} (hf : Good f) (a : Nat) (ha : a < f.length) : rd (pth f a) 0 = 0 := by
  induction a using Nat.strongRecOn with
  | _ a ih =>
    rw [pth]
    split
    · rename_i c
      have h1 := ih (rd_T66 f a).f0.toNat (by omega) (by omega)
      have h2 := pth_len f (rd_T66 f a).f0.toNat
      unfold rd at h1 ⊢
      rw [List.getD_eq_getElem?_getD] at h1 ⊢
      rw [List.getElem?_append_left (by simpa using by omega)]
      exact h1
    · rename_i c
      rcases (hf a ha).par with ⟨rfl, _⟩ | ⟨h0, h1, h2⟩
      · rfl
      · exact absurd ⟨h1, h2⟩ c
theorem rev_ (x : List Int) (hx : x.length ≤ 7) {k : Nat} (hk : 10 ≤ k) : slices_Reverse_int64_int64.f k x = some x.reverse := by
  obtain ⟨k, rfl⟩ : ∃ j, k = j + 10 := ⟨k - 10, by omega⟩
  unfold slices_Reverse_int64_int64.f
  match x, hx with
  | [], _ => simp [slices_Reverse_int64_int64.l0, wrap64, rd]
  | [a], _ => simp [slices_Reverse_int64_int64.l0, wrap64, rd]
  | [a, b], _ => simp [slices_Reverse_int64_int64.l0, wrap64, rd]
  | [a, b, c], _ => simp [slices_Reverse_int64_int64.l0, wrap64, rd]
  | [a, b, c, d], _ => simp [slices_Reverse_int64_int64.l0, wrap64, rd]
  | [a, b, c, d, e], _ => simp [slices_Reverse_int64_int64.l0, wrap64, rd]
  | [a, b, c, d, e, g], _ => simp [slices_Reverse_int64_int64.l0, wrap64, rd]
  | [a, b, c, d, e, g, i], _ => simp [slices_Reverse_int64_int64.l0, wrap64, rd]
theorem path_l0 {f : List S66} (hf : Good f) (hl2 : f.length ≤ 6) (s0 s1 s2 : Cx) (a : Nat) : ∀ (x : List Int) (k : Nat), a < f.length → x.length + a ≤ 6 → a + 20 ≤ k → impl_Feeder_path.l0 k (a : Int) x s0 s1 s2 f = some ((x ++ (pth f a).reverse).reverse, s0, s1, s2) := by
  induction a using Nat.strongRecOn with
  | _ a ih =>
    intro x k ha hx hk
    obtain ⟨k, rfl⟩ : ∃ j, k = j + 1 := ⟨k - 1, by omega⟩
    rw [impl_Feeder_path.l0, if_pos (by omega), if_pos (by omega), if_pos (by omega), if_pos (by omega), pth]
    split
    · rename_i c
      obtain ⟨q, hq⟩ : ∃ q : Nat, (rd_T66 f a).f0 = (q : Int) := ⟨(rd_T66 f a).f0.toNat, by omega⟩
      rw [hq, ih q (by omega) _ _ (by omega) (by simp; omega) (by omega)]
      simp
    · rename_i c
      have e : (rd_T66 f a).f0 = -1 := by
        rcases (hf a ha).par with ⟨_, h⟩ | ⟨h0, h1, h2⟩
        · exact h
        · exact absurd ⟨h1, h2⟩ c
      obtain ⟨k, rfl⟩ : ∃ j, k = j + 1 := ⟨k - 1, by omega⟩
      rw [impl_Feeder_path.l0, e, if_neg (by omega), rev_ _ (by simp; omega) (by omega)]
      simp
theorem path_ {f : List S66} (hf : Good f) (hl2 : f.length ≤ 6) (s0 s1 s2 : Cx) {a : Nat} (ha : a < f.length) {k : Nat} (hk : 30 ≤ k) : impl_Feeder_path.f k s0 s1 s2 f a = some (pth f a, s0, s1, s2) := by
  unfold impl_Feeder_path.f
  rw [path_l0 hf hl2 s0 s1 s2 a [] k ha (by simp; omega) (by omega)]
  simp
/-- The common beginning of two lists, from a place on. -/
theorem common_l0 (x y : List Int) (s0 s1 s2 : Cx) (f : List S66) (hx : x.length ≤ 100) : ∀ (m i k : Nat), i + m = x.length → m + 1 ≤ k → i ≤ y.length → (∀ j : Nat, j < i → rd x j = rd y j) →
    ∃ n : Nat, impl_Feeder_common.l0 k x y i s0 s1 s2 f = some (x.take n, s0, s1, s2) ∧ i ≤ n ∧ n ≤ x.length ∧ n ≤ y.length ∧ (∀ j : Nat, j < n → rd x j = rd y j) ∧ (n < x.length → n < y.length → rd x n ≠ rd y n) := by
  intro m
  induction m with
  | zero =>
    intro i k hi hk hy he
    obtain ⟨k, rfl⟩ : ∃ j, k = j + 1 := ⟨k - 1, by omega⟩
    rw [impl_Feeder_common.l0, if_neg (by omega), if_pos (by omega), if_pos (by omega)]
    exact ⟨i, by simp, by omega, by omega, hy, he, fun h => by omega⟩
  | succ m ih =>
    intro i k hi hk hy he
    obtain ⟨k, rfl⟩ : ∃ j, k = j + 1 := ⟨k - 1, by omega⟩
    rw [impl_Feeder_common.l0, if_pos (by omega)]
    by_cases c : i < y.length
    · rw [if_pos (by omega), if_pos (by omega)]
      by_cases d : rd x i = rd y i
      · rw [if_pos d]
        have e : wrap64 ((i : Int) + 1) = ((i + 1 : Nat) : Int) := by rw [w64 (by omega) (by omega)]; omega
        rw [e]
        obtain ⟨n, h1, h2, h3⟩ := ih (i + 1) k (by omega) (by omega) (by omega) (fun j hj => by
          by_cases c3 : j = i
          · subst c3; exact d
          · exact he j (by omega))
        exact ⟨n, h1, by omega, h3⟩
      · rw [if_neg d, if_pos (by omega)]
        exact ⟨i, by simp, by omega, by omega, by omega, he, fun _ _ => d⟩
    · rw [if_neg (by omega), if_pos (by omega), if_pos (by omega)]
      exact ⟨i, by simp, by omega, by omega, by omega, he, fun _ h => by omega⟩
theorem common_ {f : List S66} (hf : Good f) (hl2 : f.length ≤ 6) (s0 s1 s2 : Cx) {a b : Nat} (ha : a < f.length) (hb : b < f.length) :
    ∃ n : Nat, (∀ k, 30 ≤ k → impl_Feeder_common.f k s0 s1 s2 f a b = some ((pth f a).take n, s0, s1, s2)) ∧ 1 ≤ n ∧ n ≤ (pth f a).length ∧ n ≤ (pth f b).length ∧ (∀ j : Nat, j < n → rd (pth f a) j = rd (pth f b) j) ∧
      (n < (pth f a).length → n < (pth f b).length → rd (pth f a) n ≠ rd (pth f b) n) := by
  have l1 := pth_len f a
  have l2 := pth_len f b
  obtain ⟨n, h1, h2, h3, h4, h5, h6⟩ := common_l0 (pth f a) (pth f b) s0 s1 s2 f (by omega) (pth f a).length 0 30 (by omega) (by omega) (by omega) (fun j hj => by omega)
  have h7 : ∀ k, 30 ≤ k → impl_Feeder_common.l0 k (pth f a) (pth f b) 0 s0 s1 s2 f = some ((pth f a).take n, s0, s1, s2) := lift_ (fun k => by
    have := impl_Feeder_common.mono_l k
    exact this _ _ _ _ _ _ _) h1
  refine ⟨n, fun k hk => ?_, ?_, h3, h4, h5, h6⟩
  · unfold impl_Feeder_common.f
    rw [path_ hf hl2 s0 s1 s2 ha hk]
    simp only [Option.bind_some]
    rw [path_ hf hl2 s0 s1 s2 hb hk]
    simp only [Option.bind_some]
    exact h7 k hk
  · rcases Nat.eq_zero_or_pos n with rfl | hp
    · exact absurd ((pth_head hf a ha).trans (pth_head hf b hb).symm) (h6 (by omega) (by omega))
    · exact hp
end Go.Proofs.Ytcgpomicgbmdlaa.Pure
namespace Go.Proofs.Ytcgpomicgbmdlaa.Pure
open Go Go.RowKit Go.Proofs.YtcgpomicgbmdlaaW.PrintWords Go.Proofs.YtcgpomicgbmdlaaW.PrintLast Go.Proofs.Ytcgpomicgbmdlaa.PFnCommon Go.Proofs.Ytcgpomicgbmdlaa.Bd
set_option linter.unusedSimpArgs false
set_option linter.unusedVariables false

/-! ### impedances -/
theorem z1 : fok .add .f32 0 0 = true := by decide +kernel
theorem z2 : fv .add .f32 0 0 = 0 := by decide +kernel
theorem y1 : fok .add .f32 1056964608 1056964608 = true := by decide +kernel
theorem y4 : fok .add .f32 (fv .add .f32 1056964608 1056964608) 1056964608 = true := by decide +kernel
theorem y5 : fv .add .f32 (fv .add .f32 1056964608 1056964608) 1056964608 = 1069547520 := by decide +kernel
theorem imp_l0 {f : List S66} (hf : Good f) (s0 s1 s2 : Cx) (x : List Int) (hlen : x.length ≤ 100) (hx : ∀ j : Nat, j < x.length → 0 ≤ rd x j ∧ rd x j < f.length) : ∀ (m j k A B C' : Nat), j + m = x.length → m + 1 ≤ k → A + 4 * m ≤ 24 → B + 4 * m ≤ 24 → C' + 2 * m ≤ 12 →
    ∃ A2 B2 C2 : Nat, A2 ≤ A + 4 * m ∧ B2 ≤ B + 4 * m ∧ C2 ≤ C' + 2 * m ∧ impl_Feeder_impedance.l0 k (⟨h A, h B⟩ : Cx) (⟨0, h C'⟩ : Cx) x (x.length : Int) j s0 s1 s2 f = some (⟨h A2, h B2⟩, ⟨0, h C2⟩, s0, s1, s2) := by
  intro m
  induction m with
  | zero =>
    intro j k A B C' hj hk _ _ _
    obtain ⟨k, rfl⟩ : ∃ i, k = i + 1 := ⟨k - 1, by omega⟩
    refine ⟨A, B, C', by omega, by omega, by omega, ?_⟩
    rw [impl_Feeder_impedance.l0, if_neg (by omega)]
  | succ m ih =>
    intro j k A B C' hj hk hA hB hC
    obtain ⟨k, rfl⟩ : ∃ i, k = i + 1 := ⟨k - 1, by omega⟩
    obtain ⟨r1, r2⟩ := hx j (by omega)
    have g0 : (j : Int) < (x.length : Int) := by omega
    have g1 : 0 ≤ (j : Int) := by omega
    obtain ⟨q, hq⟩ : ∃ q : Nat, rd x j = (q : Int) := ⟨(rd x j).toNat, by omega⟩
    obtain ⟨o, p, s, ho, hp, hs, _, h1, h2⟩ := (hf q (by omega)).line
    obtain ⟨a1, a2⟩ := add16 (a := A) (b := o) (by omega) (by omega)
    obtain ⟨b1, b2⟩ := add16 (a := B) (b := p) (by omega) (by omega)
    obtain ⟨c1, c2⟩ := add16 (a := C') (b := s) (by omega) (by omega)
    have e : wrap64 ((j : Int) + 1) = ((j + 1 : Nat) : Int) := by rw [w64 (by omega) (by omega)]; omega
    rw [impl_Feeder_impedance.l0, if_pos g0, if_pos g1, if_pos g0, if_pos r1, if_pos r2, hq]
    simp only [h1, h2, a1, a2, b1, b2, c1, c2, z1, z2, e, if_true]
    obtain ⟨A2, B2, C2, g1, g2, g3, g4⟩ := ih (j + 1) k (A + o) (B + p) (C' + s) (by omega) (by omega) (by omega) (by omega) (by omega)
    exact ⟨A2, B2, C2, by omega, by omega, by omega, g4⟩
theorem pth_rd {f : List S66} {a : Nat} (ha : a < f.length) : ∀ j : Nat, j < (pth f a).length → 0 ≤ rd (pth f a) j ∧ rd (pth f a) j < f.length := by
  intro j hj
  have := pth_mem f a (rd (pth f a) j) (by
    unfold rd
    rw [List.getD_eq_getElem?_getD, Int.toNat_natCast, List.getElem?_eq_getElem hj]
    exact List.getElem_mem hj)
  omega
/-- The impedance of a path to a bus: sixteenths. -/
theorem imp_ {f : List S66} (hf : Good f) (hl2 : f.length ≤ 6) (s0 s1 s2 : Cx) {a : Nat} (ha : a < f.length) :
    ∃ A B C' : Nat, A ≤ 20 ∧ B ≤ 20 ∧ C' ≤ 10 ∧ ∀ k, 20 ≤ k → impl_Feeder_impedance.f k s0 s1 s2 f (pth f a) = some (⟨h A, h B⟩, ⟨0, h C'⟩, s0, s1, s2) := by
  have hl := pth_len f a
  have hr := pth_rd ha
  have hh := pth_head hf a ha
  have hp := hf 0 (by omega)
  obtain ⟨o, p, s, _, _, _, hz, h1, h2⟩ := hp.line
  obtain ⟨rfl, rfl, rfl⟩ := hz rfl
  obtain ⟨A, B, C', g1, g2, g3, g4⟩ := imp_l0 hf s0 s1 s2 (pth f a) (by omega) hr ((pth f a).length - 1) 1 19 0 0 0 (by omega) (by omega) (by omega) (by omega) (by omega)
  refine ⟨A, B, C', by omega, by omega, by omega, ?_⟩
  unfold impl_Feeder_impedance.f
  refine lift_ (fun k => ?_) ?_
  · have := impl_Feeder_impedance.mono_l k
    exact this _ _ _ _ _ _ _ _ _
  · have z1 : fok .add .f32 0 0 = true := by decide +kernel
    have z2 : fv .add .f32 0 0 = 0 := by decide +kernel
    have e : wrap64 (0 + 1) = ((1 : Nat) : Int) := by kernel_rfl
    rw [h0] at h1 h2 g4
    have h1' : (rd_T66 f 0).f1 = ⟨0, 0⟩ := h1
    have h2' : (rd_T66 f 0).f2 = ⟨0, 0⟩ := h2
    rw [impl_Feeder_impedance.l0, if_pos (by omega), if_pos (by omega), if_pos (by omega), hh, if_pos (by omega), if_pos (by omega)]
    simp only [h1', h2', z1, z2, e, if_true]
    exact g4
theorem imp0_ {f : List S66} (hf : Good f) (hl : 1 ≤ f.length) (s0 s1 s2 : Cx) : ∀ k, 10 ≤ k → impl_Feeder_impedance.f k s0 s1 s2 f [0] = some (⟨0, 0⟩, ⟨0, 0⟩, s0, s1, s2) := by
  have hp := hf 0 (by omega)
  obtain ⟨o, p, s, _, _, _, hz, h1, h2⟩ := hp.line
  obtain ⟨rfl, rfl, rfl⟩ := hz rfl
  unfold impl_Feeder_impedance.f
  refine lift_ (fun k => ?_) ?_
  · have := impl_Feeder_impedance.mono_l k
    exact this _ _ _ _ _ _ _ _ _
  · have z1 : fok .add .f32 0 0 = true := by decide +kernel
    have z2 : fv .add .f32 0 0 = 0 := by decide +kernel
    have e : wrap64 (0 + 1) = 1 := by kernel_rfl
    rw [h0] at h1 h2
    have h1' : (rd_T66 f 0).f1 = ⟨0, 0⟩ := h1
    have h2' : (rd_T66 f 0).f2 = ⟨0, 0⟩ := h2
    have hh : rd [0] 0 = 0 := rfl
    rw [impl_Feeder_impedance.l0, if_pos (by simp), if_pos (by omega), if_pos (by simp), hh, if_pos (by omega), if_pos (by omega)]
    simp only [h1', h2', z1, z2, e, if_true]
    rw [impl_Feeder_impedance.l0, if_neg (by simp)]

/-! ### the fault -/
theorem S131 {v : Nat} (hv : v < 8) : C 131 (⟨fS v, 0⟩ : Cx) := by
  have : (List.range 8).all (fun v => decide (Bd.B .f32 131 (fS v))) = true := by decide +kernel
  exact ⟨of_decide_eq_true (all_lt this hv), (zero_B _).mono (by omega)⟩
theorem pow_some {a b : Nat} (h1 : powT a b = true) : ∃ p, impl_power.f ⟨h (3 * a + 24), h (3 * b)⟩ = some p ∧ Bd.Lw .f64 1023 p := by
  obtain ⟨p, hp, hl⟩ := any_some h1
  exact ⟨p, hp, of_decide_eq_true hl⟩
theorem fault_ {v A B' C' : Nat} (hv : v < 8) (hA : A ≤ 20) (hB : B' ≤ 20) (hC : C' ≤ 10) : ∃ z l t : Cx, impl_SequenceOf.f (⟨h A, h B'⟩ : Cx) (⟨0, h C'⟩ : Cx) = some (z, l) ∧ C 141 t ∧
    ∀ k, 10 ≤ k → impl_FaultParts.f k ⟨fS v, 0⟩ z l 1 (⟨1056964608, 0⟩ : Cx) = some (t, t, t, true) := by
  have tr := all_lt reTab (a := A) (by omega)
  have ti := all_lt (all_lt imTab (a := B') (by omega)) (a := C') (by omega)
  have tp := all_lt (all_lt powTab (a := A) (by omega)) (a := B') (by omega)
  have t1 := all_lt Pure.hB (a := A) (by omega)
  have t2 := all_lt Pure.hB (a := B') (by omega)
  simp only [reT, imT, Bool.and_eq_true, beq_iff_eq] at tr ti
  simp only [Bool.and_eq_true, decide_eq_true_eq] at t1 t2
  obtain ⟨⟨⟨⟨⟨⟨r1, r2⟩, r3⟩, r4⟩, r5⟩, r6⟩, r7⟩ := tr
  obtain ⟨⟨⟨⟨⟨⟨i1, i2⟩, i3⟩, i4⟩, i5⟩, i6⟩, i7⟩ := ti
  obtain ⟨p, hp, hpl⟩ := pow_some tp
  · skip
    obtain ⟨t, q1, q2⟩ := quoC (n := 0) (c := 0) (S131 hv) t1.1 t2.2 hp hpl
    refine ⟨(⟨fv .add .f32 (fv .add .f32 (h A) 0) 0, fv .add .f32 (fv .add .f32 (h B') (h C')) (h C')⟩ : Cx), (⟨fv .sub .f32 (h A) 0, fv .sub .f32 (h B') (h C')⟩ : Cx), t, ?_, q2, ?_⟩
    · unfold impl_SequenceOf.f
      simp only [r1, r2, r3, i1, i2, i3, if_true]
    · intro k hk
      obtain ⟨k, rfl⟩ : ∃ j, k = j + 1 := ⟨k - 1, by omega⟩
      have y := isFinC q2 (by omega) k (by omega)
      have n0 : ¬ ((1 : Int) = 0) := by decide
      unfold impl_FaultParts.f
      simp only [y1, z1, z2, y4, y5, r4, r5, r6, r7, i4, i5, i6, i7, q1, n0, if_true, if_false, Option.bind_some]
      rw [impl_FaultParts.j0]
      simp only [y, if_true, Option.bind_some]
theorem feederFault_ {v : Nat} {f : List S66} (hf : Good f) (hl2 : f.length ≤ 6) (hv : v < 8) {b c z m : Cx} (hs : ∀ k, 60 ≤ k → impl_PartsOf.f k ⟨fS v, 0⟩ b c = some (z, ⟨fS v, 0⟩, m)) {a : Nat} (ha : a < f.length) :
    ∃ o s zz l t : Cx, (∀ k, 60 ≤ k → impl_Feeder_impedance.f k ⟨fS v, 0⟩ b c f (pth f a) = some (o, s, ⟨fS v, 0⟩, b, c)) ∧ impl_SequenceOf.f o s = some (zz, l) ∧ C 141 t ∧
      (∀ k, 60 ≤ k → impl_FaultParts.f k ⟨fS v, 0⟩ zz l 1 (⟨1056964608, 0⟩ : Cx) = some (t, t, t, true)) ∧
      (∀ k, 60 ≤ k → impl_Feeder_fault.f k ⟨fS v, 0⟩ b c f a 1 (⟨1056964608, 0⟩ : Cx) = some (t, t, t, true, ⟨fS v, 0⟩, b, c)) := by
  obtain ⟨A, B', C', hA, hB, hC, h1⟩ := imp_ hf hl2 ⟨fS v, 0⟩ b c ha
  obtain ⟨zz, l, t, h2, h3, h4⟩ := fault_ hv hA hB hC
  refine ⟨_, _, zz, l, t, fun k hk => h1 k (by omega), h2, h3, fun k hk => h4 k (by omega), fun k hk => ?_⟩
  unfold impl_Feeder_fault.f
  rw [path_ hf hl2 _ _ _ ha (by omega)]
  simp only [Option.bind_some]
  rw [h1 k (by omega)]
  simp only [Option.bind_some, h2]
  rw [hs k hk]
  simp only [Option.bind_some]
  rw [h4 k (by omega)]
  rfl
theorem subZ_tab : ∀ s : Bool, fok .sub .f32 0 (FloatKind.f32.format.word s 0) = true ∧ fv .sub .f32 0 (FloatKind.f32.format.word s 0) = 0 := by
  intro s; cases s <;> exact ⟨by decide +kernel, by decide +kernel⟩
theorem subS_tab : (List.range 8).all (fun v => [true, false].all fun s => fok .sub .f32 (fS v) (FloatKind.f32.format.word s 0) && (fv .sub .f32 (fS v) (FloatKind.f32.format.word s 0) == fS v)) = true := by decide +kernel
/-- A fault leaves the root at the plus part of the source. -/
theorem volts_ {v : Nat} {f : List S66} (hf : Good f) (hl : 1 ≤ f.length) (hl2 : f.length ≤ 6) (hv : v < 8) {b c z m : Cx} (hs : ∀ k, 60 ≤ k → impl_PartsOf.f k ⟨fS v, 0⟩ b c = some (z, ⟨fS v, 0⟩, m)) {a : Nat} (ha : a < f.length) :
    ∃ p q r : Cx, C 151 p ∧ C 151 q ∧ C 151 r ∧ (∀ k, 60 ≤ k → impl_PhasesOf.f k (⟨0, 0⟩ : Cx) ⟨fS v, 0⟩ (⟨0, 0⟩ : Cx) = some (p, q, r)) ∧
      (∀ k, 70 ≤ k → impl_FaultVoltages.f k ⟨fS v, 0⟩ b c f a 1 (⟨1056964608, 0⟩ : Cx) 0 = some (p, q, r, true)) := by
  obtain ⟨o, s, zz, l, t, h1, h2, h3, h4, h5⟩ := feederFault_ hf hl2 hv hs ha
  obtain ⟨p, q, r, g1, g2, g3, g4⟩ := phasesC (n := 141) (z := ⟨0, 0⟩) (p := ⟨fS v, 0⟩) (m := ⟨0, 0⟩) (C0.mono (by omega)) ((S131 hv).mono (by omega)) (C0.mono (by omega)) (by omega) (by omega)
  refine ⟨p, q, r, g2, g3, g4, g1, fun k hk => ?_⟩
  obtain ⟨k, rfl⟩ : ∃ j, k = j + 1 := ⟨k - 1, by omega⟩
  obtain ⟨w, w1, ⟨s1, w2⟩, ⟨s2, w3⟩⟩ := mulZ h3 (by omega)
  obtain ⟨re, im⟩ := w
  simp only at w2 w3
  subst w2 w3
  obtain ⟨u1, u2⟩ := subZ_tab s1
  obtain ⟨u3, u4⟩ := subZ_tab s2
  have u5 := all_lt subS_tab hv
  have u6 := List.all_eq_true.mp u5 s1 (by cases s1 <;> simp)
  simp only [Bool.and_eq_true, beq_iff_eq] at u6
  obtain ⟨n, c1, c2, c3, c4, c5, c6⟩ := common_ hf hl2 ⟨fS v, 0⟩ b c ha (b := 0) (by omega)
  have l0 := pth_len f 0
  have hn : n = 1 := by omega
  subst hn
  have hp : (pth f a).take 1 = [0] := by
    have e := pth_head hf a ha
    unfold rd at e
    cases hx : pth f a with
    | nil => have := (pth_len f a).1; rw [hx] at this; simp at this
    | cons x xs => rw [hx] at e; simp at e; simp [e]
  have sq : impl_SequenceOf.f (⟨0, 0⟩ : Cx) (⟨0, 0⟩ : Cx) = some (⟨0, 0⟩, ⟨0, 0⟩) := by kernel_rfl
  unfold impl_FaultVoltages.f
  rw [has_ hf hl hl2 _ _ _ (by omega) (by omega) (by omega)]
  simp only [Option.bind_some, if_true]
  rw [has_ hf hl hl2 _ _ _ (by omega) (by omega) (by omega)]
  simp only [Option.bind_some, Bool.not_true]
  rw [impl_FaultVoltages.j0, if_neg (by decide), h5 k (by omega)]
  simp only [Option.bind_some, if_true]
  have c1' := c1 k (by omega)
  rw [hp] at c1'
  have c1'' : impl_Feeder_common.f k ⟨fS v, 0⟩ b c f (a : Int) 0 = some ([0], ⟨fS v, 0⟩, b, c) := c1'
  rw [c1'']
  simp only [Option.bind_some]
  rw [imp0_ hf hl _ _ _ k (by omega)]
  simp only [Option.bind_some, sq, w1, u1, u2, u3, u4, u6.1, u6.2, if_true]
  rw [hs k (by omega)]
  simp only [Option.bind_some, u6.1, u6.2, u3, u4, if_true]
  rw [g1 k (by omega)]
  rfl
end Go.Proofs.Ytcgpomicgbmdlaa.Pure
namespace Go.Proofs.Ytcgpomicgbmdlaa.Pure
open Go Go.RowKit Go.Proofs.YtcgpomicgbmdlaaW.PrintWords Go.Proofs.YtcgpomicgbmdlaaW.PrintLast Go.Proofs.Ytcgpomicgbmdlaa.PFnCommon Go.Proofs.Ytcgpomicgbmdlaa.Bd
set_option linter.unusedSimpArgs false
set_option linter.unusedVariables false

theorem near0 : flt .f64 0 4562254508917369340 = true := by decide +kernel
theorem j2_ {v : Nat} {f : List S66} (hf : Good f) (hl : 1 ≤ f.length) (hl2 : f.length ≤ 6) (hv : v < 8) {b c z m : Cx} (hs : ∀ k, 60 ≤ k → impl_PartsOf.f k ⟨fS v, 0⟩ b c = some (z, ⟨fS v, 0⟩, m)) {a : Nat} (ha : a < f.length) {k : Nat} (hk : 80 ≤ k) :
    laws_FnCommon.j2 k (a : Int) false ⟨fS v, 0⟩ b c f = some true := by
  obtain ⟨o, s, zz, l, t, h1, h2, h3, h4, h5⟩ := feederFault_ hf hl2 hv hs ha
  obtain ⟨p, q, r, g1, g2, g3, g4, g5⟩ := volts_ hf hl hl2 hv hs ha
  obtain ⟨ia, ib, ic, i1, i2, i3, i4⟩ := phasesC (n := 141) h3 h3 h3 (by omega) (by omega)
  obtain ⟨k, rfl⟩ : ∃ j, k = j + 1 := ⟨k - 1, by omega⟩
  have pi : impl_PathImpedance.f k ⟨fS v, 0⟩ b c f (a : Int) = some (o, s, true) := by
    unfold impl_PathImpedance.f
    rw [has_ hf hl hl2 _ _ _ (by omega) (by omega) (by omega)]
    simp only [Option.bind_some, if_true]
    rw [path_ hf hl2 _ _ _ ha (by omega)]
    simp only [Option.bind_some]
    rw [h1 k (by omega)]
    rfl
  have fc : impl_FaultCurrents.f k ⟨fS v, 0⟩ b c f (a : Int) 1 (⟨1056964608, 0⟩ : Cx) = some (ia, ib, ic, true) := by
    unfold impl_FaultCurrents.f
    rw [has_ hf hl hl2 _ _ _ (by omega) (by omega) (by omega)]
    simp only [Option.bind_some, if_true]
    rw [h5 k (by omega)]
    simp only [Option.bind_some, if_true]
    rw [i1 k (by omega)]
    rfl
  rw [laws_FnCommon.j2, if_neg (by decide), g5 k (by omega)]
  simp only [Option.bind_some]
  rw [hs k (by omega)]
  simp only [Option.bind_some]
  rw [g4 k (by omega)]
  simp only [Option.bind_some, pi, h2]
  rw [h4 k (by omega)]
  simp only [Option.bind_some, fc, if_true]
  rw [apart0 g1 (by omega), apart0 g2 (by omega), apart0 g3 (by omega)]
  simp only [Option.bind_some, near0, if_true]
  rw [i1 k (by omega)]
  simp only [Option.bind_some]
  rw [samePh i2 i3 i4 (by omega) k (by omega)]
  simp only [Option.bind_some, if_true]
  rw [samePa h3 h3 h3 (by omega) k (by omega)]
  rfl
theorem rd_take {x : List Int} {n j : Nat} (h0 : j < n) : rd (x.take n) (j : Int) = rd x (j : Int) := by
  unfold rd
  simp only [Int.toNat_natCast, List.getD_eq_getElem?_getD, List.getElem?_take, h0, if_true]
theorem w64s {i : Nat} (h : i < 1000) : wrap64 ((i : Int) + 1) = ((i + 1 : Nat) : Int) := by rw [w64 (by omega) (by omega)]; omega
theorem l0_step (k : Nat) (a : Int) (p x y : List Int) (i : Int) (s b c : Cx) (f : List S66) (g0 : i < (p.length : Int)) (g1 : 0 ≤ i) (g2 : i < (x.length : Int)) (g3 : i < (y.length : Int)) (u1 : rd p i = rd x i) (u2 : rd p i = rd y i) :
    laws_FnCommon.l0 (k + 1) a p x y i s b c f = laws_FnCommon.l0 k a p x y (wrap64 (i + 1)) s b c f := by
  rw [laws_FnCommon.l0, if_pos g0, if_pos g1, if_pos g2, if_pos u1, if_pos g3, if_pos u2]
theorem loop_ {v : Nat} {f : List S66} (hf : Good f) (hl : 1 ≤ f.length) (hl2 : f.length ≤ 6) (hv : v < 8) {b c z m : Cx} (hs : ∀ k, 60 ≤ k → impl_PartsOf.f k ⟨fS v, 0⟩ b c = some (z, ⟨fS v, 0⟩, m)) {a : Nat} (ha : a < f.length)
    (x y : List Int) (n : Nat) (h1 : n ≤ x.length) (h2 : n ≤ y.length) (hx : x.length ≤ 100) (h3 : ∀ j : Nat, j < n → rd x j = rd y j) (h4 : n < x.length → n < y.length → rd x n ≠ rd y n) : ∀ (q i k : Nat), i + q = n → q + 90 ≤ k →
    laws_FnCommon.l0 k (a : Int) (x.take n) x y (i : Int) ⟨fS v, 0⟩ b c f = some true := by
  have hlen : (x.take n).length = n := by simp; omega
  intro q
  induction q with
  | zero =>
    intro i k hi hk
    obtain ⟨k, rfl⟩ : ∃ j, k = j + 1 := ⟨k - 1, by omega⟩
    have hin : i = n := by omega
    subst hin
    have j2 := j2_ hf hl hl2 hv hs ha (k := k) (by omega)
    rw [laws_FnCommon.l0, hlen, if_neg (by omega)]
    by_cases c1 : i < x.length
    · rw [if_pos (by omega)]
      by_cases c2 : i < y.length
      · rw [if_pos (by omega), if_pos (by omega)]
        have e : (rd x (i : Int) == rd y (i : Int)) = false := beq_eq_false_iff_ne.mpr (h4 c1 c2)
        rw [e]
        exact j2
      · rw [if_neg (by omega)]
        exact j2
    · rw [if_neg (by omega)]
      exact j2
  | succ q ih =>
    intro i k hi hk
    obtain ⟨k, rfl⟩ : ∃ j, k = j + 1 := ⟨k - 1, by omega⟩
    have u1 : rd (x.take n) (i : Int) = rd x (i : Int) := rd_take (by omega)
    have u2 : rd (x.take n) (i : Int) = rd y (i : Int) := u1.trans (h3 i (by omega))
    have i1 : i < n := by omega
    have i2 : i < x.length := by omega
    have i3 : i < y.length := by omega
    have e := w64s (i := i) (by omega)
    have j := ih (i + 1) k (by omega) (by omega)
    clear ih h4 h3 hs hf
    have st := l0_step k (a : Int) (x.take n) x y (i : Int) ⟨fS v, 0⟩ b c f (by rw [hlen]; exact Int.ofNat_lt.mpr i1) (Int.natCast_nonneg i) (Int.ofNat_lt.mpr i2) (Int.ofNat_lt.mpr i3) u1 u2
    rw [e] at st
    exact st.trans j
theorem at_ {l : List Int} (hw : ∀ x ∈ l, (Lit.int .u8 x).wf = true) (i : Nat) (n : Nat) (hn : 1 ≤ n) : ∃ t : Nat, laws_r8At.f l (i : Int) (n : Int) = some (t : Int) ∧ t < n := by
  unfold laws_r8At.f
  split
  · exact ⟨0, rfl, by omega⟩
  · split
    · exact ⟨0, rfl, by omega⟩
    · rw [if_pos (by omega), if_pos (by omega), if_neg (by omega)]
      obtain ⟨r1, r2⟩ := rd_u8 hw (i : Int)
      rw [w64 (by omega) (by omega)]
      have m1 := Int.tmod_nonneg (n : Int) r1
      have m2 := Int.tmod_lt_of_pos (rd l (i : Int)) (b := (n : Int)) (by omega)
      exact ⟨(Int.tmod (rd l (i : Int)) n).toNat, by rw [Int.toNat_of_nonneg m1], by omega⟩

end Go.Proofs.Ytcgpomicgbmdlaa.Pure
