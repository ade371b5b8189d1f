-- Words and walks of the print, as far as this claim uses them (laid by wip/mkclaim.py of this session). Lean checks it.
import Derived.Test.YtcgpomicgbmdlaaFl
import Derived.Test.YtcgpomicgbmdlaaPFnCommonm0
namespace Go.Proofs.Ytcgpomicgbmdlaa.PFnCommon
open Go.RowKit Go.Proofs.YtcgpomicgbmdlaaW.PrintWords Go.Proofs.YtcgpomicgbmdlaaW.PrintLast Go.Proofs.YtcgpomicgbmdlaaW.PrintMore
attribute [local go_sem] max2_int min2_int max_two min_two max_three min_three max_four min_four   -- for this text's walks alone
set_option linter.unusedVariables false
set_option linter.unusedSimpArgs false

/-! ### laws_r8At: function 40 -/
def laws_r8At.f (l0 : List Int) (a1 : Int) (a2 : Int) : Option (Int) := if a2 ≤ 1 then (some 0) else (if a1 ≥ (l0.length : Int) then (some 0) else (if 0 ≤ a1 then (if a1 < (l0.length : Int) then (if a2 = 0 then (none) else (some (Int.tmod (wrap64 (rd l0 a1)) a2))) else (none)) else (none)))
set_option maxHeartbeats 8000000 in
set_option maxRecDepth 100000 in
theorem laws_r8At.calls (A0 : Option Addr) (c0 : Nat) (l0 : List Int) (a1 : Int) (a2 : Int) (r : Int) (w : World) (hr0 : Kd.C (Kd.int .u8) w A0 l0.length l0) (hc0 : l0.length ≤ c0) (h : laws_r8At.f l0 a1 a2 = some r) :
  Calls Try.prog 40 #[.slice A0 l0.length c0, .int .i64 a1, .int .i64 a2] w fun e w' => e = .returned (.int .i64 r) ∧ Drawn0 w w' := by
 have HR0 := Aside0.mk hr0
 have HC0 := Aside0.mk hc0
 clear hr0 hc0
 have H : (if a2 ≤ 1 then (some 0) else (if a1 ≥ (l0.length : Int) then (some 0) else (if 0 ≤ a1 then (if a1 < (l0.length : Int) then (if a2 = 0 then (none) else (some (Int.tmod (wrap64 (rd l0 a1)) a2))) else (none)) else (none)))) = some r := h
 clear h
 by_cases c4 : a2 ≤ 1
 ·rw [if_pos c4] at H
  have c4b0 : decide (a2 ≤ 1) = true := decide_eq_true c4
  clear c4
  obtain rfl := Option.some.inj H
  go_enter Try.func40, Try.ntmps40
  go_wp2
  go_ret
  exact ⟨rs_, dr_⟩
 ·rw [if_neg c4] at H
  have c4b0 : decide (a2 ≤ 1) = false := decide_eq_false c4
  clear c4
  by_cases c5 : a1 ≥ (l0.length : Int)
  ·rw [if_pos c5] at H
   have c5b0 : decide ((l0.length : Int) ≤ a1) = true := decide_eq_true c5
   clear c5
   obtain rfl := Option.some.inj H
   go_enter Try.func40, Try.ntmps40
   go_wp2
   go_ret
   exact ⟨rs_, dr_⟩
  ·rw [if_neg c5] at H
   have c5b0 : decide ((l0.length : Int) ≤ a1) = false := decide_eq_false c5
   clear c5
   by_cases c6 : 0 ≤ a1
   ·rw [if_pos c6] at H
    have c6b0 : decide (0 ≤ a1) = true := decide_eq_true c6
    clear c6
    by_cases c7 : a1 < (l0.length : Int)
    ·rw [if_pos c7] at H
     have c7b0 : decide (a1 < (l0.length : Int)) = true := decide_eq_true c7
     clear c7
     by_cases c8 : a2 = 0
     ·rw [if_pos c8] at H
      exact absurd H (by simp)
     ·rw [if_neg c8] at H
      have c8b0 : (a2 == 0) = false := beq_eq_false_iff_ne.mpr c8
      have c8b1 : (a2 != 0) = true := bne_iff_ne.mpr c8
      obtain rfl := Option.some.inj H
      have p210 : 0 ≤ (a1 : Int) := of_decide_eq_true (by first | (with_reducible assumption) | assumption)
      have q210 : a1 < (l0.length : Int) := of_decide_eq_true (by first | (with_reducible assumption) | assumption)
      obtain ⟨ad210, e210, hx210_0⟩ := Kd.at_int HR0.out a1 p210 q210
      cases e210
      replace p210 := eq_true p210
      replace q210 := eq_true q210
      go_enter Try.func40, Try.ntmps40
      go_wp2
      go_ret
      exact ⟨rs_, dr_⟩
    ·rw [if_neg c7] at H
     exact absurd H (by simp)
   ·rw [if_neg c6] at H
    exact absurd H (by simp)

end Go.Proofs.Ytcgpomicgbmdlaa.PFnCommon
namespace Go.Proofs.Ytcgpomicgbmdlaa.PFnCommon
open Go.RowKit Go.Proofs.YtcgpomicgbmdlaaW.PrintWords Go.Proofs.YtcgpomicgbmdlaaW.PrintLast Go.Proofs.YtcgpomicgbmdlaaW.PrintMore
attribute [local go_sem] max2_int min2_int max_two min_two max_three min_three max_four min_four   -- for this text's walks alone
set_option linter.unusedVariables false
set_option linter.unusedSimpArgs false

/-! ### impl_in: function 88 -/
def impl_in.f (a0 : Int) (a1 : Int) (a2 : Int) : Option (Bool) := if a0 ≥ a1 then (some (decide (a0 ≤ a2))) else (some false)
set_option maxHeartbeats 8000000 in
set_option maxRecDepth 100000 in
theorem impl_in.calls (a0 : Int) (a1 : Int) (a2 : Int) (r : Bool) (w : World) (h : impl_in.f a0 a1 a2 = some r) :
  Calls Try.prog 88 #[.int .i64 a0, .int .i64 a1, .int .i64 a2] w fun e w' => e = .returned (.bool r) ∧ Drawn0 w w' := by
 have H : (if a0 ≥ a1 then (some (decide (a0 ≤ a2))) else (some false)) = some r := h
 clear h
 by_cases c4 : a0 ≥ a1
 ·rw [if_pos c4] at H
  have c4b0 : decide (a1 ≤ a0) = true := decide_eq_true c4
  clear c4
  obtain rfl := Option.some.inj H
  go_enter Try.func88, Try.ntmps88
  go_wp2
  go_ret
  exact ⟨rs_, dr_⟩
 ·rw [if_neg c4] at H
  have c4b0 : decide (a1 ≤ a0) = false := decide_eq_false c4
  clear c4
  obtain rfl := Option.some.inj H
  go_enter Try.func88, Try.ntmps88
  go_wp2
  go_ret
  exact ⟨rs_, dr_⟩

/-! ### impl_kindOk: function 97 -/
def impl_kindOk.f (a0 : Int) : Option (Bool) := (impl_in.f a0 0 2).bind fun t211 => (some t211)
set_option maxHeartbeats 8000000 in
set_option maxRecDepth 100000 in
theorem impl_kindOk.calls (a0 : Int) (r : Bool) (w : World) (h : impl_kindOk.f a0 = some r) :
  Calls Try.prog 97 #[.int .i64 a0] w fun e w' => e = .returned (.bool r) ∧ Drawn0 w w' := by
 have H : ((impl_in.f a0 0 2).bind fun t211 => (some t211)) = some r := h
 clear h
 replace H := Option.bind_eq_some_iff.mp H
 obtain ⟨t211, A20, H⟩ := H
 try dsimp only at H
 have A2 := Aside0.mk A20
 clear A20
 obtain rfl := Option.some.inj H
 go_enter Try.func97, Try.ntmps97
 go_wp2_with (first | ((with_reducible refine gate_callee (f := 88) rfl ?_); refine gx_ (some 4) Try.func88 #[.int .i64 a0, .int .i64 0, .int .i64 2] ?_; (with_reducible refine (impl_in.calls a0 0 2 t211 _ A2.out).mono ?_); rintro e w' ⟨rfl, ⟨nd, rfl⟩⟩; refine ⟨_, rfl, ?_⟩))
 go_ret
 exact ⟨rs_, dr_⟩

end Go.Proofs.Ytcgpomicgbmdlaa.PFnCommon
namespace Go.Proofs.Ytcgpomicgbmdlaa.PFnCommon
open Go.RowKit Go.Proofs.YtcgpomicgbmdlaaW.PrintWords Go.Proofs.YtcgpomicgbmdlaaW.PrintLast Go.Proofs.YtcgpomicgbmdlaaW.PrintMore
attribute [local go_sem] max2_int min2_int max_two min_two max_three min_three max_four min_four   -- for this text's walks alone
set_option linter.unusedVariables false
set_option linter.unusedSimpArgs false

/-! ### impl_ValidFeeder: function 34 -/
mutual
def impl_ValidFeeder.l0 : Nat → List (S66) → Int → Int → Cx → Cx → Cx → List (S66) → Option (Bool)
 | 0, _, _, _, _, _, _, _ => none
 | k + 1, x6, x7, x8, x213000, x213001, x213002, x213003 => if x8 < x7 then (if 0 ≤ x8 then (if x8 < (x6.length : Int) then ((impl_kindOk.f ((rd_T66 x6 x8).f3)).bind fun t216 => (if t216 = true then ((impl_in.f ((rd_T66 x6 x8).f5) 0 1000000).bind fun t217 => (impl_ValidFeeder.j1 k x8 x6 x7 x8 (!t217) x213000 x213001 x213002 x213003 ((rd_T66 x6 x8).f0) ((rd_T66 x6 x8).f1) ((rd_T66 x6 x8).f2) ((rd_T66 x6 x8).f3) ((rd_T66 x6 x8).f4.f0) ((rd_T66 x6 x8).f4.f1) ((rd_T66 x6 x8).f4.f2) ((rd_T66 x6 x8).f5))) else (impl_ValidFeeder.j1 k x8 x6 x7 x8 true x213000 x213001 x213002 x213003 ((rd_T66 x6 x8).f0) ((rd_T66 x6 x8).f1) ((rd_T66 x6 x8).f2) ((rd_T66 x6 x8).f3) ((rd_T66 x6 x8).f4.f0) ((rd_T66 x6 x8).f4.f1) ((rd_T66 x6 x8).f4.f2) ((rd_T66 x6 x8).f5)))) else (none)) else (none)) else ((impl_in.f (x213003.length : Int) 1 16).bind fun t213 => (some t213))
def impl_ValidFeeder.j1 : Nat → Int → List (S66) → Int → Int → Bool → Cx → Cx → Cx → List (S66) → Int → Cx → Cx → Int → Cx → Cx → Cx → Int → Option (Bool)
 | 0, _, _, _, _, _, _, _, _, _, _, _, _, _, _, _, _, _ => none
 | k + 1, x3, x6, x7, x8, x13, x213000, x213001, x213002, x213003, x216000, x216001, x216002, x216003, x216004, x216005, x216006, x216007 => if x13 = true then (some false) else (if x3 = 0 then (if x216000 = (-1) then (if (cne .f32 x216001.re x216001.im 0 0) = true then (impl_ValidFeeder.j2 k x3 x6 x7 x8 true x213000 x213001 x213002 x213003 x216000 x216001 x216002 x216003 x216004 x216005 x216006 x216007) else (impl_ValidFeeder.j2 k x3 x6 x7 x8 (cne .f32 x216002.re x216002.im 0 0) x213000 x213001 x213002 x213003 x216000 x216001 x216002 x216003 x216004 x216005 x216006 x216007)) else (impl_ValidFeeder.j2 k x3 x6 x7 x8 true x213000 x213001 x213002 x213003 x216000 x216001 x216002 x216003 x216004 x216005 x216006 x216007)) else (impl_ValidFeeder.j2 k x3 x6 x7 x8 false x213000 x213001 x213002 x213003 x216000 x216001 x216002 x216003 x216004 x216005 x216006 x216007))
def impl_ValidFeeder.j2 : Nat → Int → List (S66) → Int → Int → Bool → Cx → Cx → Cx → List (S66) → Int → Cx → Cx → Int → Cx → Cx → Cx → Int → Option (Bool)
 | 0, _, _, _, _, _, _, _, _, _, _, _, _, _, _, _, _, _ => none
 | k + 1, x3, x6, x7, x8, x24, x213000, x213001, x213002, x213003, x216000, x216001, x216002, x216003, x216004, x216005, x216006, x216007 => if x24 = true then (some false) else (if x3 > 0 then ((impl_in.f x216000 0 (wrap64 (x3 - 1))).bind fun t218 => (if t218 = true then (impl_ValidFeeder.l0 k x6 x7 (wrap64 (x8 + 1)) x213000 x213001 x213002 x213003) else (some false))) else (impl_ValidFeeder.l0 k x6 x7 (wrap64 (x8 + 1)) x213000 x213001 x213002 x213003))
end
def impl_ValidFeeder.f (k : Nat) (a0_0 : Cx) (a0_1 : Cx) (a0_2 : Cx) (l0_3 : List (S66)) : Option (Bool) := impl_ValidFeeder.l0 k l0_3 (l0_3.length : Int) 0 a0_0 a0_1 a0_2 l0_3
theorem impl_ValidFeeder.mono_l : ∀ k, (∀ y0 y1 y2 y3 y4 y5 y6, LeO (impl_ValidFeeder.l0 k y0 y1 y2 y3 y4 y5 y6) (impl_ValidFeeder.l0 (k + 1) y0 y1 y2 y3 y4 y5 y6)) ∧ (∀ y0 y1 y2 y3 y4 y5 y6 y7 y8 y9 y10 y11 y12 y13 y14 y15 y16, LeO (impl_ValidFeeder.j1 k y0 y1 y2 y3 y4 y5 y6 y7 y8 y9 y10 y11 y12 y13 y14 y15 y16) (impl_ValidFeeder.j1 (k + 1) y0 y1 y2 y3 y4 y5 y6 y7 y8 y9 y10 y11 y12 y13 y14 y15 y16)) ∧ (∀ y0 y1 y2 y3 y4 y5 y6 y7 y8 y9 y10 y11 y12 y13 y14 y15 y16, LeO (impl_ValidFeeder.j2 k y0 y1 y2 y3 y4 y5 y6 y7 y8 y9 y10 y11 y12 y13 y14 y15 y16) (impl_ValidFeeder.j2 (k + 1) y0 y1 y2 y3 y4 y5 y6 y7 y8 y9 y10 y11 y12 y13 y14 y15 y16))
 | 0 => ⟨fun _ _ _ _ _ _ _ r h => by simp [impl_ValidFeeder.l0] at h, fun _ _ _ _ _ _ _ _ _ _ _ _ _ _ _ _ _ r h => by simp [impl_ValidFeeder.j1] at h, fun _ _ _ _ _ _ _ _ _ _ _ _ _ _ _ _ _ r h => by simp [impl_ValidFeeder.j2] at h⟩
 | k + 1 => by
  obtain ⟨ih0, ih1, ih2⟩ := impl_ValidFeeder.mono_l k
  refine ⟨?_, ?_, ?_⟩
  ·intro y0 y1 y2 y3 y4 y5 y6
   unfold impl_ValidFeeder.l0
   repeat' first
   | (with_reducible exact ih0 _ _ _ _ _ _ _)
   | (with_reducible exact ih1 _ _ _ _ _ _ _ _ _ _ _ _ _ _ _ _ _)
   | (with_reducible exact ih2 _ _ _ _ _ _ _ _ _ _ _ _ _ _ _ _ _)
   | (with_reducible exact LeO.refl _)
   | (with_reducible exact LeO.none _)
   | (with_reducible refine LeO.ite ?_ ?_)
   | (with_reducible refine LeO.bind ?_ (fun _ => ?_))
   | exact ih0 _ _ _ _ _ _ _
   | exact ih1 _ _ _ _ _ _ _ _ _ _ _ _ _ _ _ _ _
   | exact ih2 _ _ _ _ _ _ _ _ _ _ _ _ _ _ _ _ _
   | exact LeO.none _
   | refine LeO.ite ?_ ?_
   | refine LeO.bind ?_ (fun _ => ?_)
  ·intro y0 y1 y2 y3 y4 y5 y6 y7 y8 y9 y10 y11 y12 y13 y14 y15 y16
   unfold impl_ValidFeeder.j1
   repeat' first
   | (with_reducible exact ih0 _ _ _ _ _ _ _)
   | (with_reducible exact ih1 _ _ _ _ _ _ _ _ _ _ _ _ _ _ _ _ _)
   | (with_reducible exact ih2 _ _ _ _ _ _ _ _ _ _ _ _ _ _ _ _ _)
   | (with_reducible exact LeO.refl _)
   | (with_reducible exact LeO.none _)
   | (with_reducible refine LeO.ite ?_ ?_)
   | (with_reducible refine LeO.bind ?_ (fun _ => ?_))
   | exact ih0 _ _ _ _ _ _ _
   | exact ih1 _ _ _ _ _ _ _ _ _ _ _ _ _ _ _ _ _
   | exact ih2 _ _ _ _ _ _ _ _ _ _ _ _ _ _ _ _ _
   | exact LeO.none _
   | refine LeO.ite ?_ ?_
   | refine LeO.bind ?_ (fun _ => ?_)
  ·intro y0 y1 y2 y3 y4 y5 y6 y7 y8 y9 y10 y11 y12 y13 y14 y15 y16
   unfold impl_ValidFeeder.j2
   repeat' first
   | (with_reducible exact ih0 _ _ _ _ _ _ _)
   | (with_reducible exact ih1 _ _ _ _ _ _ _ _ _ _ _ _ _ _ _ _ _)
   | (with_reducible exact ih2 _ _ _ _ _ _ _ _ _ _ _ _ _ _ _ _ _)
   | (with_reducible exact LeO.refl _)
   | (with_reducible exact LeO.none _)
   | (with_reducible refine LeO.ite ?_ ?_)
   | (with_reducible refine LeO.bind ?_ (fun _ => ?_))
   | exact ih0 _ _ _ _ _ _ _
   | exact ih1 _ _ _ _ _ _ _ _ _ _ _ _ _ _ _ _ _
   | exact ih2 _ _ _ _ _ _ _ _ _ _ _ _ _ _ _ _ _
   | exact LeO.none _
   | refine LeO.ite ?_ ?_
   | refine LeO.bind ?_ (fun _ => ?_)
theorem impl_ValidFeeder.mono : ∀ a0 a1 a2 a3 k, LeO (impl_ValidFeeder.f k a0 a1 a2 a3) (impl_ValidFeeder.f (k + 1) a0 a1 a2 a3) := by
 intro a0 a1 a2 a3 k
 obtain ⟨ih0, ih1, ih2⟩ := impl_ValidFeeder.mono_l k
 unfold impl_ValidFeeder.f
 repeat' first
   | (with_reducible exact ih0 _ _ _ _ _ _ _)
   | (with_reducible exact ih1 _ _ _ _ _ _ _ _ _ _ _ _ _ _ _ _ _)
   | (with_reducible exact ih2 _ _ _ _ _ _ _ _ _ _ _ _ _ _ _ _ _)
   | (with_reducible exact LeO.refl _)
   | (with_reducible exact LeO.none _)
   | (with_reducible refine LeO.ite ?_ ?_)
   | (with_reducible refine LeO.bind ?_ (fun _ => ?_))
   | exact ih0 _ _ _ _ _ _ _
   | exact ih1 _ _ _ _ _ _ _ _ _ _ _ _ _ _ _ _ _
   | exact ih2 _ _ _ _ _ _ _ _ _ _ _ _ _ _ _ _ _
   | exact LeO.none _
   | refine LeO.ite ?_ ?_
   | refine LeO.bind ?_ (fun _ => ?_)
set_option maxHeartbeats 8000000 in
set_option maxRecDepth 100000 in
theorem impl_ValidFeeder.calls (k : Nat) (a0_0 : Cx) (a0_1 : Cx) (a0_2 : Cx) (A0_3 : Option Addr) (c0_3 : Nat) (l0_3 : List (S66)) (r : Bool) (w : World) (hr0_3 : Kd.C k66 w A0_3 l0_3.length l0_3) (hc0_3 : l0_3.length ≤ c0_3) (h : impl_ValidFeeder.f k a0_0 a0_1 a0_2 l0_3 = some r) :
  Calls Try.prog 34 #[.agg #[.complex .f32 a0_0.re a0_0.im, .complex .f32 a0_1.re a0_1.im, .complex .f32 a0_2.re a0_2.im, .slice A0_3 l0_3.length c0_3]] w fun e w' => e = .returned (.bool r) ∧ Below w.heap.size w w' := by
 have hu42 := Try.underlying42
 have hu66 := Try.underlying66
 have HR0_3 := Aside0.mk hr0_3
 have HC0_3 := Aside0.mk hc0_3
 clear hr0_3 hc0_3
 have HB := Aside0.mk (Below.refl w.heap.size w)
 have H : (impl_ValidFeeder.l0 k l0_3 (l0_3.length : Int) 0 a0_0 a0_1 a0_2 l0_3) = some r := h
 clear h
 have H' := Aside0.mk H
 clear H
 go_enter Try.func34, Try.ntmps34
 go_wp2_with (first | ((with_reducible refine gate_dst (N := 1) rfl ?_); refine box_event ?hg (N := 1) ?hd (cs := #[.complex .f32 a0_0.re a0_0.im, .complex .f32 a0_1.re a0_1.im, .complex .f32 a0_2.re a0_2.im, .slice A0_3 l0_3.length c0_3]) (t := 42) ?hr ?_; (case hd => rfl); (case hg => rfl); (case hr => first | (go_simp; done) | (go_simp; rfl)); intro gb212 hg w2 hbox hb; have n0_ := Aside0.mk (below_step tb hb); have n1_ := Aside0.mk (hbox); have n2_ := Aside0.mk ((by rw [hg]; exact (below_size tb) : w.heap.size ≤ gb212)); have n3_ := Aside0.mk ((by rw [hg]; exact (below_size tb) : w.heap.size ≤ gb212)); clear HB; have HB := n0_; have BK212 := n1_; have GW212 := n2_; have GE212 := n3_; clear n0_ n1_ n2_ n3_; clear hb hbox hg; have hcz3_0 : w2.cell? ⟨gb212, 0, none⟩ = some (.complex .f32 a0_0.re a0_0.im) := (blk_cell BK212.out 0).trans rfl; have hcz3_1 : w2.cell? ⟨gb212, 1, none⟩ = some (.complex .f32 a0_1.re a0_1.im) := (blk_cell BK212.out 1).trans rfl; have hcz3_2 : w2.cell? ⟨gb212, 2, none⟩ = some (.complex .f32 a0_2.re a0_2.im) := (blk_cell BK212.out 2).trans rfl; have hcz3_3 : w2.cell? ⟨gb212, 3, none⟩ = some (.slice A0_3 l0_3.length c0_3) := (blk_cell BK212.out 3).trans rfl; have hfz3_0 := blk_frozen BK212.out 0; have hfz3_1 := blk_frozen BK212.out 1; have hfz3_2 := blk_frozen BK212.out 2; have hfz3_3 := blk_frozen BK212.out 3))
 go_loopg [8] k (fun kq v8 w' => ∃ (x8_1 : Int), v8 = .int .i64 x8_1 ∧ Aside0 (impl_ValidFeeder.l0 kq l0_3 (l0_3.length : Int) x8_1 a0_0 a0_1 a0_2 l0_3 = some r) ∧ Aside0 (kq ≤ k) ∧ Aside0 (w'.heap[gb212]? = some (.cells #[.complex .f32 a0_0.re a0_0.im, .complex .f32 a0_1.re a0_1.im, .complex .f32 a0_2.re a0_2.im, (.slice A0_3 l0_3.length c0_3)] 42 (0, 0))) ∧ Aside0 (Below w.heap.size w w'))
 case atStart => exact ⟨(0), rs_, H', ⟨Nat.le_refl _⟩, ⟨by refine bu ?_; exact BK212.out⟩, ⟨tb⟩⟩
 case round =>
  clear H'
  try clear p2
  try clear c3
  try clear hcz3_0
  try clear hcz3_1
  try clear hcz3_2
  try clear hcz3_3
  try clear hfz3_0
  try clear hfz3_1
  try clear hfz3_2
  try clear hfz3_3
  obtain ⟨x8_1, rfl, HA, HK1, BK212, HB⟩ := hrel
  cases gk with
  | zero => exact absurd HA.out (by simp [impl_ValidFeeder.l0])
  | succ k1 =>
   have H := HA.out
   clear HA
   simp only [impl_ValidFeeder.l0] at H
   by_cases c4 : x8_1 < (l0_3.length : Int)
   ·rw [if_pos c4] at H
    have c4b0 : decide (x8_1 < (l0_3.length : Int)) = true := decide_eq_true c4
    clear c4
    by_cases c5 : 0 ≤ x8_1
    ·rw [if_pos c5] at H
     have c5b0 : decide (0 ≤ x8_1) = true := decide_eq_true c5
     clear c5
     by_cases c6 : x8_1 < (l0_3.length : Int)
     ·rw [if_pos c6] at H
      have c6b0 : decide (x8_1 < (l0_3.length : Int)) = true := decide_eq_true c6
      clear c6
      have HC7 := Aside0.mk H
      clear H
      have p214 : 0 ≤ (x8_1 : Int) := of_decide_eq_true (by first | (with_reducible assumption) | assumption)
      have q214 : x8_1 < (l0_3.length : Int) := of_decide_eq_true (by first | (with_reducible assumption) | assumption)
      obtain ⟨ad214, e214, hx214_0, hx214_1, hx214_2, hx214_3, hx214_4, hx214_5, hx214_6, hx214_7⟩ := at_T66 HR0_3.out x8_1 p214 q214
      cases e214
      replace hx214_0 := (HB.out.cell (World.block_lt_of_cell? w _ hx214_0)).trans hx214_0
      replace hx214_1 := (HB.out.cell (World.block_lt_of_cell? w _ hx214_1)).trans hx214_1
      replace hx214_2 := (HB.out.cell (World.block_lt_of_cell? w _ hx214_2)).trans hx214_2
      replace hx214_3 := (HB.out.cell (World.block_lt_of_cell? w _ hx214_3)).trans hx214_3
      replace hx214_4 := (HB.out.cell (World.block_lt_of_cell? w _ hx214_4)).trans hx214_4
      replace hx214_5 := (HB.out.cell (World.block_lt_of_cell? w _ hx214_5)).trans hx214_5
      replace hx214_6 := (HB.out.cell (World.block_lt_of_cell? w _ hx214_6)).trans hx214_6
      replace hx214_7 := (HB.out.cell (World.block_lt_of_cell? w _ hx214_7)).trans hx214_7
      replace p214 := eq_true p214
      replace q214 := eq_true q214
      go_upto_region 4 with (first | ((with_reducible refine gate_dst (N := 4) rfl ?_); refine box_event ?hg (N := 4) ?hd (cs := #[.int .i64 0, .complex .f32 0 0, .complex .f32 0 0, .int .i64 0, .complex .f32 0 0, .complex .f32 0 0, .complex .f32 0 0, .int .i64 0]) (t := 66) ?hr ?_; (case hd => rfl); (case hg => rfl); (case hr => first | (go_simp; done) | (go_simp; rfl)); intro gb215 hg w8 hbox hb; have n0_ := Aside0.mk (blk_below (g := gb212) (o := .cells #[.complex .f32 a0_0.re a0_0.im, .complex .f32 a0_1.re a0_1.im, .complex .f32 a0_2.re a0_2.im, .slice (some ad214) l0_3.length c0_3] 42 (0, 0)) (bu BK212.out) hb); have n1_ := Aside0.mk (below_step tb hb); have n2_ := Aside0.mk (hbox); have n3_ := Aside0.mk ((by rw [hg]; exact (below_size tb) : w.heap.size ≤ gb215)); have n4_ := Aside0.mk ((by rw [hg]; exact (below_size tb) : w.heap.size ≤ gb215)); have n5_ := Aside0.mk ((by rw [hg]; exact Nat.ne_of_lt (blk_lt (g := gb212) (o := .cells #[.complex .f32 a0_0.re a0_0.im, .complex .f32 a0_1.re a0_1.im, .complex .f32 a0_2.re a0_2.im, .slice (some ad214) l0_3.length c0_3] 42 (0, 0)) (bu BK212.out)) : gb212 ≠ gb215)); have n6_ := Aside0.mk ((by rw [hg]; exact Nat.ne_of_gt (blk_lt (g := gb212) (o := .cells #[.complex .f32 a0_0.re a0_0.im, .complex .f32 a0_1.re a0_1.im, .complex .f32 a0_2.re a0_2.im, .slice (some ad214) l0_3.length c0_3] 42 (0, 0)) (bu BK212.out)) : gb215 ≠ gb212)); clear BK212; clear HB; have BK212 := n0_; have HB := n1_; have BK215 := n2_; have GW215 := n3_; have GE215 := n4_; have NB212_215 := n5_; have NB215_212 := n6_; clear n0_ n1_ n2_ n3_ n4_ n5_ n6_; clear hb hbox hg; have hnb9 := NB215_212.out; have hnc9 := NB212_215.out; have hcz10_0 : w8.cell? ⟨gb215, 0, none⟩ = some (.int .i64 0) := (blk_cell BK215.out 0).trans rfl; have hcz10_1 : w8.cell? ⟨gb215, 1, none⟩ = some (.complex .f32 0 0) := (blk_cell BK215.out 1).trans rfl; have hcz10_2 : w8.cell? ⟨gb215, 2, none⟩ = some (.complex .f32 0 0) := (blk_cell BK215.out 2).trans rfl; have hcz10_3 : w8.cell? ⟨gb215, 3, none⟩ = some (.int .i64 0) := (blk_cell BK215.out 3).trans rfl; have hcz10_4 : w8.cell? ⟨gb215, 4, none⟩ = some (.complex .f32 0 0) := (blk_cell BK215.out 4).trans rfl; have hcz10_5 : w8.cell? ⟨gb215, 5, none⟩ = some (.complex .f32 0 0) := (blk_cell BK215.out 5).trans rfl; have hcz10_6 : w8.cell? ⟨gb215, 6, none⟩ = some (.complex .f32 0 0) := (blk_cell BK215.out 6).trans rfl; have hcz10_7 : w8.cell? ⟨gb215, 7, none⟩ = some (.int .i64 0) := (blk_cell BK215.out 7).trans rfl; have hfz10_0 := blk_frozen BK215.out 0; have hfz10_1 := blk_frozen BK215.out 1; have hfz10_2 := blk_frozen BK215.out 2; have hfz10_3 := blk_frozen BK215.out 3; have hfz10_4 := blk_frozen BK215.out 4; have hfz10_5 := blk_frozen BK215.out 5; have hfz10_6 := blk_frozen BK215.out 6; have hfz10_7 := blk_frozen BK215.out 7))
      try refine pt_ ?_
      go_cut [13] (fun v13 wc => ∃ (kq : Nat) (x13_6 : Bool), v13 = .bool x13_6 ∧ Aside0 (impl_ValidFeeder.j1 kq x8_1 l0_3 (l0_3.length : Int) x8_1 x13_6 a0_0 a0_1 a0_2 l0_3 ((rd_T66 l0_3 x8_1).f0) ((rd_T66 l0_3 x8_1).f1) ((rd_T66 l0_3 x8_1).f2) ((rd_T66 l0_3 x8_1).f3) ((rd_T66 l0_3 x8_1).f4.f0) ((rd_T66 l0_3 x8_1).f4.f1) ((rd_T66 l0_3 x8_1).f4.f2) ((rd_T66 l0_3 x8_1).f5) = some r) ∧ Aside0 (kq ≤ k1) ∧ Aside0 (wc.heap[gb212]? = some (.cells #[.complex .f32 a0_0.re a0_0.im, .complex .f32 a0_1.re a0_1.im, .complex .f32 a0_2.re a0_2.im, (.slice (some ad214) l0_3.length c0_3)] 42 (0, 0))) ∧ Aside0 (wc.heap[gb215]? = some (.cells #[.int .i64 ((rd_T66 l0_3 x8_1).f0), .complex .f32 (((rd_T66 l0_3 x8_1).f1).re) (((rd_T66 l0_3 x8_1).f1).im), .complex .f32 (((rd_T66 l0_3 x8_1).f2).re) (((rd_T66 l0_3 x8_1).f2).im), .int .i64 ((rd_T66 l0_3 x8_1).f3), .complex .f32 (((rd_T66 l0_3 x8_1).f4.f0).re) (((rd_T66 l0_3 x8_1).f4.f0).im), .complex .f32 (((rd_T66 l0_3 x8_1).f4.f1).re) (((rd_T66 l0_3 x8_1).f4.f1).im), .complex .f32 (((rd_T66 l0_3 x8_1).f4.f2).re) (((rd_T66 l0_3 x8_1).f4.f2).im), .int .i64 ((rd_T66 l0_3 x8_1).f5)] 66 (0, 0))) ∧ Aside0 (Below w.heap.size w wc))
      case first =>
       have H := HC7.out
       clear HC7
       replace H := Option.bind_eq_some_iff.mp H
       obtain ⟨t216, A110, H⟩ := H
       try dsimp only at H
       have A11 := Aside0.mk A110
       clear A110
       by_cases c12 : t216 = true
       ·subst c12
        rw [if_pos rfl] at H; try dsimp only at H
        replace H := Option.bind_eq_some_iff.mp H
        obtain ⟨t217, A130, H⟩ := H
        try dsimp only at H
        have A13 := Aside0.mk A130
        clear A130
        have H' := Aside0.mk H
        clear H
        have hnb14 := NB215_212.out
        have hnc14 := NB212_215.out
        have hcz15_0 : w8.cell? ⟨gb215, 0, none⟩ = some (.int .i64 0) := (blk_cell BK215.out 0).trans rfl
        have hcz15_1 : w8.cell? ⟨gb215, 1, none⟩ = some (.complex .f32 0 0) := (blk_cell BK215.out 1).trans rfl
        have hcz15_2 : w8.cell? ⟨gb215, 2, none⟩ = some (.complex .f32 0 0) := (blk_cell BK215.out 2).trans rfl
        have hcz15_3 : w8.cell? ⟨gb215, 3, none⟩ = some (.int .i64 0) := (blk_cell BK215.out 3).trans rfl
        have hcz15_4 : w8.cell? ⟨gb215, 4, none⟩ = some (.complex .f32 0 0) := (blk_cell BK215.out 4).trans rfl
        have hcz15_5 : w8.cell? ⟨gb215, 5, none⟩ = some (.complex .f32 0 0) := (blk_cell BK215.out 5).trans rfl
        have hcz15_6 : w8.cell? ⟨gb215, 6, none⟩ = some (.complex .f32 0 0) := (blk_cell BK215.out 6).trans rfl
        have hcz15_7 : w8.cell? ⟨gb215, 7, none⟩ = some (.int .i64 0) := (blk_cell BK215.out 7).trans rfl
        have hfz15_0 := blk_frozen BK215.out 0
        have hfz15_1 := blk_frozen BK215.out 1
        have hfz15_2 := blk_frozen BK215.out 2
        have hfz15_3 := blk_frozen BK215.out 3
        have hfz15_4 := blk_frozen BK215.out 4
        have hfz15_5 := blk_frozen BK215.out 5
        have hfz15_6 := blk_frozen BK215.out 6
        have hfz15_7 := blk_frozen BK215.out 7
        go_wp2_with (first | ((with_reducible refine gate_callee (f := 97) rfl ?_); refine gx_ (some 16) Try.func97 #[.int .i64 ((rd_T66 l0_3 x8_1).f3)] ?_; (with_reducible refine (impl_kindOk.calls ((rd_T66 l0_3 x8_1).f3) true _ A11.out).mono ?_); rintro e w' ⟨rfl, ⟨nd, rfl⟩⟩; refine ⟨_, rfl, ?_⟩) | (go_at_call 88; (with_reducible refine (impl_in.calls ((rd_T66 l0_3 x8_1).f5) 0 1000000 t217 _ A13.out).mono ?_); rintro e w' ⟨rfl, ⟨nd, rfl⟩⟩))
        go_meet
        case rel => exact ⟨_, (!t217), rs_, H', ⟨by have := HK1.out; exact om_⟩, ⟨by refine bv ?_; exact BK212.out⟩, ⟨by refine bu ?_; refine blk_put (cs := #[.int .i64 ((rd_T66 l0_3 x8_1).f0), .complex .f32 (((rd_T66 l0_3 x8_1).f1).re) (((rd_T66 l0_3 x8_1).f1).im), .complex .f32 (((rd_T66 l0_3 x8_1).f2).re) (((rd_T66 l0_3 x8_1).f2).im), .int .i64 ((rd_T66 l0_3 x8_1).f3), .complex .f32 (((rd_T66 l0_3 x8_1).f4.f0).re) (((rd_T66 l0_3 x8_1).f4.f0).im), .complex .f32 (((rd_T66 l0_3 x8_1).f4.f1).re) (((rd_T66 l0_3 x8_1).f4.f1).im), .complex .f32 (((rd_T66 l0_3 x8_1).f4.f2).re) (((rd_T66 l0_3 x8_1).f4.f2).im), .int .i64 0]) ?_ 7 _ rfl; refine bu ?_; refine blk_put (cs := #[.int .i64 ((rd_T66 l0_3 x8_1).f0), .complex .f32 (((rd_T66 l0_3 x8_1).f1).re) (((rd_T66 l0_3 x8_1).f1).im), .complex .f32 (((rd_T66 l0_3 x8_1).f2).re) (((rd_T66 l0_3 x8_1).f2).im), .int .i64 ((rd_T66 l0_3 x8_1).f3), .complex .f32 (((rd_T66 l0_3 x8_1).f4.f0).re) (((rd_T66 l0_3 x8_1).f4.f0).im), .complex .f32 (((rd_T66 l0_3 x8_1).f4.f1).re) (((rd_T66 l0_3 x8_1).f4.f1).im), .complex .f32 0 0, .int .i64 0]) ?_ 6 _ rfl; refine bu ?_; refine blk_put (cs := #[.int .i64 ((rd_T66 l0_3 x8_1).f0), .complex .f32 (((rd_T66 l0_3 x8_1).f1).re) (((rd_T66 l0_3 x8_1).f1).im), .complex .f32 (((rd_T66 l0_3 x8_1).f2).re) (((rd_T66 l0_3 x8_1).f2).im), .int .i64 ((rd_T66 l0_3 x8_1).f3), .complex .f32 (((rd_T66 l0_3 x8_1).f4.f0).re) (((rd_T66 l0_3 x8_1).f4.f0).im), .complex .f32 0 0, .complex .f32 0 0, .int .i64 0]) ?_ 5 _ rfl; refine bu ?_; refine blk_put (cs := #[.int .i64 ((rd_T66 l0_3 x8_1).f0), .complex .f32 (((rd_T66 l0_3 x8_1).f1).re) (((rd_T66 l0_3 x8_1).f1).im), .complex .f32 (((rd_T66 l0_3 x8_1).f2).re) (((rd_T66 l0_3 x8_1).f2).im), .int .i64 ((rd_T66 l0_3 x8_1).f3), .complex .f32 0 0, .complex .f32 0 0, .complex .f32 0 0, .int .i64 0]) ?_ 4 _ rfl; refine bu ?_; refine blk_put (cs := #[.int .i64 ((rd_T66 l0_3 x8_1).f0), .complex .f32 (((rd_T66 l0_3 x8_1).f1).re) (((rd_T66 l0_3 x8_1).f1).im), .complex .f32 (((rd_T66 l0_3 x8_1).f2).re) (((rd_T66 l0_3 x8_1).f2).im), .int .i64 0, .complex .f32 0 0, .complex .f32 0 0, .complex .f32 0 0, .int .i64 0]) ?_ 3 _ rfl; refine bu ?_; refine blk_put (cs := #[.int .i64 ((rd_T66 l0_3 x8_1).f0), .complex .f32 (((rd_T66 l0_3 x8_1).f1).re) (((rd_T66 l0_3 x8_1).f1).im), .complex .f32 0 0, .int .i64 0, .complex .f32 0 0, .complex .f32 0 0, .complex .f32 0 0, .int .i64 0]) ?_ 2 _ rfl; refine bu ?_; refine blk_put (cs := #[.int .i64 ((rd_T66 l0_3 x8_1).f0), .complex .f32 0 0, .complex .f32 0 0, .int .i64 0, .complex .f32 0 0, .complex .f32 0 0, .complex .f32 0 0, .int .i64 0]) ?_ 1 _ rfl; refine bu ?_; refine blk_put (cs := #[.int .i64 0, .complex .f32 0 0, .complex .f32 0 0, .int .i64 0, .complex .f32 0 0, .complex .f32 0 0, .complex .f32 0 0, .int .i64 0]) ?_ 0 _ rfl; refine bu ?_; exact BK215.out⟩, ⟨tb⟩⟩
       ·replace c12 := Bool.eq_false_iff.mpr c12
        subst c12
        have H1 : (impl_ValidFeeder.j1 k1 x8_1 l0_3 (l0_3.length : Int) x8_1 true a0_0 a0_1 a0_2 l0_3 ((rd_T66 l0_3 x8_1).f0) ((rd_T66 l0_3 x8_1).f1) ((rd_T66 l0_3 x8_1).f2) ((rd_T66 l0_3 x8_1).f3) ((rd_T66 l0_3 x8_1).f4.f0) ((rd_T66 l0_3 x8_1).f4.f1) ((rd_T66 l0_3 x8_1).f4.f2) ((rd_T66 l0_3 x8_1).f5)) = some r := by rw [if_neg (show ¬ (false = true) by decide)] at H; exact H
        clear H
        have H := H1
        clear H1
        have H' := Aside0.mk H
        clear H
        have hnb16 := NB215_212.out
        have hnc16 := NB212_215.out
        have hcz17_0 : w8.cell? ⟨gb215, 0, none⟩ = some (.int .i64 0) := (blk_cell BK215.out 0).trans rfl
        have hcz17_1 : w8.cell? ⟨gb215, 1, none⟩ = some (.complex .f32 0 0) := (blk_cell BK215.out 1).trans rfl
        have hcz17_2 : w8.cell? ⟨gb215, 2, none⟩ = some (.complex .f32 0 0) := (blk_cell BK215.out 2).trans rfl
        have hcz17_3 : w8.cell? ⟨gb215, 3, none⟩ = some (.int .i64 0) := (blk_cell BK215.out 3).trans rfl
        have hcz17_4 : w8.cell? ⟨gb215, 4, none⟩ = some (.complex .f32 0 0) := (blk_cell BK215.out 4).trans rfl
        have hcz17_5 : w8.cell? ⟨gb215, 5, none⟩ = some (.complex .f32 0 0) := (blk_cell BK215.out 5).trans rfl
        have hcz17_6 : w8.cell? ⟨gb215, 6, none⟩ = some (.complex .f32 0 0) := (blk_cell BK215.out 6).trans rfl
        have hcz17_7 : w8.cell? ⟨gb215, 7, none⟩ = some (.int .i64 0) := (blk_cell BK215.out 7).trans rfl
        have hfz17_0 := blk_frozen BK215.out 0
        have hfz17_1 := blk_frozen BK215.out 1
        have hfz17_2 := blk_frozen BK215.out 2
        have hfz17_3 := blk_frozen BK215.out 3
        have hfz17_4 := blk_frozen BK215.out 4
        have hfz17_5 := blk_frozen BK215.out 5
        have hfz17_6 := blk_frozen BK215.out 6
        have hfz17_7 := blk_frozen BK215.out 7
        go_wp2_with (first | ((with_reducible refine gate_callee (f := 97) rfl ?_); refine gx_ (some 16) Try.func97 #[.int .i64 ((rd_T66 l0_3 x8_1).f3)] ?_; (with_reducible refine (impl_kindOk.calls ((rd_T66 l0_3 x8_1).f3) false _ A11.out).mono ?_); rintro e w' ⟨rfl, ⟨nd, rfl⟩⟩; refine ⟨_, rfl, ?_⟩))
        go_meet
        case rel => exact ⟨_, (true), rs_, H', ⟨by have := HK1.out; exact om_⟩, ⟨by refine bv ?_; exact BK212.out⟩, ⟨by refine bu ?_; refine blk_put (cs := #[.int .i64 ((rd_T66 l0_3 x8_1).f0), .complex .f32 (((rd_T66 l0_3 x8_1).f1).re) (((rd_T66 l0_3 x8_1).f1).im), .complex .f32 (((rd_T66 l0_3 x8_1).f2).re) (((rd_T66 l0_3 x8_1).f2).im), .int .i64 ((rd_T66 l0_3 x8_1).f3), .complex .f32 (((rd_T66 l0_3 x8_1).f4.f0).re) (((rd_T66 l0_3 x8_1).f4.f0).im), .complex .f32 (((rd_T66 l0_3 x8_1).f4.f1).re) (((rd_T66 l0_3 x8_1).f4.f1).im), .complex .f32 (((rd_T66 l0_3 x8_1).f4.f2).re) (((rd_T66 l0_3 x8_1).f4.f2).im), .int .i64 0]) ?_ 7 _ rfl; refine bu ?_; refine blk_put (cs := #[.int .i64 ((rd_T66 l0_3 x8_1).f0), .complex .f32 (((rd_T66 l0_3 x8_1).f1).re) (((rd_T66 l0_3 x8_1).f1).im), .complex .f32 (((rd_T66 l0_3 x8_1).f2).re) (((rd_T66 l0_3 x8_1).f2).im), .int .i64 ((rd_T66 l0_3 x8_1).f3), .complex .f32 (((rd_T66 l0_3 x8_1).f4.f0).re) (((rd_T66 l0_3 x8_1).f4.f0).im), .complex .f32 (((rd_T66 l0_3 x8_1).f4.f1).re) (((rd_T66 l0_3 x8_1).f4.f1).im), .complex .f32 0 0, .int .i64 0]) ?_ 6 _ rfl; refine bu ?_; refine blk_put (cs := #[.int .i64 ((rd_T66 l0_3 x8_1).f0), .complex .f32 (((rd_T66 l0_3 x8_1).f1).re) (((rd_T66 l0_3 x8_1).f1).im), .complex .f32 (((rd_T66 l0_3 x8_1).f2).re) (((rd_T66 l0_3 x8_1).f2).im), .int .i64 ((rd_T66 l0_3 x8_1).f3), .complex .f32 (((rd_T66 l0_3 x8_1).f4.f0).re) (((rd_T66 l0_3 x8_1).f4.f0).im), .complex .f32 0 0, .complex .f32 0 0, .int .i64 0]) ?_ 5 _ rfl; refine bu ?_; refine blk_put (cs := #[.int .i64 ((rd_T66 l0_3 x8_1).f0), .complex .f32 (((rd_T66 l0_3 x8_1).f1).re) (((rd_T66 l0_3 x8_1).f1).im), .complex .f32 (((rd_T66 l0_3 x8_1).f2).re) (((rd_T66 l0_3 x8_1).f2).im), .int .i64 ((rd_T66 l0_3 x8_1).f3), .complex .f32 0 0, .complex .f32 0 0, .complex .f32 0 0, .int .i64 0]) ?_ 4 _ rfl; refine bu ?_; refine blk_put (cs := #[.int .i64 ((rd_T66 l0_3 x8_1).f0), .complex .f32 (((rd_T66 l0_3 x8_1).f1).re) (((rd_T66 l0_3 x8_1).f1).im), .complex .f32 (((rd_T66 l0_3 x8_1).f2).re) (((rd_T66 l0_3 x8_1).f2).im), .int .i64 0, .complex .f32 0 0, .complex .f32 0 0, .complex .f32 0 0, .int .i64 0]) ?_ 3 _ rfl; refine bu ?_; refine blk_put (cs := #[.int .i64 ((rd_T66 l0_3 x8_1).f0), .complex .f32 (((rd_T66 l0_3 x8_1).f1).re) (((rd_T66 l0_3 x8_1).f1).im), .complex .f32 0 0, .int .i64 0, .complex .f32 0 0, .complex .f32 0 0, .complex .f32 0 0, .int .i64 0]) ?_ 2 _ rfl; refine bu ?_; refine blk_put (cs := #[.int .i64 ((rd_T66 l0_3 x8_1).f0), .complex .f32 0 0, .complex .f32 0 0, .int .i64 0, .complex .f32 0 0, .complex .f32 0 0, .complex .f32 0 0, .int .i64 0]) ?_ 1 _ rfl; refine bu ?_; refine blk_put (cs := #[.int .i64 0, .complex .f32 0 0, .complex .f32 0 0, .int .i64 0, .complex .f32 0 0, .complex .f32 0 0, .complex .f32 0 0, .int .i64 0]) ?_ 0 _ rfl; refine bu ?_; exact BK215.out⟩, ⟨tb⟩⟩
      case rest =>
       clear HC7
       try clear c1
       try clear p2
       try clear q2
       try clear hx2
       try clear c3
       try clear c4
       try clear c4b0
       try clear c5
       try clear c5b0
       try clear c6
       try clear c6b0
       try clear c9
       try clear c12
       try clear c14
       try clear c16
       try clear hcz10_0
       try clear hcz10_1
       try clear hcz10_2
       try clear hcz10_3
       try clear hcz10_4
       try clear hcz10_5
       try clear hcz10_6
       try clear hcz10_7
       try clear hcz15_0
       try clear hcz15_1
       try clear hcz15_2
       try clear hcz15_3
       try clear hcz15_4
       try clear hcz15_5
       try clear hcz15_6
       try clear hcz15_7
       try clear hcz17_0
       try clear hcz17_1
       try clear hcz17_2
       try clear hcz17_3
       try clear hcz17_4
       try clear hcz17_5
       try clear hcz17_6
       try clear hcz17_7
       try clear hcz3_0
       try clear hcz3_1
       try clear hcz3_2
       try clear hcz3_3
       try clear hfz10_0
       try clear hfz10_1
       try clear hfz10_2
       try clear hfz10_3
       try clear hfz10_4
       try clear hfz10_5
       try clear hfz10_6
       try clear hfz10_7
       try clear hfz15_0
       try clear hfz15_1
       try clear hfz15_2
       try clear hfz15_3
       try clear hfz15_4
       try clear hfz15_5
       try clear hfz15_6
       try clear hfz15_7
       try clear hfz17_0
       try clear hfz17_1
       try clear hfz17_2
       try clear hfz17_3
       try clear hfz17_4
       try clear hfz17_5
       try clear hfz17_6
       try clear hfz17_7
       try clear hfz3_0
       try clear hfz3_1
       try clear hfz3_2
       try clear hfz3_3
       try clear hx214_0
       try clear hx214_1
       try clear hx214_2
       try clear hx214_3
       try clear hx214_4
       try clear hx214_5
       try clear hx214_6
       try clear hx214_7
       try clear p2
       try clear p214
       try clear q214
       obtain ⟨kq, x13_6, rfl, HA, HJ6, BK212, BK215, HB⟩ := hcut
       cases kq with
       | zero => exact absurd HA.out (by simp [impl_ValidFeeder.j1])
       | succ kj6 =>
        have H := HA.out
        clear HA
        simp only [impl_ValidFeeder.j1] at H
        by_cases c18 : x13_6 = true
        ·subst c18
         rw [if_pos rfl] at H; try dsimp only at H
         obtain rfl := Option.some.inj H
         go_wp2
         go_ret
         exact ⟨re_, tb⟩
        ·replace c18 := Bool.eq_false_iff.mpr c18
         subst c18
         have H1 : (if x8_1 = 0 then (if ((rd_T66 l0_3 x8_1).f0) = (-1) then (if (cne .f32 ((rd_T66 l0_3 x8_1).f1).re ((rd_T66 l0_3 x8_1).f1).im 0 0) = true then (impl_ValidFeeder.j2 kj6 x8_1 l0_3 (l0_3.length : Int) x8_1 true a0_0 a0_1 a0_2 l0_3 ((rd_T66 l0_3 x8_1).f0) ((rd_T66 l0_3 x8_1).f1) ((rd_T66 l0_3 x8_1).f2) ((rd_T66 l0_3 x8_1).f3) ((rd_T66 l0_3 x8_1).f4.f0) ((rd_T66 l0_3 x8_1).f4.f1) ((rd_T66 l0_3 x8_1).f4.f2) ((rd_T66 l0_3 x8_1).f5)) else (impl_ValidFeeder.j2 kj6 x8_1 l0_3 (l0_3.length : Int) x8_1 (cne .f32 ((rd_T66 l0_3 x8_1).f2).re ((rd_T66 l0_3 x8_1).f2).im 0 0) a0_0 a0_1 a0_2 l0_3 ((rd_T66 l0_3 x8_1).f0) ((rd_T66 l0_3 x8_1).f1) ((rd_T66 l0_3 x8_1).f2) ((rd_T66 l0_3 x8_1).f3) ((rd_T66 l0_3 x8_1).f4.f0) ((rd_T66 l0_3 x8_1).f4.f1) ((rd_T66 l0_3 x8_1).f4.f2) ((rd_T66 l0_3 x8_1).f5))) else (impl_ValidFeeder.j2 kj6 x8_1 l0_3 (l0_3.length : Int) x8_1 true a0_0 a0_1 a0_2 l0_3 ((rd_T66 l0_3 x8_1).f0) ((rd_T66 l0_3 x8_1).f1) ((rd_T66 l0_3 x8_1).f2) ((rd_T66 l0_3 x8_1).f3) ((rd_T66 l0_3 x8_1).f4.f0) ((rd_T66 l0_3 x8_1).f4.f1) ((rd_T66 l0_3 x8_1).f4.f2) ((rd_T66 l0_3 x8_1).f5))) else (impl_ValidFeeder.j2 kj6 x8_1 l0_3 (l0_3.length : Int) x8_1 false a0_0 a0_1 a0_2 l0_3 ((rd_T66 l0_3 x8_1).f0) ((rd_T66 l0_3 x8_1).f1) ((rd_T66 l0_3 x8_1).f2) ((rd_T66 l0_3 x8_1).f3) ((rd_T66 l0_3 x8_1).f4.f0) ((rd_T66 l0_3 x8_1).f4.f1) ((rd_T66 l0_3 x8_1).f4.f2) ((rd_T66 l0_3 x8_1).f5))) = some r := by rw [if_neg (show ¬ (false = true) by decide)] at H; exact H
         clear H
         have H := H1
         clear H1
         have HC19 := Aside0.mk H
         clear H
         go_upto_region 6 with (fail)
         go_cut [24] (fun v24 wc => ∃ (kq : Nat) (x24_18 : Bool), v24 = .bool x24_18 ∧ Aside0 (impl_ValidFeeder.j2 kq x8_1 l0_3 (l0_3.length : Int) x8_1 x24_18 a0_0 a0_1 a0_2 l0_3 ((rd_T66 l0_3 x8_1).f0) ((rd_T66 l0_3 x8_1).f1) ((rd_T66 l0_3 x8_1).f2) ((rd_T66 l0_3 x8_1).f3) ((rd_T66 l0_3 x8_1).f4.f0) ((rd_T66 l0_3 x8_1).f4.f1) ((rd_T66 l0_3 x8_1).f4.f2) ((rd_T66 l0_3 x8_1).f5) = some r) ∧ Aside0 (kq ≤ kj6) ∧ Aside0 (wc.heap[gb212]? = some (.cells #[.complex .f32 a0_0.re a0_0.im, .complex .f32 a0_1.re a0_1.im, .complex .f32 a0_2.re a0_2.im, (.slice (some ad214) l0_3.length c0_3)] 42 (0, 0))) ∧ Aside0 (wc.heap[gb215]? = some (.cells #[.int .i64 ((rd_T66 l0_3 x8_1).f0), .complex .f32 (((rd_T66 l0_3 x8_1).f1).re) (((rd_T66 l0_3 x8_1).f1).im), .complex .f32 (((rd_T66 l0_3 x8_1).f2).re) (((rd_T66 l0_3 x8_1).f2).im), .int .i64 ((rd_T66 l0_3 x8_1).f3), .complex .f32 (((rd_T66 l0_3 x8_1).f4.f0).re) (((rd_T66 l0_3 x8_1).f4.f0).im), .complex .f32 (((rd_T66 l0_3 x8_1).f4.f1).re) (((rd_T66 l0_3 x8_1).f4.f1).im), .complex .f32 (((rd_T66 l0_3 x8_1).f4.f2).re) (((rd_T66 l0_3 x8_1).f4.f2).im), .int .i64 ((rd_T66 l0_3 x8_1).f5)] 66 (0, 0))) ∧ Aside0 (Below w.heap.size w wc))
         case first =>
          have H := HC19.out
          clear HC19
          by_cases c20 : x8_1 = 0
          ·rw [if_pos c20] at H
           have c20b0 : (x8_1 == 0) = true := beq_iff_eq.mpr c20
           have c20b1 : (x8_1 != 0) = false := bne_eq_false_iff_eq.mpr c20
           clear c20
           (first | rw [c20b0] | (simp only [i64_w, i32_w]; rw [c20b0]) | skip)
           by_cases c21 : ((rd_T66 l0_3 x8_1).f0) = (-1)
           ·rw [if_pos c21] at H
            have c21b0 : (((rd_T66 l0_3 x8_1).f0) == (-1)) = true := beq_iff_eq.mpr c21
            have c21b1 : (((rd_T66 l0_3 x8_1).f0) != (-1)) = false := bne_eq_false_iff_eq.mpr c21
            clear c21
            by_cases c22 : (cne .f32 ((rd_T66 l0_3 x8_1).f1).re ((rd_T66 l0_3 x8_1).f1).im 0 0) = true
            ·rw [if_pos c22] at H
             have c22b0 : (cne .f32 ((rd_T66 l0_3 x8_1).f1).re ((rd_T66 l0_3 x8_1).f1).im 0 0) = true := c22
             clear c22
             have H' := Aside0.mk H
             clear H
             have hnb23 := NB215_212.out
             have hnc23 := NB212_215.out
             have hcz24_0 : wc.cell? ⟨gb215, 0, none⟩ = some (.int .i64 ((rd_T66 l0_3 x8_1).f0)) := (blk_cell BK215.out 0).trans rfl
             have hcz24_1 : wc.cell? ⟨gb215, 1, none⟩ = some (.complex .f32 (((rd_T66 l0_3 x8_1).f1).re) (((rd_T66 l0_3 x8_1).f1).im)) := (blk_cell BK215.out 1).trans rfl
             have hcz24_2 : wc.cell? ⟨gb215, 2, none⟩ = some (.complex .f32 (((rd_T66 l0_3 x8_1).f2).re) (((rd_T66 l0_3 x8_1).f2).im)) := (blk_cell BK215.out 2).trans rfl
             have hcz24_3 : wc.cell? ⟨gb215, 3, none⟩ = some (.int .i64 ((rd_T66 l0_3 x8_1).f3)) := (blk_cell BK215.out 3).trans rfl
             have hcz24_4 : wc.cell? ⟨gb215, 4, none⟩ = some (.complex .f32 (((rd_T66 l0_3 x8_1).f4.f0).re) (((rd_T66 l0_3 x8_1).f4.f0).im)) := (blk_cell BK215.out 4).trans rfl
             have hcz24_5 : wc.cell? ⟨gb215, 5, none⟩ = some (.complex .f32 (((rd_T66 l0_3 x8_1).f4.f1).re) (((rd_T66 l0_3 x8_1).f4.f1).im)) := (blk_cell BK215.out 5).trans rfl
             have hcz24_6 : wc.cell? ⟨gb215, 6, none⟩ = some (.complex .f32 (((rd_T66 l0_3 x8_1).f4.f2).re) (((rd_T66 l0_3 x8_1).f4.f2).im)) := (blk_cell BK215.out 6).trans rfl
             have hcz24_7 : wc.cell? ⟨gb215, 7, none⟩ = some (.int .i64 ((rd_T66 l0_3 x8_1).f5)) := (blk_cell BK215.out 7).trans rfl
             have hfz24_0 := blk_frozen BK215.out 0
             have hfz24_1 := blk_frozen BK215.out 1
             have hfz24_2 := blk_frozen BK215.out 2
             have hfz24_3 := blk_frozen BK215.out 3
             have hfz24_4 := blk_frozen BK215.out 4
             have hfz24_5 := blk_frozen BK215.out 5
             have hfz24_6 := blk_frozen BK215.out 6
             have hfz24_7 := blk_frozen BK215.out 7
             go_wp2
             go_meet
             case rel => exact ⟨_, (true), rs_, H', ⟨by have := HK1.out; have := HJ6.out; exact om_⟩, ⟨by refine bu ?_; exact BK212.out⟩, ⟨by refine bu ?_; exact BK215.out⟩, ⟨tb⟩⟩
            ·rw [if_neg c22] at H
             have c22b0 : (cne .f32 ((rd_T66 l0_3 x8_1).f1).re ((rd_T66 l0_3 x8_1).f1).im 0 0) = false := by simpa using c22
             clear c22
             have H' := Aside0.mk H
             clear H
             have hnb25 := NB215_212.out
             have hnc25 := NB212_215.out
             have hcz26_0 : wc.cell? ⟨gb215, 0, none⟩ = some (.int .i64 ((rd_T66 l0_3 x8_1).f0)) := (blk_cell BK215.out 0).trans rfl
             have hcz26_1 : wc.cell? ⟨gb215, 1, none⟩ = some (.complex .f32 (((rd_T66 l0_3 x8_1).f1).re) (((rd_T66 l0_3 x8_1).f1).im)) := (blk_cell BK215.out 1).trans rfl
             have hcz26_2 : wc.cell? ⟨gb215, 2, none⟩ = some (.complex .f32 (((rd_T66 l0_3 x8_1).f2).re) (((rd_T66 l0_3 x8_1).f2).im)) := (blk_cell BK215.out 2).trans rfl
             have hcz26_3 : wc.cell? ⟨gb215, 3, none⟩ = some (.int .i64 ((rd_T66 l0_3 x8_1).f3)) := (blk_cell BK215.out 3).trans rfl
             have hcz26_4 : wc.cell? ⟨gb215, 4, none⟩ = some (.complex .f32 (((rd_T66 l0_3 x8_1).f4.f0).re) (((rd_T66 l0_3 x8_1).f4.f0).im)) := (blk_cell BK215.out 4).trans rfl
             have hcz26_5 : wc.cell? ⟨gb215, 5, none⟩ = some (.complex .f32 (((rd_T66 l0_3 x8_1).f4.f1).re) (((rd_T66 l0_3 x8_1).f4.f1).im)) := (blk_cell BK215.out 5).trans rfl
             have hcz26_6 : wc.cell? ⟨gb215, 6, none⟩ = some (.complex .f32 (((rd_T66 l0_3 x8_1).f4.f2).re) (((rd_T66 l0_3 x8_1).f4.f2).im)) := (blk_cell BK215.out 6).trans rfl
             have hcz26_7 : wc.cell? ⟨gb215, 7, none⟩ = some (.int .i64 ((rd_T66 l0_3 x8_1).f5)) := (blk_cell BK215.out 7).trans rfl
             have hfz26_0 := blk_frozen BK215.out 0
             have hfz26_1 := blk_frozen BK215.out 1
             have hfz26_2 := blk_frozen BK215.out 2
             have hfz26_3 := blk_frozen BK215.out 3
             have hfz26_4 := blk_frozen BK215.out 4
             have hfz26_5 := blk_frozen BK215.out 5
             have hfz26_6 := blk_frozen BK215.out 6
             have hfz26_7 := blk_frozen BK215.out 7
             go_wp2
             go_meet
             case rel => exact ⟨_, ((cne .f32 ((rd_T66 l0_3 x8_1).f2).re ((rd_T66 l0_3 x8_1).f2).im 0 0)), rs_, H', ⟨by have := HK1.out; have := HJ6.out; exact om_⟩, ⟨by refine bu ?_; exact BK212.out⟩, ⟨by refine bu ?_; exact BK215.out⟩, ⟨tb⟩⟩
           ·rw [if_neg c21] at H
            have c21b0 : (((rd_T66 l0_3 x8_1).f0) == (-1)) = false := beq_eq_false_iff_ne.mpr c21
            have c21b1 : (((rd_T66 l0_3 x8_1).f0) != (-1)) = true := bne_iff_ne.mpr c21
            have H' := Aside0.mk H
            clear H
            have hnb27 := NB215_212.out
            have hnc27 := NB212_215.out
            have hcz28_0 : wc.cell? ⟨gb215, 0, none⟩ = some (.int .i64 ((rd_T66 l0_3 x8_1).f0)) := (blk_cell BK215.out 0).trans rfl
            have hcz28_1 : wc.cell? ⟨gb215, 1, none⟩ = some (.complex .f32 (((rd_T66 l0_3 x8_1).f1).re) (((rd_T66 l0_3 x8_1).f1).im)) := (blk_cell BK215.out 1).trans rfl
            have hcz28_2 : wc.cell? ⟨gb215, 2, none⟩ = some (.complex .f32 (((rd_T66 l0_3 x8_1).f2).re) (((rd_T66 l0_3 x8_1).f2).im)) := (blk_cell BK215.out 2).trans rfl
            have hcz28_3 : wc.cell? ⟨gb215, 3, none⟩ = some (.int .i64 ((rd_T66 l0_3 x8_1).f3)) := (blk_cell BK215.out 3).trans rfl
            have hcz28_4 : wc.cell? ⟨gb215, 4, none⟩ = some (.complex .f32 (((rd_T66 l0_3 x8_1).f4.f0).re) (((rd_T66 l0_3 x8_1).f4.f0).im)) := (blk_cell BK215.out 4).trans rfl
            have hcz28_5 : wc.cell? ⟨gb215, 5, none⟩ = some (.complex .f32 (((rd_T66 l0_3 x8_1).f4.f1).re) (((rd_T66 l0_3 x8_1).f4.f1).im)) := (blk_cell BK215.out 5).trans rfl
            have hcz28_6 : wc.cell? ⟨gb215, 6, none⟩ = some (.complex .f32 (((rd_T66 l0_3 x8_1).f4.f2).re) (((rd_T66 l0_3 x8_1).f4.f2).im)) := (blk_cell BK215.out 6).trans rfl
            have hcz28_7 : wc.cell? ⟨gb215, 7, none⟩ = some (.int .i64 ((rd_T66 l0_3 x8_1).f5)) := (blk_cell BK215.out 7).trans rfl
            have hfz28_0 := blk_frozen BK215.out 0
            have hfz28_1 := blk_frozen BK215.out 1
            have hfz28_2 := blk_frozen BK215.out 2
            have hfz28_3 := blk_frozen BK215.out 3
            have hfz28_4 := blk_frozen BK215.out 4
            have hfz28_5 := blk_frozen BK215.out 5
            have hfz28_6 := blk_frozen BK215.out 6
            have hfz28_7 := blk_frozen BK215.out 7
            go_wp2
            go_meet
            case rel => exact ⟨_, (true), rs_, H', ⟨by have := HK1.out; have := HJ6.out; exact om_⟩, ⟨by refine bu ?_; exact BK212.out⟩, ⟨by refine bu ?_; exact BK215.out⟩, ⟨tb⟩⟩
          ·rw [if_neg c20] at H
           have c20b0 : (x8_1 == 0) = false := beq_eq_false_iff_ne.mpr c20
           have c20b1 : (x8_1 != 0) = true := bne_iff_ne.mpr c20
           (first | rw [c20b0] | (simp only [i64_w, i32_w]; rw [c20b0]) | skip)
           have H' := Aside0.mk H
           clear H
           go_wp2
           go_meet
           case rel => exact ⟨_, (false), rs_, H', ⟨by have := HK1.out; have := HJ6.out; exact om_⟩, ⟨by refine bu ?_; exact BK212.out⟩, ⟨by refine bu ?_; exact BK215.out⟩, ⟨tb⟩⟩
         case rest =>
          clear HC19
          try clear c1
          try clear c2
          try clear p2
          try clear q2
          try clear hx2
          try clear c3
          try clear c4
          try clear c4b0
          try clear c5
          try clear c5b0
          try clear c6
          try clear c6b0
          try clear c9
          try clear c12
          try clear c14
          try clear c16
          try clear c18
          try clear c20
          try clear c20b0
          try clear c20b1
          try clear c21
          try clear c21b0
          try clear c21b1
          try clear p21
          try clear q21
          try clear hx21
          try clear c22
          try clear c22b0
          try clear c23
          try clear c25
          try clear c27
          try clear hcz10_0
          try clear hcz10_1
          try clear hcz10_2
          try clear hcz10_3
          try clear hcz10_4
          try clear hcz10_5
          try clear hcz10_6
          try clear hcz10_7
          try clear hcz15_0
          try clear hcz15_1
          try clear hcz15_2
          try clear hcz15_3
          try clear hcz15_4
          try clear hcz15_5
          try clear hcz15_6
          try clear hcz15_7
          try clear hcz17_0
          try clear hcz17_1
          try clear hcz17_2
          try clear hcz17_3
          try clear hcz17_4
          try clear hcz17_5
          try clear hcz17_6
          try clear hcz17_7
          try clear hcz24_0
          try clear hcz24_1
          try clear hcz24_2
          try clear hcz24_3
          try clear hcz24_4
          try clear hcz24_5
          try clear hcz24_6
          try clear hcz24_7
          try clear hcz26_0
          try clear hcz26_1
          try clear hcz26_2
          try clear hcz26_3
          try clear hcz26_4
          try clear hcz26_5
          try clear hcz26_6
          try clear hcz26_7
          try clear hcz28_0
          try clear hcz28_1
          try clear hcz28_2
          try clear hcz28_3
          try clear hcz28_4
          try clear hcz28_5
          try clear hcz28_6
          try clear hcz28_7
          try clear hcz3_0
          try clear hcz3_1
          try clear hcz3_2
          try clear hcz3_3
          try clear hfz10_0
          try clear hfz10_1
          try clear hfz10_2
          try clear hfz10_3
          try clear hfz10_4
          try clear hfz10_5
          try clear hfz10_6
          try clear hfz10_7
          try clear hfz15_0
          try clear hfz15_1
          try clear hfz15_2
          try clear hfz15_3
          try clear hfz15_4
          try clear hfz15_5
          try clear hfz15_6
          try clear hfz15_7
          try clear hfz17_0
          try clear hfz17_1
          try clear hfz17_2
          try clear hfz17_3
          try clear hfz17_4
          try clear hfz17_5
          try clear hfz17_6
          try clear hfz17_7
          try clear hfz24_0
          try clear hfz24_1
          try clear hfz24_2
          try clear hfz24_3
          try clear hfz24_4
          try clear hfz24_5
          try clear hfz24_6
          try clear hfz24_7
          try clear hfz26_0
          try clear hfz26_1
          try clear hfz26_2
          try clear hfz26_3
          try clear hfz26_4
          try clear hfz26_5
          try clear hfz26_6
          try clear hfz26_7
          try clear hfz28_0
          try clear hfz28_1
          try clear hfz28_2
          try clear hfz28_3
          try clear hfz28_4
          try clear hfz28_5
          try clear hfz28_6
          try clear hfz28_7
          try clear hfz3_0
          try clear hfz3_1
          try clear hfz3_2
          try clear hfz3_3
          try clear hx214_0
          try clear hx214_1
          try clear hx214_2
          try clear hx214_3
          try clear hx214_4
          try clear hx214_5
          try clear hx214_6
          try clear hx214_7
          try clear p2
          try clear p214
          try clear q2
          try clear q214
          obtain ⟨kq, x24_18, rfl, HA, HJ18, BK212, BK215, HB⟩ := hcut
          cases kq with
          | zero => exact absurd HA.out (by simp [impl_ValidFeeder.j2])
          | succ kj18 =>
           have H := HA.out
           clear HA
           simp only [impl_ValidFeeder.j2] at H
           by_cases c29 : x24_18 = true
           ·subst c29
            rw [if_pos rfl] at H; try dsimp only at H
            obtain rfl := Option.some.inj H
            go_wp2
            go_ret
            exact ⟨re_, tb⟩
           ·replace c29 := Bool.eq_false_iff.mpr c29
            subst c29
            have H1 : (if x8_1 > 0 then ((impl_in.f ((rd_T66 l0_3 x8_1).f0) 0 (wrap64 (x8_1 - 1))).bind fun t218 => (if t218 = true then (impl_ValidFeeder.l0 kj18 l0_3 (l0_3.length : Int) (wrap64 (x8_1 + 1)) a0_0 a0_1 a0_2 l0_3) else (some false))) else (impl_ValidFeeder.l0 kj18 l0_3 (l0_3.length : Int) (wrap64 (x8_1 + 1)) a0_0 a0_1 a0_2 l0_3)) = some r := by rw [if_neg (show ¬ (false = true) by decide)] at H; exact H
            clear H
            have H := H1
            clear H1
            by_cases c30 : x8_1 > 0
            ·rw [if_pos c30] at H
             have c30b0 : decide (0 < x8_1) = true := decide_eq_true c30
             clear c30
             replace H := Option.bind_eq_some_iff.mp H
             obtain ⟨t218, A310, H⟩ := H
             try dsimp only at H
             have A31 := Aside0.mk A310
             clear A310
             by_cases c32 : t218 = true
             ·subst c32
              rw [if_pos rfl] at H; try dsimp only at H
              have H' := Aside0.mk H
              clear H
              have hnb33 := NB215_212.out
              have hnc33 := NB212_215.out
              have hcz34_0 : wc.cell? ⟨gb215, 0, none⟩ = some (.int .i64 ((rd_T66 l0_3 x8_1).f0)) := (blk_cell BK215.out 0).trans rfl
              have hcz34_1 : wc.cell? ⟨gb215, 1, none⟩ = some (.complex .f32 (((rd_T66 l0_3 x8_1).f1).re) (((rd_T66 l0_3 x8_1).f1).im)) := (blk_cell BK215.out 1).trans rfl
              have hcz34_2 : wc.cell? ⟨gb215, 2, none⟩ = some (.complex .f32 (((rd_T66 l0_3 x8_1).f2).re) (((rd_T66 l0_3 x8_1).f2).im)) := (blk_cell BK215.out 2).trans rfl
              have hcz34_3 : wc.cell? ⟨gb215, 3, none⟩ = some (.int .i64 ((rd_T66 l0_3 x8_1).f3)) := (blk_cell BK215.out 3).trans rfl
              have hcz34_4 : wc.cell? ⟨gb215, 4, none⟩ = some (.complex .f32 (((rd_T66 l0_3 x8_1).f4.f0).re) (((rd_T66 l0_3 x8_1).f4.f0).im)) := (blk_cell BK215.out 4).trans rfl
              have hcz34_5 : wc.cell? ⟨gb215, 5, none⟩ = some (.complex .f32 (((rd_T66 l0_3 x8_1).f4.f1).re) (((rd_T66 l0_3 x8_1).f4.f1).im)) := (blk_cell BK215.out 5).trans rfl
              have hcz34_6 : wc.cell? ⟨gb215, 6, none⟩ = some (.complex .f32 (((rd_T66 l0_3 x8_1).f4.f2).re) (((rd_T66 l0_3 x8_1).f4.f2).im)) := (blk_cell BK215.out 6).trans rfl
              have hcz34_7 : wc.cell? ⟨gb215, 7, none⟩ = some (.int .i64 ((rd_T66 l0_3 x8_1).f5)) := (blk_cell BK215.out 7).trans rfl
              have hfz34_0 := blk_frozen BK215.out 0
              have hfz34_1 := blk_frozen BK215.out 1
              have hfz34_2 := blk_frozen BK215.out 2
              have hfz34_3 := blk_frozen BK215.out 3
              have hfz34_4 := blk_frozen BK215.out 4
              have hfz34_5 := blk_frozen BK215.out 5
              have hfz34_6 := blk_frozen BK215.out 6
              have hfz34_7 := blk_frozen BK215.out 7
              go_wp2_with (first | (go_at_call 88; (with_reducible refine (impl_in.calls ((rd_T66 l0_3 x8_1).f0) 0 (wrap64 (x8_1 - 1)) true _ A31.out).mono ?_); rintro e w' ⟨rfl, ⟨nd, rfl⟩⟩))
              go_roundg kj18
              case measure => have := HK1.out; have := HJ6.out; have := HJ18.out; omega
              case rel => exact ⟨(wrap64 (x8_1 + 1)), rs_, H', ⟨by have := HK1.out; have := HJ6.out; have := HJ18.out; omega⟩, ⟨by refine bu ?_; exact BK212.out⟩, ⟨tb⟩⟩
             ·replace c32 := Bool.eq_false_iff.mpr c32
              subst c32
              have H1 : (some false) = some r := by rw [if_neg (show ¬ (false = true) by decide)] at H; exact H
              clear H
              have H := H1
              clear H1
              obtain rfl := Option.some.inj H
              have hnb35 := NB215_212.out
              have hnc35 := NB212_215.out
              have hcz36_0 : wc.cell? ⟨gb215, 0, none⟩ = some (.int .i64 ((rd_T66 l0_3 x8_1).f0)) := (blk_cell BK215.out 0).trans rfl
              have hcz36_1 : wc.cell? ⟨gb215, 1, none⟩ = some (.complex .f32 (((rd_T66 l0_3 x8_1).f1).re) (((rd_T66 l0_3 x8_1).f1).im)) := (blk_cell BK215.out 1).trans rfl
              have hcz36_2 : wc.cell? ⟨gb215, 2, none⟩ = some (.complex .f32 (((rd_T66 l0_3 x8_1).f2).re) (((rd_T66 l0_3 x8_1).f2).im)) := (blk_cell BK215.out 2).trans rfl
              have hcz36_3 : wc.cell? ⟨gb215, 3, none⟩ = some (.int .i64 ((rd_T66 l0_3 x8_1).f3)) := (blk_cell BK215.out 3).trans rfl
              have hcz36_4 : wc.cell? ⟨gb215, 4, none⟩ = some (.complex .f32 (((rd_T66 l0_3 x8_1).f4.f0).re) (((rd_T66 l0_3 x8_1).f4.f0).im)) := (blk_cell BK215.out 4).trans rfl
              have hcz36_5 : wc.cell? ⟨gb215, 5, none⟩ = some (.complex .f32 (((rd_T66 l0_3 x8_1).f4.f1).re) (((rd_T66 l0_3 x8_1).f4.f1).im)) := (blk_cell BK215.out 5).trans rfl
              have hcz36_6 : wc.cell? ⟨gb215, 6, none⟩ = some (.complex .f32 (((rd_T66 l0_3 x8_1).f4.f2).re) (((rd_T66 l0_3 x8_1).f4.f2).im)) := (blk_cell BK215.out 6).trans rfl
              have hcz36_7 : wc.cell? ⟨gb215, 7, none⟩ = some (.int .i64 ((rd_T66 l0_3 x8_1).f5)) := (blk_cell BK215.out 7).trans rfl
              have hfz36_0 := blk_frozen BK215.out 0
              have hfz36_1 := blk_frozen BK215.out 1
              have hfz36_2 := blk_frozen BK215.out 2
              have hfz36_3 := blk_frozen BK215.out 3
              have hfz36_4 := blk_frozen BK215.out 4
              have hfz36_5 := blk_frozen BK215.out 5
              have hfz36_6 := blk_frozen BK215.out 6
              have hfz36_7 := blk_frozen BK215.out 7
              go_wp2_with (first | (go_at_call 88; (with_reducible refine (impl_in.calls ((rd_T66 l0_3 x8_1).f0) 0 (wrap64 (x8_1 - 1)) false _ A31.out).mono ?_); rintro e w' ⟨rfl, ⟨nd, rfl⟩⟩))
              go_ret
              exact ⟨re_, tb⟩
            ·rw [if_neg c30] at H
             have c30b0 : decide (0 < x8_1) = false := decide_eq_false c30
             clear c30
             have H' := Aside0.mk H
             clear H
             go_wp2
             go_roundg kj18
             case measure => have := HK1.out; have := HJ6.out; have := HJ18.out; omega
             case rel => exact ⟨(wrap64 (x8_1 + 1)), rs_, H', ⟨by have := HK1.out; have := HJ6.out; have := HJ18.out; omega⟩, ⟨by refine bu ?_; exact BK212.out⟩, ⟨tb⟩⟩
     ·rw [if_neg c6] at H
      exact absurd H (by simp)
    ·rw [if_neg c5] at H
     exact absurd H (by simp)
   ·rw [if_neg c4] at H
    have c4b0 : decide (x8_1 < (l0_3.length : Int)) = false := decide_eq_false c4
    clear c4
    replace H := Option.bind_eq_some_iff.mp H
    obtain ⟨t213, A370, H⟩ := H
    try dsimp only at H
    have A37 := Aside0.mk A370
    clear A370
    obtain rfl := Option.some.inj H
    have hcz38_0 : wr.cell? ⟨gb212, 0, none⟩ = some (.complex .f32 a0_0.re a0_0.im) := (blk_cell BK212.out 0).trans rfl
    have hcz38_1 : wr.cell? ⟨gb212, 1, none⟩ = some (.complex .f32 a0_1.re a0_1.im) := (blk_cell BK212.out 1).trans rfl
    have hcz38_2 : wr.cell? ⟨gb212, 2, none⟩ = some (.complex .f32 a0_2.re a0_2.im) := (blk_cell BK212.out 2).trans rfl
    have hcz38_3 : wr.cell? ⟨gb212, 3, none⟩ = some (.slice A0_3 l0_3.length c0_3) := (blk_cell BK212.out 3).trans rfl
    have hfz38_0 := blk_frozen BK212.out 0
    have hfz38_1 := blk_frozen BK212.out 1
    have hfz38_2 := blk_frozen BK212.out 2
    have hfz38_3 := blk_frozen BK212.out 3
    go_wp2_with (first | ((with_reducible refine gate_callee (f := 88) rfl ?_); refine gx_ (some 57) Try.func88 #[.int .i64 (l0_3.length : Int), .int .i64 1, .int .i64 16] ?_; (with_reducible refine (impl_in.calls (l0_3.length : Int) 1 16 t213 _ A37.out).mono ?_); rintro e w' ⟨rfl, ⟨nd, rfl⟩⟩; refine ⟨_, rfl, ?_⟩))
    go_ret
    exact ⟨re_, tb⟩

end Go.Proofs.Ytcgpomicgbmdlaa.PFnCommon
namespace Go.Proofs.Ytcgpomicgbmdlaa.PFnCommon
open Go.RowKit Go.Proofs.YtcgpomicgbmdlaaW.PrintWords Go.Proofs.YtcgpomicgbmdlaaW.PrintLast Go.Proofs.YtcgpomicgbmdlaaW.PrintMore
attribute [local go_sem] max2_int min2_int max_two min_two max_three min_three max_four min_four   -- for this text's walks alone
set_option linter.unusedVariables false
set_option linter.unusedSimpArgs false

/-- A state of type 42 at block g of W; what its slices lead to came in by w0. -/
def IsS42 (w0 W : World) (g : Nat) (f0 : Cx) (f1 : Cx) (f2 : Cx) (f3 : List (S66)) : Prop := ∃ A3 c3, W.heap[g]? = some (.cells #[.complex .f32 f0.re f0.im, .complex .f32 f1.re f1.im, .complex .f32 f2.re f2.im, .slice A3 f3.length c3] 42 (0, 0)) ∧ w0.heap.size ≤ g ∧ Kd.C k66 w0 A3 f3.length f3 ∧ f3.length ≤ c3
theorem IsS42.grown {w0 W : World} {g : Nat} {f0 : Cx} {f1 : Cx} {f2 : Cx} {f3 : List (S66)} {W1 : World} {row : Option Nat} (h : IsS42 w0 W g f0 f1 f2 f3) (hw : W.grownBy W1 row) (hne : some g ≠ row) : IsS42 w0 W1 g f0 f1 f2 f3 := by
 obtain ⟨A3, c3, hb, hg, hr3, hl3⟩ := h
 exact ⟨A3, c3, blk_grown hb hw hne, hg, hr3, hl3⟩
theorem IsS42.own_neN {w0 W : World} {g : Nat} {f0 : Cx} {f1 : Cx} {f2 : Cx} {f3 : List (S66)} {α : Type} {d : Kd α} {e : Nat} {base : Nat} {ok : Nat → Prop} {v : Value} {xs : List α} (h : IsS42 w0 W g f0 f1 f2 f3) (ho : Kd.N d e W base ok v xs) (ht : e ≠ 42) : some g ≠ v.ownBlock := by
 obtain ⟨A3, c3, hb, hg, hr3, hl3⟩ := h
 exact Kd.N_ne ho hb ht
theorem IsS42.fresh {w0 W : World} {g : Nat} {f0 : Cx} {f1 : Cx} {f2 : Cx} {f3 : List (S66)} (h : IsS42 w0 W g f0 f1 f2 f3) : ∀ k, W.heap.size ≤ k → k ≠ g := by
 obtain ⟨A3, c3, hb, hg, hr3, hl3⟩ := h
 exact Kd.freshB hb
theorem IsS42.kept {w0 W : World} {g : Nat} {f0 : Cx} {f1 : Cx} {f2 : Cx} {f3 : List (S66)} {W1 : World} {S : Nat → Prop} (h : IsS42 w0 W g f0 f1 f2 f3) (hk : Kept W W1 S) (hne : ¬ S g) : IsS42 w0 W1 g f0 f1 f2 f3 := by
 obtain ⟨A3, c3, hb, hg, hr3, hl3⟩ := h
 exact ⟨A3, c3, blk_kept hb hk hne, hg, hr3, hl3⟩
theorem IsS42.below {w0 W : World} {g : Nat} {f0 : Cx} {f1 : Cx} {f2 : Cx} {f3 : List (S66)} {W1 : World} (h : IsS42 w0 W g f0 f1 f2 f3) (hw : Below W.heap.size W W1) : IsS42 w0 W1 g f0 f1 f2 f3 := h.grown (grown_of_below hw none) (by simp)
theorem IsS42.alloc {w0 W : World} {g : Nat} {f0 : Cx} {f1 : Cx} {f2 : Cx} {f3 : List (S66)} (h : IsS42 w0 W g f0 f1 f2 f3) (o : Obj) : IsS42 w0 (W.alloc o) g f0 f1 f2 f3 := h.below (below_alloc (Below.refl _ _) o)
theorem IsS42.drewN {w0 W : World} {g : Nat} {f0 : Cx} {f1 : Cx} {f2 : Cx} {f3 : List (S66)} (h : IsS42 w0 W g f0 f1 f2 f3) (m : Nat) : IsS42 w0 (W.drewN m) g f0 f1 f2 f3 := h
theorem IsS42.drew {w0 W : World} {g : Nat} {f0 : Cx} {f1 : Cx} {f2 : Cx} {f3 : List (S66)} (h : IsS42 w0 W g f0 f1 f2 f3) : IsS42 w0 W.drew g f0 f1 f2 f3 := h
theorem IsS42.at_ {w0 W : World} {g : Nat} {f0 : Cx} {f1 : Cx} {f2 : Cx} {f3 : List (S66)} {w' : World} {m : Nat} (hq : W.drewN m = w') (h : IsS42 w0 W g f0 f1 f2 f3) : IsS42 w0 w' g f0 f1 f2 f3 := by subst hq; exact IsS42.drewN h m
theorem IsS42.apart {w0 W : World} {g : Nat} {f0 : Cx} {f1 : Cx} {f2 : Cx} {f3 : List (S66)} {α : Type} {d : Kd α} {e : Nat} {base : Nat} {ok : Nat → Prop} {v : Value} {xs : List α} (h : IsS42 w0 W g f0 f1 f2 f3) (ho : d.R e W base ok v xs) (ht : ∀ q, q ∈ e :: d.E → q ≠ 42) : d.R e W base (fun k => ok k ∧ k ≠ g) v xs := by
 obtain ⟨A3, c3, hb, hg, hr3, hl3⟩ := h
 exact Kd.R_types ho hb ht
theorem IsS42.own_ne {w0 W : World} {g : Nat} {f0 : Cx} {f1 : Cx} {f2 : Cx} {f3 : List (S66)} {α : Type} {d : Kd α} {e : Nat} {base : Nat} {ok : Nat → Prop} {v : Value} {xs : List α} (h : IsS42 w0 W g f0 f1 f2 f3) (ho : d.R e W base ok v xs) (ht : e ≠ 42) : some g ≠ v.ownBlock := by
 obtain ⟨A3, c3, hb, hg, hr3, hl3⟩ := h
 exact Kd.R_ne ho hb ht
theorem IsS42.apartQ {w0 W : World} {g : Nat} {f0 : Cx} {f1 : Cx} {f2 : Cx} {f3 : List (S66)} {α : Type} {d : Kd α} {e : Nat} {base : Nat} {ok : Nat → Prop} {v : Value} {xs : List α} (h : IsS42 w0 W g f0 f1 f2 f3) (ho : d.Q e W base ok v xs) (ht : ∀ q, q ∈ e :: d.E → q ≠ 42) : d.Q e W base (fun k => ok k ∧ k ≠ g) v xs := by
 obtain ⟨A3, c3, hb, hg, hr3, hl3⟩ := h
 exact Kd.Q_types ho hb ht
theorem IsS42.own_neQ {w0 W : World} {g : Nat} {f0 : Cx} {f1 : Cx} {f2 : Cx} {f3 : List (S66)} {α : Type} {d : Kd α} {e : Nat} {base : Nat} {ok : Nat → Prop} {v : Value} {xs : List α} (h : IsS42 w0 W g f0 f1 f2 f3) (ho : d.Q e W base ok v xs) (ht : e ≠ 42) : some g ≠ v.ownBlock := by
 obtain ⟨A3, c3, hb, hg, hr3, hl3⟩ := h
 exact Kd.Q_ne ho hb ht
theorem IsS42.apartS {w0 W : World} {g : Nat} {f0 : Cx} {f1 : Cx} {f2 : Cx} {f3 : List (S66)} {α : Type} {d : Kd α} {e : Nat} {base : Nat} {ok : Nat → Prop} {v : Value} {xs : List α} (h : IsS42 w0 W g f0 f1 f2 f3) (ho : d.S e W base ok v xs) (ht : ∀ q, q ∈ e :: d.E → q ≠ 42) : d.S e W base (fun k => ok k ∧ k ≠ g) v xs := by
 obtain ⟨A3, c3, hb, hg, hr3, hl3⟩ := h
 exact Kd.S_types ho hb ht
theorem IsS42.own_neS {w0 W : World} {g : Nat} {f0 : Cx} {f1 : Cx} {f2 : Cx} {f3 : List (S66)} {α : Type} {d : Kd α} {e : Nat} {base : Nat} {ok : Nat → Prop} {v : Value} {xs : List α} (h : IsS42 w0 W g f0 f1 f2 f3) (ho : d.S e W base ok v xs) (ht : e ≠ 42) : some g ≠ v.ownBlock := by
 obtain ⟨A3, c3, hb, hg, hr3, hl3⟩ := h
 exact Kd.S_ne ho hb ht
theorem IsS42.lt {w0 W : World} {g : Nat} {f0 : Cx} {f1 : Cx} {f2 : Cx} {f3 : List (S66)} (h : IsS42 w0 W g f0 f1 f2 f3) : g < W.heap.size := by
 obtain ⟨A3, c3, hb, hg, hr3, hl3⟩ := h
 exact blk_lt hb
theorem IsS42.ge {w0 W : World} {g : Nat} {f0 : Cx} {f1 : Cx} {f2 : Cx} {f3 : List (S66)} (h : IsS42 w0 W g f0 f1 f2 f3) : w0.heap.size ≤ g := by
 obtain ⟨A3, c3, hb, hg, hr3, hl3⟩ := h
 exact hg
theorem IsS42.ne_blk {w0 W : World} {g : Nat} {f0 : Cx} {f1 : Cx} {f2 : Cx} {f3 : List (S66)} {a : Nat} {cs : Array Value} {t : TypeId} {fr : Nat × Nat} (h : IsS42 w0 W g f0 f1 f2 f3) (hb2 : W.heap[a]? = some (.cells cs t fr)) (ht : t ≠ 42) : g ≠ a := by
 obtain ⟨A3, c3, hb, hg, hr3, hl3⟩ := h
 rintro rfl
 rw [hb] at hb2
 injection hb2 with hb2
 injection hb2 with _ ht2
 exact ht ht2.symm
theorem IsS42.far {w0 W : World} {g : Nat} {f0 : Cx} {f1 : Cx} {f2 : Cx} {f3 : List (S66)} {p : Addr} (h : IsS42 w0 W g f0 f1 f2 f3) (hne : g ≠ p.block) (u : Value) : IsS42 w0 (W.setCell p u) g f0 f1 f2 f3 := by
 obtain ⟨A3, c3, hb, hg, hr3, hl3⟩ := h
 exact ⟨A3, c3, blk_far hb hne u, hg, hr3, hl3⟩
theorem cellS42_0 {W : World} {g : Nat} {A3 : Option Addr} {c3 : Nat} {f0 : Cx} {f1 : Cx} {f2 : Cx} {f3 : List (S66)} (h : W.heap[g]? = some (.cells #[.complex .f32 f0.re f0.im, .complex .f32 f1.re f1.im, .complex .f32 f2.re f2.im, .slice A3 f3.length c3] 42 (0, 0))) : W.cell? ⟨g, 0, none⟩ = some (.complex .f32 f0.re f0.im) := (blk_cell h 0).trans rfl
theorem IsS42.set_0 {w0 W : World} {g : Nat} {f0 : Cx} {f1 : Cx} {f2 : Cx} {f3 : List (S66)} (h : IsS42 w0 W g f0 f1 f2 f3) (x : Cx) : IsS42 w0 (W.setCell ⟨g, 0, none⟩ (.complex .f32 x.re x.im)) g x f1 f2 f3 := by
 obtain ⟨A3, c3, hb, hg, hr3, hl3⟩ := h
 exact ⟨A3, c3, by simpa using blk_set hb 0 (.complex .f32 x.re x.im), hg, hr3, hl3⟩
theorem cellS42_1 {W : World} {g : Nat} {A3 : Option Addr} {c3 : Nat} {f0 : Cx} {f1 : Cx} {f2 : Cx} {f3 : List (S66)} (h : W.heap[g]? = some (.cells #[.complex .f32 f0.re f0.im, .complex .f32 f1.re f1.im, .complex .f32 f2.re f2.im, .slice A3 f3.length c3] 42 (0, 0))) : W.cell? ⟨g, 1, none⟩ = some (.complex .f32 f1.re f1.im) := (blk_cell h 1).trans rfl
theorem IsS42.set_1 {w0 W : World} {g : Nat} {f0 : Cx} {f1 : Cx} {f2 : Cx} {f3 : List (S66)} (h : IsS42 w0 W g f0 f1 f2 f3) (x : Cx) : IsS42 w0 (W.setCell ⟨g, 1, none⟩ (.complex .f32 x.re x.im)) g f0 x f2 f3 := by
 obtain ⟨A3, c3, hb, hg, hr3, hl3⟩ := h
 exact ⟨A3, c3, by simpa using blk_set hb 1 (.complex .f32 x.re x.im), hg, hr3, hl3⟩
theorem cellS42_2 {W : World} {g : Nat} {A3 : Option Addr} {c3 : Nat} {f0 : Cx} {f1 : Cx} {f2 : Cx} {f3 : List (S66)} (h : W.heap[g]? = some (.cells #[.complex .f32 f0.re f0.im, .complex .f32 f1.re f1.im, .complex .f32 f2.re f2.im, .slice A3 f3.length c3] 42 (0, 0))) : W.cell? ⟨g, 2, none⟩ = some (.complex .f32 f2.re f2.im) := (blk_cell h 2).trans rfl
theorem IsS42.set_2 {w0 W : World} {g : Nat} {f0 : Cx} {f1 : Cx} {f2 : Cx} {f3 : List (S66)} (h : IsS42 w0 W g f0 f1 f2 f3) (x : Cx) : IsS42 w0 (W.setCell ⟨g, 2, none⟩ (.complex .f32 x.re x.im)) g f0 f1 x f3 := by
 obtain ⟨A3, c3, hb, hg, hr3, hl3⟩ := h
 exact ⟨A3, c3, by simpa using blk_set hb 2 (.complex .f32 x.re x.im), hg, hr3, hl3⟩
theorem cellS42_3 {W : World} {g : Nat} {A3 : Option Addr} {c3 : Nat} {f0 : Cx} {f1 : Cx} {f2 : Cx} {f3 : List (S66)} (h : W.heap[g]? = some (.cells #[.complex .f32 f0.re f0.im, .complex .f32 f1.re f1.im, .complex .f32 f2.re f2.im, .slice A3 f3.length c3] 42 (0, 0))) : W.cell? ⟨g, 3, none⟩ = some (.slice A3 f3.length c3) := (blk_cell h 3).trans rfl
theorem IsS42.new (w0 W : World) (A3 : Option Addr) (c3 : Nat) (f0 : Cx) (f1 : Cx) (f2 : Cx) (f3 : List (S66)) (hB : Below w0.heap.size w0 W) (hr3 : Kd.C k66 w0 A3 f3.length f3) (hl3 : f3.length ≤ c3) : IsS42 w0 (W.alloc (.cells #[.complex .f32 f0.re f0.im, .complex .f32 f1.re f1.im, .complex .f32 f2.re f2.im, .slice A3 f3.length c3] 42)) W.heap.size f0 f1 f2 f3 := ⟨A3, c3, by simpa using heap_alloc_new W _, hB.size, hr3, hl3⟩
theorem IsS42.up {P : Prop} (h : P := by repeat (first | (with_reducible first | exact hi_ | apply IsS42.alloc | apply IsS42.drewN | apply IsS42.drew | apply IsS42.set_0 | apply IsS42.set_1 | apply IsS42.set_2 | refine IsS42.far ?_ (Aside0.out (by assumption)) _) | exact hi_)) : P := h
theorem IsS42.cell_0 {w0 W : World} {g : Nat} {f0 : Cx} {f1 : Cx} {f2 : Cx} {f3 : List (S66)} (h : IsS42 w0 W g f0 f1 f2 f3) : W.cell? ⟨g, 0, none⟩ = some (.complex .f32 f0.re f0.im) := by
 obtain ⟨A3, c3, hb, hg, hr3, hl3⟩ := h
 exact cellS42_0 hb
theorem IsS42.cell_1 {w0 W : World} {g : Nat} {f0 : Cx} {f1 : Cx} {f2 : Cx} {f3 : List (S66)} (h : IsS42 w0 W g f0 f1 f2 f3) : W.cell? ⟨g, 1, none⟩ = some (.complex .f32 f1.re f1.im) := by
 obtain ⟨A3, c3, hb, hg, hr3, hl3⟩ := h
 exact cellS42_1 hb
theorem IsS42.cell_2 {w0 W : World} {g : Nat} {f0 : Cx} {f1 : Cx} {f2 : Cx} {f3 : List (S66)} (h : IsS42 w0 W g f0 f1 f2 f3) : W.cell? ⟨g, 2, none⟩ = some (.complex .f32 f2.re f2.im) := by
 obtain ⟨A3, c3, hb, hg, hr3, hl3⟩ := h
 exact cellS42_2 hb

/-! ### impl_Feeder_has: function 90 -/
def impl_Feeder_has.f (k : Nat) (s0_0 : Cx) (s0_1 : Cx) (s0_2 : Cx) (s0_3 : List (S66)) (a1 : Int) : Option (Bool × Cx × Cx × Cx) := (impl_ValidFeeder.f k s0_0 s0_1 s0_2 s0_3).bind fun t221 => (if t221 = true then ((impl_in.f a1 0 (wrap64 ((s0_3.length : Int) - 1))).bind fun t222 => (some (t222, s0_0, s0_1, s0_2))) else (some (false, s0_0, s0_1, s0_2)))
theorem impl_Feeder_has.mono : ∀ a0 a1 a2 a3 a4 k, LeO (impl_Feeder_has.f k a0 a1 a2 a3 a4) (impl_Feeder_has.f (k + 1) a0 a1 a2 a3 a4) := by
 intro a0 a1 a2 a3 a4 k
 unfold impl_Feeder_has.f
 repeat' first
   | (with_reducible exact impl_ValidFeeder.mono _ _ _ _ _)
   | (with_reducible exact LeO.refl _)
   | (with_reducible exact LeO.none _)
   | (with_reducible refine LeO.ite ?_ ?_)
   | (with_reducible refine LeO.bind ?_ (fun _ => ?_))
   | exact impl_ValidFeeder.mono _ _ _ _ _
   | exact LeO.none _
   | refine LeO.ite ?_ ?_
   | refine LeO.bind ?_ (fun _ => ?_)
set_option maxHeartbeats 8000000 in
set_option maxRecDepth 100000 in
theorem impl_Feeder_has.calls (k : Nat) (g : Nat) (s0_0 : Cx) (s0_1 : Cx) (s0_2 : Cx) (s0_3 : List (S66)) (a1 : Int) (r1 : Bool) (r2 : Cx) (r3 : Cx) (r4 : Cx) (w0 w : World) (hI : IsS42 w0 w g s0_0 s0_1 s0_2 s0_3) (hB : Below w0.heap.size w0 w) (h : impl_Feeder_has.f k s0_0 s0_1 s0_2 s0_3 a1 = some (r1, r2, r3, r4)) :
  Calls Try.prog 90 #[.pointer (some ⟨g, 0, none⟩), .int .i64 a1] w fun e w' => e = .returned (.bool r1) ∧ IsS42 w0 w' g r2 r3 r4 s0_3 ∧ Below w0.heap.size w0 w' ∧ KeepBut w w' g none := by
 have hu42 := Try.underlying42
 have HI0 := Aside0.mk hI
 have HK := Aside0.mk (KeepBut.refl w g none)
 have HL := Aside0.mk hB.size
 clear hI
 have HW0 := Aside0.mk hB.size
 have HB := Aside0.mk hB
 clear hB
 have H : ((impl_ValidFeeder.f k s0_0 s0_1 s0_2 s0_3).bind fun t221 => (if t221 = true then ((impl_in.f a1 0 (wrap64 ((s0_3.length : Int) - 1))).bind fun t222 => (some (t222, s0_0, s0_1, s0_2))) else (some (false, s0_0, s0_1, s0_2)))) = some (r1, r2, r3, r4) := h
 clear h
 replace H := Option.bind_eq_some_iff.mp H
 obtain ⟨t221, A30, H⟩ := H
 try dsimp only at H
 have A3 := Aside0.mk A30
 clear A30
 by_cases c4 : t221 = true
 ·subst c4
  rw [if_pos rfl] at H; try dsimp only at H
  replace H := Option.bind_eq_some_iff.mp H
  obtain ⟨t222, A50, H⟩ := H
  try dsimp only at H
  have A5 := Aside0.mk A50
  clear A50
  simp only [Option.some.injEq, Prod.mk.injEq] at H
  obtain ⟨rfl, rfl, rfl, rfl⟩ := H
  obtain ⟨ASz6_3, cSz6_3, HGz6, hgz6, HSz6_3, HLz6_3⟩ := HI0.out
  have hcz6_0 := cellS42_0 HGz6
  have hcz6_1 := cellS42_1 HGz6
  have hcz6_2 := cellS42_2 HGz6
  have hcz6_3 := cellS42_3 HGz6
  have hfz6_0 := blk_frozen HGz6 0
  have hfz6_1 := blk_frozen HGz6 1
  have hfz6_2 := blk_frozen HGz6 2
  clear HGz6 hgz6
  have HR220 := Aside0.mk (Kd.C_foot_came k66_heap HSz6_3 (by have ge_ := IsS42.ge HI0.out; exact tb) (IsS42.ge HI0.out))
  have HC220 := Aside0.mk HLz6_3
  go_enter Try.func90, Try.ntmps90
  go_wp2_with (first | ((with_reducible refine gate_callee (f := 34) rfl ?_); refine gx_ (some 8) Try.func34 #[.agg #[.complex .f32 s0_0.re s0_0.im, .complex .f32 s0_1.re s0_1.im, .complex .f32 s0_2.re s0_2.im, .slice ASz6_3 s0_3.length cSz6_3]] ?_; (with_reducible refine (impl_ValidFeeder.calls k s0_0 s0_1 s0_2 _ _ s0_3 true _ ?side1 ?side2 A3.out).mono ?_); (case side1 => exact Kd.C_foot_now HR220.out (by repeat (first | (with_reducible first | exact HK.out | apply KeepBut.set_ | apply keep_drewN | apply keep_drew | apply keep_alloc) | exact HK.out))); (case side2 => exact HC220.out); rintro e w7 ⟨rfl, hb⟩; refine ⟨_, rfl, ?_⟩; have n0_ := Aside0.mk (IsS42.below (by have hi_ := HI0.out; exact IsS42.up) hb); have n1_ := Aside0.mk (KeepBut.trans (by repeat (first | (with_reducible first | exact HK.out | apply KeepBut.set_ | apply keep_drewN | apply keep_drew | apply keep_alloc) | exact HK.out)) (KeepBut.of_below hb g none) (.inl rfl)); have n2_ := Aside0.mk (below_step (by have ge_ := IsS42.ge HI0.out; exact tb) hb); clear HI0; clear HK; clear HB; have HI0 := n0_; have HK := n1_; have HB := n2_; clear n0_ n1_ n2_; (try clear hb); (try clear hb2); (try clear hk); (try clear hi); obtain ⟨ASz8_3, cSz8_3, HGz8, hgz8, HSz8_3, HLz8_3⟩ := HI0.out; have hcz8_0 := cellS42_0 HGz8; have hcz8_1 := cellS42_1 HGz8; have hcz8_2 := cellS42_2 HGz8; have hcz8_3 := cellS42_3 HGz8; have hfz8_0 := blk_frozen HGz8 0; have hfz8_1 := blk_frozen HGz8 1; have hfz8_2 := blk_frozen HGz8 2; clear HGz8 hgz8) | (go_at_call 88; (with_reducible refine (impl_in.calls a1 0 (wrap64 ((s0_3.length : Int) - 1)) t222 _ A5.out).mono ?_); rintro e w' ⟨rfl, ⟨nd, rfl⟩⟩))
  go_ret
  exact ⟨re_, by have hi_ := HI0.out; exact IsS42.up, by have ge_ := IsS42.ge HI0.out; exact tb, by repeat (first | (with_reducible first | exact HK.out | apply KeepBut.set_ | apply keep_drewN | apply keep_drew | apply keep_alloc) | exact HK.out)⟩
 ·replace c4 := Bool.eq_false_iff.mpr c4
  subst c4
  have H1 : (some (false, s0_0, s0_1, s0_2)) = some (r1, r2, r3, r4) := by rw [if_neg (show ¬ (false = true) by decide)] at H; exact H
  clear H
  have H := H1
  clear H1
  simp only [Option.some.injEq, Prod.mk.injEq] at H
  obtain ⟨rfl, rfl, rfl, rfl⟩ := H
  obtain ⟨ASz9_3, cSz9_3, HGz9, hgz9, HSz9_3, HLz9_3⟩ := HI0.out
  have hcz9_0 := cellS42_0 HGz9
  have hcz9_1 := cellS42_1 HGz9
  have hcz9_2 := cellS42_2 HGz9
  have hcz9_3 := cellS42_3 HGz9
  have hfz9_0 := blk_frozen HGz9 0
  have hfz9_1 := blk_frozen HGz9 1
  have hfz9_2 := blk_frozen HGz9 2
  clear HGz9 hgz9
  have HR220 := Aside0.mk (Kd.C_foot_came k66_heap HSz9_3 (by have ge_ := IsS42.ge HI0.out; exact tb) (IsS42.ge HI0.out))
  have HC220 := Aside0.mk HLz9_3
  go_enter Try.func90, Try.ntmps90
  go_wp2_with (first | ((with_reducible refine gate_callee (f := 34) rfl ?_); refine gx_ (some 8) Try.func34 #[.agg #[.complex .f32 s0_0.re s0_0.im, .complex .f32 s0_1.re s0_1.im, .complex .f32 s0_2.re s0_2.im, .slice ASz9_3 s0_3.length cSz9_3]] ?_; (with_reducible refine (impl_ValidFeeder.calls k s0_0 s0_1 s0_2 _ _ s0_3 false _ ?side1 ?side2 A3.out).mono ?_); (case side1 => exact Kd.C_foot_now HR220.out (by repeat (first | (with_reducible first | exact HK.out | apply KeepBut.set_ | apply keep_drewN | apply keep_drew | apply keep_alloc) | exact HK.out))); (case side2 => exact HC220.out); rintro e w10 ⟨rfl, hb⟩; refine ⟨_, rfl, ?_⟩; have n0_ := Aside0.mk (IsS42.below (by have hi_ := HI0.out; exact IsS42.up) hb); have n1_ := Aside0.mk (KeepBut.trans (by repeat (first | (with_reducible first | exact HK.out | apply KeepBut.set_ | apply keep_drewN | apply keep_drew | apply keep_alloc) | exact HK.out)) (KeepBut.of_below hb g none) (.inl rfl)); have n2_ := Aside0.mk (below_step (by have ge_ := IsS42.ge HI0.out; exact tb) hb); clear HI0; clear HK; clear HB; have HI0 := n0_; have HK := n1_; have HB := n2_; clear n0_ n1_ n2_; (try clear hb); (try clear hb2); (try clear hk); (try clear hi)))
  go_ret
  exact ⟨re_, by have hi_ := HI0.out; exact IsS42.up, by have ge_ := IsS42.ge HI0.out; exact tb, by repeat (first | (with_reducible first | exact HK.out | apply KeepBut.set_ | apply keep_drewN | apply keep_drew | apply keep_alloc) | exact HK.out)⟩

end Go.Proofs.Ytcgpomicgbmdlaa.PFnCommon
namespace Go.Proofs.Ytcgpomicgbmdlaa.PFnCommon
open Go.RowKit Go.Proofs.YtcgpomicgbmdlaaW.PrintWords Go.Proofs.YtcgpomicgbmdlaaW.PrintLast Go.Proofs.YtcgpomicgbmdlaaW.PrintMore
attribute [local go_sem] max2_int min2_int max_two min_two max_three min_three max_four min_four   -- for this text's walks alone
set_option linter.unusedVariables false
set_option linter.unusedSimpArgs false

/-! ### slices_Reverse_int64_int64: function 143 -/
def slices_Reverse_int64_int64.l0 : Nat → List Int → Int → Int → Option (List Int)
 | 0, _, _, _ => none
 | k + 1, x0, x2, x3 => if x2 < x3 then (if 0 ≤ x3 then (if x3 < (x0.length : Int) then (if 0 ≤ x2 then (if x2 < (x0.length : Int) then (slices_Reverse_int64_int64.l0 k ((x0.set (x2 : Int).toNat (rd x0 x3)).set (x3 : Int).toNat (rd x0 x2)) (wrap64 (x2 + 1)) (wrap64 (x3 - 1))) else (none)) else (none)) else (none)) else (none)) else (some x0)
def slices_Reverse_int64_int64.f (k : Nat) (l0 : List Int) : Option (List Int) := slices_Reverse_int64_int64.l0 k l0 0 (wrap64 ((l0.length : Int) - 1))
theorem slices_Reverse_int64_int64.mono_l : ∀ k, (∀ y0 y1 y2, LeO (slices_Reverse_int64_int64.l0 k y0 y1 y2) (slices_Reverse_int64_int64.l0 (k + 1) y0 y1 y2))
 | 0 => fun _ _ _ r h => by simp [slices_Reverse_int64_int64.l0] at h
 | k + 1 => by
  have ih0 := slices_Reverse_int64_int64.mono_l k
  ·intro y0 y1 y2
   unfold slices_Reverse_int64_int64.l0
   repeat' first
   | (with_reducible exact ih0 _ _ _)
   | (with_reducible exact LeO.refl _)
   | (with_reducible exact LeO.none _)
   | (with_reducible refine LeO.ite ?_ ?_)
   | (with_reducible refine LeO.bind ?_ (fun _ => ?_))
   | exact ih0 _ _ _
   | exact LeO.none _
   | refine LeO.ite ?_ ?_
   | refine LeO.bind ?_ (fun _ => ?_)
theorem slices_Reverse_int64_int64.mono : ∀ a0 k, LeO (slices_Reverse_int64_int64.f k a0) (slices_Reverse_int64_int64.f (k + 1) a0) := by
 intro a0 k
 have ih0 := slices_Reverse_int64_int64.mono_l k
 unfold slices_Reverse_int64_int64.f
 repeat' first
   | (with_reducible exact ih0 _ _ _)
   | (with_reducible exact LeO.refl _)
   | (with_reducible exact LeO.none _)
   | (with_reducible refine LeO.ite ?_ ?_)
   | (with_reducible refine LeO.bind ?_ (fun _ => ?_))
   | exact ih0 _ _ _
   | exact LeO.none _
   | refine LeO.ite ?_ ?_
   | refine LeO.bind ?_ (fun _ => ?_)
def slices_Reverse_int64_int64.T3 : Bool × List (List Nat × List Nat) := (true, [([], []), ([], []), ([], []), ([], []), ([], []), ([], []), ([4, 5], [4, 5]), ([6], [6]), ([], []), ([], []), ([8, 9], [8, 9]), ([10], [10]), ([0, 1, 0, 1, 4, 5, 6, 7, 11], [0, 1]), ([12, 7, 0, 1, 4, 5, 6, 7, 11], [7, 12]), ([2, 3, 0, 1, 2, 3, 4, 5, 6, 7, 8, 9, 10, 11, 12, 13], [2, 3]), ([14, 11, 13, 0, 1, 2, 3, 4, 5, 6, 7, 8, 9, 10, 11, 12, 13], [11, 14])])
def slices_Reverse_int64_int64.B3 : List Nat := [0, 0, 0, 0, 0, 0, 48, 112, 0, 0, 768, 1792, 4083, 8179, 16383, 32767]
theorem slices_Reverse_int64_int64.tab3 : rtab .any (opsOf Try.f143 3) = slices_Reverse_int64_int64.T3 := by kernel_rfl
theorem slices_Reverse_int64_int64.bits3 : waitsOk slices_Reverse_int64_int64.T3.2 slices_Reverse_int64_int64.B3 = true := by kernel_rfl
set_option maxHeartbeats 8000000 in
set_option maxRecDepth 100000 in
theorem slices_Reverse_int64_int64.calls (k : Nat) (P0_ : Nat → Prop) (u9000_ : Value) (l0 : List Int) (r : List Int) (w0 w : World) (hB : Below w0.heap.size w0 w) (ho0 : Kd.R (Kd.int .i64) 2 w w0.heap.size P0_ u9000_ l0) (h : slices_Reverse_int64_int64.f k l0 = some r) :
  Calls Try.prog 143 #[u9000_] w fun e w' => e = .returned (.tuple #[]) ∧ Kd.R (Kd.int .i64) 2 w' w0.heap.size (fun k_ => (P0_ k_ ∨ w.heap.size ≤ k_)) u9000_ r ∧ Below w0.heap.size w0 w' ∧ Kept w w' (fun k_ => P0_ k_) := by
 have HO0 := Aside0.mk (show Kd.R (Kd.int .i64) 2 w w0.heap.size (fun k_ => (P0_ k_ ∨ w.heap.size ≤ k_)) u9000_ l0 from Kd.R_mono ho0 (fun k_ hk => (.inl hk)))
 have HK := Aside0.mk (Kept.refl w (fun k_ => P0_ k_))
 have HW0 := Aside0.mk hB.size
 have HB := Aside0.mk hB
 clear hB
 have H : (slices_Reverse_int64_int64.l0 k l0 0 (wrap64 ((l0.length : Int) - 1))) = some r := h
 clear h
 have H' := Aside0.mk H
 clear H
 obtain ⟨Ao2, co2, eo2⟩ := Kd.R_slice HO0.out
 subst eo2
 go_enter Try.func143, Try.ntmps143
 go_wp2
 go_loopg [2, 3] k (fun kq v2 v3 w' => ∃ (x0_1 : List Int) (x2_1 : Int) (x3_1 : Int), v2 = .int .i64 x2_1 ∧ v3 = .int .i64 x3_1 ∧ Aside0 (slices_Reverse_int64_int64.l0 kq x0_1 x2_1 x3_1 = some r) ∧ Aside0 (kq ≤ k) ∧ Aside0 (Kd.R (Kd.int .i64) 2 w' w0.heap.size (fun k_ => (P0_ k_ ∨ w.heap.size ≤ k_)) (.slice Ao2 l0.length co2) x0_1) ∧ Aside0 (Kept w w' (fun k_ => P0_ k_)) ∧ Aside0 (Below w0.heap.size w0 w'))
 case atStart => exact ⟨(l0), (0), (wrap64 ((l0.length : Int) - 1)), rs_, rs_, H', ⟨Nat.le_refl _⟩, ⟨by refine ru ?_; exact HO0.out⟩, ⟨by repeat (first | (with_reducible first | exact HK.out | apply Kept.alloc | apply Kept.drewN | apply Kept.drew) | exact HK.out)⟩, ⟨tb⟩⟩
 case round =>
  clear H'
  try clear c1
  try clear p2
  obtain ⟨x0_1, x2_1, x3_1, rfl, rfl, HA, HK1, HO_0, HK, HB⟩ := hrel
  have hl0_1 := (Kd.R_reads' HO_0.out).1
  rw [hl0_1] at HO_0
  (try simp only [hl0_1])
  cases gk with
  | zero => exact absurd HA.out (by simp [slices_Reverse_int64_int64.l0])
  | succ k1 =>
   have H := HA.out
   clear HA
   simp only [slices_Reverse_int64_int64.l0] at H
   by_cases c3 : x2_1 < x3_1
   ·rw [if_pos c3] at H
    have c3b0 : decide (x2_1 < x3_1) = true := decide_eq_true c3
    clear c3
    by_cases c4 : 0 ≤ x3_1
    ·rw [if_pos c4] at H
     have c4b0 : decide (0 ≤ x3_1) = true := decide_eq_true c4
     clear c4
     by_cases c5 : x3_1 < (x0_1.length : Int)
     ·rw [if_pos c5] at H
      have c5b0 : decide (x3_1 < (x0_1.length : Int)) = true := decide_eq_true c5
      clear c5
      by_cases c6 : 0 ≤ x2_1
      ·rw [if_pos c6] at H
       have c6b0 : decide (0 ≤ x2_1) = true := decide_eq_true c6
       clear c6
       by_cases c7 : x2_1 < (x0_1.length : Int)
       ·rw [if_pos c7] at H
        have c7b0 : decide (x2_1 < (x0_1.length : Int)) = true := decide_eq_true c7
        clear c7
        obtain ⟨y225, hy225⟩ : ∃ y_ : List Int, y_ = (x0_1.set (x2_1 : Int).toNat (rd x0_1 x3_1)) := ⟨_, rfl⟩
        replace H : (slices_Reverse_int64_int64.l0 k1 (y225.set (x3_1 : Int).toNat (rd x0_1 x2_1)) (wrap64 (x2_1 + 1)) (wrap64 (x3_1 - 1))) = some r := by first | (rw [hy225]; with_reducible exact H) | (have H2_ := (Option.bind_some _ _).symm.trans H; rw [hy225]; with_reducible exact H2_) | (have H2_ := (Option.bind_some _ _).symm.trans H; with_reducible exact H2_) | with_reducible exact H | (rw [hy225]; exact H) | exact H
        have Ny225 := Aside0.mk hy225
        clear hy225
        obtain ⟨y226, hy226⟩ : ∃ y_ : List Int, y_ = (y225.set (x3_1 : Int).toNat (rd x0_1 x2_1)) := ⟨_, rfl⟩
        replace H : (slices_Reverse_int64_int64.l0 k1 y226 (wrap64 (x2_1 + 1)) (wrap64 (x3_1 - 1))) = some r := by first | (rw [hy226]; with_reducible exact H) | (have H2_ := (Option.bind_some _ _).symm.trans H; rw [hy226]; with_reducible exact H2_) | (have H2_ := (Option.bind_some _ _).symm.trans H; with_reducible exact H2_) | with_reducible exact H | (rw [hy226]; exact H) | exact H
        have Ny226 := Aside0.mk hy226
        clear hy226
        have H' := Aside0.mk H
        clear H
        try go_wp2
        have n0_ := Aside0.mk (Kd.R_drew HO_0.out)
        have n1_ := Aside0.mk (Kept.drew HK.out)
        have n2_ := Aside0.mk (below_drew1 HB.out)
        clear HO_0
        clear HK
        clear HB
        have HO_0 := n0_
        have HK := n1_
        have HB := n2_
        clear n0_ n1_ n2_
        have p223 : 0 ≤ (x3_1 : Int) := of_decide_eq_true (by first | (with_reducible assumption) | assumption)
        have q223 : x3_1 < (x0_1.length : Int) := of_decide_eq_true (by first | (with_reducible assumption) | assumption)
        obtain ⟨ad223, e223, hx223_0⟩ := Kd.at_int (Kd.R_reads' HO_0.out).2.2 x3_1 p223 q223
        cases e223
        replace p223 := eq_true p223
        replace q223 := eq_true q223
        have p224 : 0 ≤ (x2_1 : Int) := of_decide_eq_true (by first | (with_reducible assumption) | assumption)
        have q224 : x2_1 < (x0_1.length : Int) := of_decide_eq_true (by first | (with_reducible assumption) | assumption)
        obtain ⟨ad224, e224, hx224_0⟩ := Kd.at_int (Kd.R_reads' HO_0.out).2.2 x2_1 p224 q224
        obtain rfl : ad223 = ad224 := (by injection e224)
        replace p224 := eq_true p224
        replace q224 := eq_true q224
        have p8 : 0 ≤ (x2_1 : Int) := of_decide_eq_true (by first | (with_reducible assumption) | assumption)
        have q8 : (x2_1 : Int) < ((x0_1.length : Int) : Int) := of_decide_eq_true (by first | (with_reducible assumption) | assumption)
        obtain ⟨go8, co8, eo8, gb8, gl8, cl8, HG8⟩ := Kd.R_form HO_0.out (by omega)
        (first | cases eo8 | (injection eo8 with ea_ en_ ec_; (first | subst ea_ | (injection ea_ with ea_; subst ea_)); subst ec_; clear en_))
        have GB8 := Aside0.mk gb8
        have GG8 := Aside0.mk HG8
        clear gb8 gl8 HG8
        have HMgo8 := Aside0.mk (show (P0_ go8 ∨ w.heap.size ≤ go8) from (HO_0.out.1 _ rfl))
        (first | simp only [add_plain] at hx223_0 | skip)
        (first | simp only [add_plain] at hx224_0 | skip)
        obtain ⟨hx8_0, hf8_0⟩ := Kd.R_celln 0 HO_0.out (x2_1 : Int) p8 q8
        replace p8 := eq_true p8
        replace q8 := eq_true q8
        have HP11 := Kd.R_putn HO_0.out (x2_1 : Int) (rd x0_1 x3_1)
        rw [← Ny225.out] at HP11
        have HQ11 := Aside0.mk HP11
        clear HP11
        have p9 : 0 ≤ (x3_1 : Int) := of_decide_eq_true (by first | (with_reducible assumption) | assumption)
        have q9 : (x3_1 : Int) < ((x0_1.length : Int) : Int) := of_decide_eq_true (by first | (with_reducible assumption) | assumption)
        obtain ⟨hx9_0, hf9_0⟩ := Kd.R_celln 0 HQ11.out (x3_1 : Int) p9 q9
        replace p9 := eq_true p9
        replace q9 := eq_true q9
        have HP12 := Kd.R_putn HQ11.out (x3_1 : Int) (rd x0_1 x2_1)
        rw [← Ny226.out] at HP12
        have HQ12 := Aside0.mk HP12
        clear HP12
        refine start_ (n := 16) (S := fun w' => w'.cell? ⟨go8, (x3_1).toNat, none⟩ = some (.int .i64 (rd x0_1 x3_1)) ∧ w'.cell? ⟨go8, (x2_1).toNat, none⟩ = some (.int .i64 (rd x0_1 x2_1))) (ds := [13, 15]) #[false, false, false, false, false, false, false, false, false, false, false, false, false, false, false, false] (by kernel_rfl) rfl rfl ⟨hx223_0, hx224_0⟩ (fun hHeld => ?_); refine with_tabW slices_Reverse_int64_int64.tab3 slices_Reverse_int64_int64.bits3 (fun HT_ HW_ => ?_)
        generalize wr.drew = w10 at HO_0 HK HB GG8 HQ11 HQ12 hf8_0 hf9_0 hx223_0 hx224_0 hx8_0 hx9_0 hHeld ⊢
        refine pure_ (i := 0) (N := some 14) (v := ?_) (a' := ?_) #[true, false, false, false, false, false, false, false, false, false, false, false, false, false, false, false] rfl rfl (any_of HT_.out (by kernel_rfl)) (fun _ _ _ h => h) (Or.inl ⟨by rfl, ?_⟩) ?_ ?_
        rotate_left
        ·intro w'
         go_simp
         with_reducible rfl
        rotate_left
        ·refine ps_ ?_
         rfl
        refine pure_ (i := 1) (N := some 15) (v := ?_) (a' := ?_) #[true, true, false, false, false, false, false, false, false, false, false, false, false, false, false, false] rfl rfl (any_of HT_.out (by kernel_rfl)) (fun _ _ _ h => h) (Or.inl ⟨by rfl, ?_⟩) ?_ ?_
        rotate_left
        ·intro w'
         go_simp
         with_reducible rfl
        rotate_left
        ·refine ps_ ?_
         rfl
        refine pure_ (i := 2) (N := some 16) (v := ?_) (a' := ?_) #[true, true, true, false, false, false, false, false, false, false, false, false, false, false, false, false] rfl rfl (any_of HT_.out (by kernel_rfl)) (fun _ _ _ h => h) (Or.inl ⟨by rfl, ?_⟩) ?_ ?_
        rotate_left
        ·intro w'
         go_simp
         with_reducible rfl
        rotate_left
        ·refine ps_ ?_
         rfl
        refine pure_ (i := 3) (N := some 17) (v := ?_) (a' := ?_) #[true, true, true, true, false, false, false, false, false, false, false, false, false, false, false, false] rfl rfl (any_of HT_.out (by kernel_rfl)) (fun _ _ _ h => h) (Or.inl ⟨by rfl, ?_⟩) ?_ ?_
        rotate_left
        ·intro w'
         go_simp
         with_reducible rfl
        rotate_left
        ·refine ps_ ?_
         rfl
        refine pure_ (i := 4) (N := some 18) (v := ?_) (a' := ?_) #[true, true, true, true, true, false, false, false, false, false, false, false, false, false, false, false] rfl rfl (any_of HT_.out (by kernel_rfl)) (fun _ _ _ h => h) (Or.inl ⟨by rfl, ?_⟩) ?_ ?_
        rotate_left
        ·intro w'
         go_simp
         with_reducible rfl
        rotate_left
        ·refine ps_ ?_
         rfl
        refine pure_ (i := 5) (N := some 19) (v := ?_) (a' := ?_) #[true, true, true, true, true, true, false, false, false, false, false, false, false, false, false, false] rfl rfl (any_of HT_.out (by kernel_rfl)) (fun _ _ _ h => h) (Or.inl ⟨by rfl, ?_⟩) ?_ ?_
        rotate_left
        ·intro w'
         go_simp
         with_reducible rfl
        rotate_left
        ·refine ps_ ?_
         rfl
        refine pure_ (i := 6) (N := some 20) (v := ?_) (a' := ?_) #[true, true, true, true, true, true, true, false, false, false, false, false, false, false, false, false] rfl rfl (any_of HT_.out (by kernel_rfl)) (fun _ _ _ h => h) (Or.inl ⟨by rfl, ?_⟩) ?_ ?_
        rotate_left
        ·intro w'
         go_simp
         with_reducible rfl
        rotate_left
        ·refine ps_ ?_
         rfl
        refine pure_ (i := 8) (N := some 22) (v := ?_) (a' := ?_) #[true, true, true, true, true, true, true, false, true, false, false, false, false, false, false, false] rfl rfl (any_of HT_.out (by kernel_rfl)) (fun _ _ _ h => h) (Or.inl ⟨by rfl, ?_⟩) ?_ ?_
        rotate_left
        ·intro w'
         go_simp
         with_reducible rfl
        rotate_left
        ·refine ps_ ?_
         rfl
        refine pure_ (i := 9) (N := some 23) (v := ?_) (a' := ?_) #[true, true, true, true, true, true, true, false, true, true, false, false, false, false, false, false] rfl rfl (any_of HT_.out (by kernel_rfl)) (fun _ _ _ h => h) (Or.inl ⟨by rfl, ?_⟩) ?_ ?_
        rotate_left
        ·intro w'
         go_simp
         with_reducible rfl
        rotate_left
        ·refine ps_ ?_
         rfl
        refine pure_ (i := 10) (N := some 24) (v := ?_) (a' := ?_) #[true, true, true, true, true, true, true, false, true, true, true, false, false, false, false, false] rfl rfl (any_of HT_.out (by kernel_rfl)) (fun _ _ _ h => h) (Or.inl ⟨by rfl, ?_⟩) ?_ ?_
        rotate_left
        ·intro w'
         go_simp
         with_reducible rfl
        rotate_left
        ·refine ps_ ?_
         rfl
        refine take_ (i := 7) (N := some 21) (v := ?_) (a' := ?_) #[true, true, true, true, true, true, true, true, true, true, true, false, false, false, false, false] rfl rfl (take_ofW HT_.out HW_.out (by kernel_rfl)) (fun _ _ _ h => h) (Or.inl ⟨by rfl, ?_⟩) hHeld ?_ ?_
        rotate_left
        ·rintro w' ⟨s0, s1⟩
         go_simp
         with_reducible rfl
        rotate_left
        ·refine ps_ ?_
         rfl
        refine take_ (i := 11) (N := some 25) (v := ?_) (a' := ?_) #[true, true, true, true, true, true, true, true, true, true, true, true, false, false, false, false] rfl rfl (take_ofW HT_.out HW_.out (by kernel_rfl)) (fun _ _ _ h => h) (Or.inl ⟨by rfl, ?_⟩) hHeld ?_ ?_
        rotate_left
        ·rintro w' ⟨s0, s1⟩
         go_simp
         with_reducible rfl
        rotate_left
        ·refine ps_ ?_
         rfl
        refine pure_ (i := 12) (N := some 26) (v := ?_) (a' := ?_) #[true, true, true, true, true, true, true, true, true, true, true, true, true, false, false, false] rfl rfl (any_of HT_.out (by kernel_rfl)) (fun _ _ _ h => h) (Or.inl ⟨by rfl, ?_⟩) ?_ ?_
        rotate_left
        ·intro w'
         go_simp
         with_reducible rfl
        rotate_left
        ·refine ps_ ?_
         rfl
        refine last_ (i := 13) (N := none) #[true, true, true, true, true, true, true, true, true, true, true, true, true, true, false, false] rfl rfl (one_of HT_.out (by kernel_rfl)) (by decide) (fun K hK => ?_)
        refine skip_ (w1 := ?_) (by rfl) rfl ?_ ?_
        rotate_left
        ·go_simp
         rfl
        refine hK.out _ _ ?_
        clear hK K
        refine pure_ (i := 14) (N := some 27) (v := ?_) (a' := ?_) #[true, true, true, true, true, true, true, true, true, true, true, true, true, true, true, false] rfl rfl (any_of HT_.out (by kernel_rfl)) (fun _ _ _ h => h) (Or.inl ⟨by rfl, ?_⟩) ?_ ?_
        rotate_left
        ·intro w'
         go_simp
         with_reducible rfl
        rotate_left
        ·refine ps_ ?_
         rfl
        refine last_ (i := 15) (N := none) #[true, true, true, true, true, true, true, true, true, true, true, true, true, true, true, true] rfl rfl (one_of HT_.out (by kernel_rfl)) (by decide) (fun K hK => ?_)
        refine skip_ (w1 := ?_) (by rfl) rfl ?_ ?_
        rotate_left
        ·go_simp
         rfl
        refine hK.out _ _ ?_
        clear hK K
        refine done_ (done_of HT_.out (by kernel_rfl)) ?_
        try go_wp2
        (try simp only [← hl0_1])
        go_roundg k1
        case measure => have := HK1.out; omega
        case rel => exact ⟨(y226), (wrap64 (x2_1 + 1)), (wrap64 (x3_1 - 1)), rs_, rs_, H', ⟨by have := HK1.out; omega⟩, ⟨by (try simp only [hl0_1]); refine ru ?_; exact HQ12.out⟩, ⟨by repeat (first | (with_reducible first | exact HK.out | apply Kept.alloc | apply Kept.drewN | apply Kept.drew | refine Kept.setCell ?_ HMgo8.out _ | refine Kept.setCell ?_ HMgo8.out _) | exact HK.out)⟩, ⟨by repeat (first | (with_reducible first | exact HB.out | apply below_alloc | apply pw_below_drewN | apply below_drew1 | refine below_set ?_ GB8.out | refine below_set ?_ GB8.out) | exact HB.out)⟩⟩
       ·rw [if_neg c7] at H
        exact absurd H (by simp)
      ·rw [if_neg c6] at H
       exact absurd H (by simp)
     ·rw [if_neg c5] at H
      exact absurd H (by simp)
    ·rw [if_neg c4] at H
     exact absurd H (by simp)
   ·rw [if_neg c3] at H
    have c3b0 : decide (x2_1 < x3_1) = false := decide_eq_false c3
    clear c3
    obtain rfl := Option.some.inj H
    go_wp2
    first | go_end0 | ((try simp only [Exit.inBlock, Exit.then]); refine bodyPost_ret (results_none rfl _ _ _) rfl ?_)
    exact ⟨re_, (by first | exact (ru HO_0.out) | (simp only [hl0_1]; exact (ru HO_0.out))), tb, by repeat (first | (with_reducible first | exact HK.out | apply Kept.alloc | apply Kept.drewN | apply Kept.drew) | exact HK.out)⟩

end Go.Proofs.Ytcgpomicgbmdlaa.PFnCommon
namespace Go.Proofs.Ytcgpomicgbmdlaa.PFnCommon
open Go.RowKit Go.Proofs.YtcgpomicgbmdlaaW.PrintWords Go.Proofs.YtcgpomicgbmdlaaW.PrintLast Go.Proofs.YtcgpomicgbmdlaaW.PrintMore
attribute [local go_sem] max2_int min2_int max_two min_two max_three min_three max_four min_four   -- for this text's walks alone
set_option linter.unusedVariables false
set_option linter.unusedSimpArgs false

/-! ### impl_Feeder_path: function 101 -/
def impl_Feeder_path.l0 : Nat → Int → List Int → Cx → Cx → Cx → List (S66) → Option (List Int × Cx × Cx × Cx)
 | 0, _, _, _, _, _, _ => none
 | k + 1, x1, x5, x1000, x1001, x1002, x1003 => if x1 ≥ 0 then (if x5.length < 17592186044416 then (if 0 ≤ x1 then (if x1 < (x1003.length : Int) then (impl_Feeder_path.l0 k ((rd_T66 x1003 x1).f0) (x5 ++ [x1]) x1000 x1001 x1002 x1003) else (none)) else (none)) else (none)) else ((slices_Reverse_int64_int64.f k x5).bind fun t234 => (some (t234, x1000, x1001, x1002)))
def impl_Feeder_path.f (k : Nat) (s0_0 : Cx) (s0_1 : Cx) (s0_2 : Cx) (s0_3 : List (S66)) (a1 : Int) : Option (List Int × Cx × Cx × Cx) := impl_Feeder_path.l0 k a1 (([] : List Int)) s0_0 s0_1 s0_2 s0_3
theorem impl_Feeder_path.mono_l : ∀ k, (∀ y0 y1 y2 y3 y4 y5, LeO (impl_Feeder_path.l0 k y0 y1 y2 y3 y4 y5) (impl_Feeder_path.l0 (k + 1) y0 y1 y2 y3 y4 y5))
 | 0 => fun _ _ _ _ _ _ r h => by simp [impl_Feeder_path.l0] at h
 | k + 1 => by
  have ih0 := impl_Feeder_path.mono_l k
  ·intro y0 y1 y2 y3 y4 y5
   unfold impl_Feeder_path.l0
   repeat' first
   | (with_reducible exact ih0 _ _ _ _ _ _)
   | (with_reducible exact slices_Reverse_int64_int64.mono _ _)
   | (with_reducible exact LeO.refl _)
   | (with_reducible exact LeO.none _)
   | (with_reducible refine LeO.ite ?_ ?_)
   | (with_reducible refine LeO.bind ?_ (fun _ => ?_))
   | exact ih0 _ _ _ _ _ _
   | exact slices_Reverse_int64_int64.mono _ _
   | exact LeO.none _
   | refine LeO.ite ?_ ?_
   | refine LeO.bind ?_ (fun _ => ?_)
theorem impl_Feeder_path.mono : ∀ a0 a1 a2 a3 a4 k, LeO (impl_Feeder_path.f k a0 a1 a2 a3 a4) (impl_Feeder_path.f (k + 1) a0 a1 a2 a3 a4) := by
 intro a0 a1 a2 a3 a4 k
 have ih0 := impl_Feeder_path.mono_l k
 unfold impl_Feeder_path.f
 repeat' first
   | (with_reducible exact ih0 _ _ _ _ _ _)
   | (with_reducible exact slices_Reverse_int64_int64.mono _ _)
   | (with_reducible exact LeO.refl _)
   | (with_reducible exact LeO.none _)
   | (with_reducible refine LeO.ite ?_ ?_)
   | (with_reducible refine LeO.bind ?_ (fun _ => ?_))
   | exact ih0 _ _ _ _ _ _
   | exact slices_Reverse_int64_int64.mono _ _
   | exact LeO.none _
   | refine LeO.ite ?_ ?_
   | refine LeO.bind ?_ (fun _ => ?_)
set_option maxHeartbeats 8000000 in
set_option maxRecDepth 100000 in
theorem impl_Feeder_path.calls (k : Nat) (g : Nat) (s0_0 : Cx) (s0_1 : Cx) (s0_2 : Cx) (s0_3 : List (S66)) (a1 : Int) (r1 : List Int) (r2 : Cx) (r3 : Cx) (r4 : Cx) (w0 w : World) (hI : IsS42 w0 w g s0_0 s0_1 s0_2 s0_3) (hB : Below w0.heap.size w0 w) (h : impl_Feeder_path.f k s0_0 s0_1 s0_2 s0_3 a1 = some (r1, r2, r3, r4)) :
  Calls Try.prog 101 #[.pointer (some ⟨g, 0, none⟩), .int .i64 a1] w fun e w' => ∃ v0_ : Value, e = .returned (v0_) ∧ Kd.R (Kd.int .i64) 2 w' w.heap.size (fun _ => True) v0_ r1 ∧ IsS42 w0 w' g r2 r3 r4 s0_3 ∧ Below w0.heap.size w0 w' ∧ KeepBut w w' g none := by
 have HI0 := Aside0.mk hI
 have HK := Aside0.mk (KeepBut.refl w g none)
 have HL := Aside0.mk hB.size
 clear hI
 have HW0 := Aside0.mk hB.size
 have HB := Aside0.mk hB
 clear hB
 have H : (impl_Feeder_path.l0 k a1 (([] : List Int)) s0_0 s0_1 s0_2 s0_3) = some (r1, r2, r3, r4) := h
 clear h
 obtain ⟨y227, hy227⟩ : ∃ y_ : List Int, y_ = (([] : List Int)) := ⟨_, rfl⟩
 replace H : (impl_Feeder_path.l0 k a1 y227 s0_0 s0_1 s0_2 s0_3) = some (r1, r2, r3, r4) := by first | (rw [hy227]; with_reducible exact H) | (have H2_ := (Option.bind_some _ _).symm.trans H; rw [hy227]; with_reducible exact H2_) | (have H2_ := (Option.bind_some _ _).symm.trans H; with_reducible exact H2_) | with_reducible exact H | (rw [hy227]; exact H) | exact H
 have Ny227 := Aside0.mk hy227
 clear hy227
 have H' := Aside0.mk H
 clear H
 go_enter Try.func101, Try.ntmps101
 go_wp2_with (first | ((with_reducible refine gate_dst (N := 6) rfl ?_); refine Kd.R_lit (Kd.int .i64) _ 2 ?hg (N := 6) ?hd (xs := ([] : List Int)) (inner := []) (ok := fun _ => True) (okp := fun _ => True) ?hr ?hp (fun _ hk => hk) trivial (Below.refl _ _) (Nat.le_refl _) (by simp) ?_; (case hd => rfl); (case hg => rfl); (case hr => first | (go_simp; done) | (go_simp; rfl)); (case hp => exact (Reps.none _ _)); intro v228 w3 ho4 hb hg_ hnew_; clear hg_ hnew_; (first | rw [← Ny227.out] at ho4 | (simp only [Int.reduceToNat] at ho4; rw [← Ny227.out] at ho4)); have n0_ := Aside0.mk (Kd.R_lower ho4 (keep_size (w := w) (g := g) (row := none) (by repeat (first | (with_reducible first | exact HK.out | apply KeepBut.set_ | apply keep_drewN | apply keep_drew | apply keep_alloc) | exact HK.out)))); have n1_ := Aside0.mk (IsS42.below (by have hi_ := HI0.out; exact IsS42.up) hb); have n2_ := Aside0.mk (KeepBut.trans (by repeat (first | (with_reducible first | exact HK.out | apply KeepBut.set_ | apply keep_drewN | apply keep_drew | apply keep_alloc) | exact HK.out)) (KeepBut.of_below hb g none) (.inl rfl)); have n3_ := Aside0.mk (below_step (by have ge_ := IsS42.ge HI0.out; exact tb) hb); clear HI0; clear HK; clear HB; have HO229 := n0_; have HI0 := n1_; have HK := n2_; have HB := n3_; clear n0_ n1_ n2_ n3_; clear hb ho4))
 go_loopg [1, 5] k (fun kq v1 v5 w' => ∃ (x1_1 : Int) (x5_1 : List Int), v1 = .int .i64 x1_1 ∧ Aside0 (impl_Feeder_path.l0 kq x1_1 x5_1 s0_0 s0_1 s0_2 s0_3 = some (r1, r2, r3, r4)) ∧ Aside0 (kq ≤ k) ∧ Aside0 (Kd.R (Kd.int .i64) 2 w' w.heap.size (fun _ => True) v5 x5_1) ∧ Aside0 (IsS42 w0 w' g s0_0 s0_1 s0_2 s0_3) ∧ Aside0 (KeepBut w w' g none) ∧ Aside0 (Below w0.heap.size w0 w'))
 case atStart => exact ⟨(a1), (y227), rs_, H', ⟨Nat.le_refl _⟩, ⟨by refine ru ?_; exact HO229.out⟩, ⟨by have hi_ := HI0.out; exact IsS42.up⟩, ⟨by repeat (first | (with_reducible first | exact HK.out | apply KeepBut.set_ | apply keep_drewN | apply keep_drew | apply keep_alloc) | exact HK.out)⟩, ⟨by have ge_ := IsS42.ge HI0.out; exact tb⟩⟩
 case round =>
  clear H'
  try clear c1
  try clear p2
  obtain ⟨x1_1, x5_1, rfl, HA, HK1, HO_5, HI0, HK, HB⟩ := hrel
  cases gk with
  | zero => exact absurd HA.out (by simp [impl_Feeder_path.l0])
  | succ k1 =>
   have H := HA.out
   clear HA
   simp only [impl_Feeder_path.l0] at H
   by_cases c5 : x1_1 ≥ 0
   ·rw [if_pos c5] at H
    have c5b0 : decide (0 ≤ x1_1) = true := decide_eq_true c5
    clear c5
    by_cases c6 : x5_1.length < 17592186044416
    ·rw [if_pos c6] at H
     have LMc6 := Aside0.mk c6
     clear c6
     obtain ⟨y230, hy230⟩ : ∃ y_ : List Int, y_ = (x5_1 ++ [x1_1]) := ⟨_, rfl⟩
     replace H : (if 0 ≤ x1_1 then (if x1_1 < (s0_3.length : Int) then (impl_Feeder_path.l0 k1 ((rd_T66 s0_3 x1_1).f0) y230 s0_0 s0_1 s0_2 s0_3) else (none)) else (none)) = some (r1, r2, r3, r4) := by first | (rw [hy230]; with_reducible exact H) | (have H2_ := (Option.bind_some _ _).symm.trans H; rw [hy230]; with_reducible exact H2_) | (have H2_ := (Option.bind_some _ _).symm.trans H; with_reducible exact H2_) | with_reducible exact H | (rw [hy230]; exact H) | exact H
     have Ny230 := Aside0.mk hy230
     clear hy230
     by_cases c7 : 0 ≤ x1_1
     ·rw [if_pos c7] at H
      have c7b0 : decide (0 ≤ x1_1) = true := decide_eq_true c7
      clear c7
      by_cases c8 : x1_1 < (s0_3.length : Int)
      ·rw [if_pos c8] at H
       have c8b0 : decide (x1_1 < (s0_3.length : Int)) = true := decide_eq_true c8
       clear c8
       have H' := Aside0.mk H
       clear H
       go_wp2_with (first | ((with_reducible refine gate_builtin (b := .append) (xs := #[.tmp 17, .tmp 19]) rfl ?_); at_builtin; refine Kd.R_append (Kd.int .i64) w.heap.size rfl (.tmp 17) (.tmp 19) 72 2 (.int .i64 0) 8 rfl Try.underlying72 info2 rfl (by decide) (by omega) u5 x5_1 x1_1 [.int .i64 x1_1] (fun _ => True) (fun _ => False) rfl rfl ?aP (fun _ hk => hk.elim) ?aF ?aO (Below.refl _ _) ?aS ?aL ?_; (case aP => exact rfl); (case aF => exact (fun _ _ => trivial)); (case aO => exact (ru HO_5.out)); (case aS => exact (keep_size (w := w) (g := g) (row := none) (by repeat (first | (with_reducible first | exact HK.out | apply KeepBut.set_ | apply keep_drewN | apply keep_drew | apply keep_alloc) | exact HK.out)))); (case aL => have := LMc6.out; omega); intro v231 w9 ho hb hg hat; rw [← Ny230.out] at ho; have n0_ := Aside0.mk (IsS42.grown (show IsS42 w0 _ g s0_0 s0_1 s0_2 s0_3 from by have hi_ := HI0.out; exact IsS42.up) hg (IsS42.own_ne HI0.out HO_5.out (by decide))); have n1_ := Aside0.mk (below_weaken (by have ge_ := IsS42.ge HI0.out; exact tb) HL.out hb); have n2_ := Aside0.mk (KeepBut.trans (by repeat (first | (with_reducible first | exact HK.out | apply KeepBut.set_ | apply keep_drewN | apply keep_drew | apply keep_alloc) | exact HK.out)) (KeepBut.of_grown hg g) (Kd.R_base2 HO_5.out)); have n3_ := Aside0.mk (ho); clear HI0; clear HB; clear HK; clear HO_5; have HI0 := n0_; have HB := n1_; have HK := n2_; have HO232 := n3_; clear n0_ n1_ n2_ n3_; clear ho hb hg hat; obtain ⟨ASz10_3, cSz10_3, HGz10, hgz10, HSz10_3, HLz10_3⟩ := HI0.out; have hcz10_0 := cellS42_0 HGz10; have hcz10_1 := cellS42_1 HGz10; have hcz10_2 := cellS42_2 HGz10; have hcz10_3 := cellS42_3 HGz10; have hfz10_0 := blk_frozen HGz10 0; have hfz10_1 := blk_frozen HGz10 1; have hfz10_2 := blk_frozen HGz10 2; clear HGz10 hgz10; have p233 : 0 ≤ (x1_1 : Int) := of_decide_eq_true (by first | (with_reducible assumption) | assumption); have q233 : x1_1 < (s0_3.length : Int) := of_decide_eq_true (by first | (with_reducible assumption) | assumption); obtain ⟨ad233, e233, hx233_0, hx233_1, hx233_2, hx233_3, hx233_4, hx233_5, hx233_6, hx233_7⟩ := at_T66 HSz10_3 x1_1 p233 q233; cases e233; replace hx233_0 := pw_cell_below HB.out hx233_0; replace hx233_1 := pw_cell_below HB.out hx233_1; replace hx233_2 := pw_cell_below HB.out hx233_2; replace hx233_3 := pw_cell_below HB.out hx233_3; replace hx233_4 := pw_cell_below HB.out hx233_4; replace hx233_5 := pw_cell_below HB.out hx233_5; replace hx233_6 := pw_cell_below HB.out hx233_6; replace hx233_7 := pw_cell_below HB.out hx233_7; replace p233 := eq_true p233; replace q233 := eq_true q233))
       go_roundg k1
       case measure => have := HK1.out; omega
       case rel => exact ⟨((rd_T66 s0_3 x1_1).f0), (y230), rs_, H', ⟨by have := HK1.out; omega⟩, ⟨by refine ru ?_; exact HO232.out⟩, ⟨by have hi_ := HI0.out; exact IsS42.up⟩, ⟨by repeat (first | (with_reducible first | exact HK.out | apply KeepBut.set_ | apply keep_drewN | apply keep_drew | apply keep_alloc) | exact HK.out)⟩, ⟨by have ge_ := IsS42.ge HI0.out; exact tb⟩⟩
      ·rw [if_neg c8] at H
       exact absurd H (by simp)
     ·rw [if_neg c7] at H
      exact absurd H (by simp)
    ·rw [if_neg c6] at H
     exact absurd H (by simp)
   ·rw [if_neg c5] at H
    have c5b0 : decide (0 ≤ x1_1) = false := decide_eq_false c5
    clear c5
    replace H := Option.bind_eq_some_iff.mp H
    obtain ⟨t234, A110, H⟩ := H
    try dsimp only at H
    have A11 := Aside0.mk A110
    clear A110
    simp only [Option.some.injEq, Prod.mk.injEq] at H
    obtain ⟨rfl, rfl, rfl, rfl⟩ := H
    obtain ⟨Ao12, co12, eo12⟩ := Kd.R_slice HO_5.out
    subst eo12
    go_wp2_with (first | ((with_reducible refine gate_callee (f := 143) rfl ?_); refine gx_ (some 22) Try.func143 #[.slice Ao12 x5_1.length co12] ?_; (with_reducible refine (slices_Reverse_int64_int64.calls k1 (fun k_ => some k_ = (.slice Ao12 x5_1.length co12 : Value).ownBlock) (.slice Ao12 x5_1.length co12) x5_1 t234 w0 _ ?side1 ?side2 A11.out).mono ?_); (case side1 => have ge_ := IsS42.ge HI0.out; exact tb); (case side2 => exact Kd.R_lower (Kd.R_tight rfl HO_5.out) HL.out); rintro e w13 ⟨rfl, hy0, hb, hkp⟩; refine ⟨_, rfl, ?_⟩; have n0_ := Aside0.mk (Kd.R_reok rfl (Kd.R_raise (d := (Kd.int .i64)) (b := w0.heap.size) (b' := w.heap.size) (fun _ _ _ _ h_ => h_) hy0 (fun k_ e_ => Or.elim (hy0.1 k_ e_) (fun hs_ => (fun e_ => Kd.R_base HO_5.out k_ e_.symm) hs_) (fun hn_ => Nat.le_trans (keep_size (w := w) (g := g) (row := none) (by repeat (first | (with_reducible first | exact HK.out | apply KeepBut.set_ | apply keep_drewN | apply keep_drew | apply keep_alloc) | exact HK.out))) hn_))) (fun k_ e_ => HO_5.out.1 k_ e_)); have n1_ := Aside0.mk (IsS42.kept (by have hi_ := HI0.out; exact IsS42.up) hkp (fun hs_ => (fun e_ => (IsS42.own_ne HI0.out HO_5.out (by decide)) e_) hs_)); have n2_ := Aside0.mk (Kept.keepG (by repeat (first | (with_reducible first | exact HK.out | apply KeepBut.set_ | apply keep_drewN | apply keep_drew | apply keep_alloc) | exact HK.out)) hkp (fun k_ hs_ => (fun e_ => .inr (Kd.R_base HO_5.out k_ e_.symm)) hs_)); have n3_ := Aside0.mk (hb); clear HO_5; clear HI0; clear HK; clear HB; have HO_5 := n0_; have HI0 := n1_; have HK := n2_; have HB := n3_; clear n0_ n1_ n2_ n3_; (try clear hb); (try clear hkp); (try clear hy0)))
    go_ret
    exact ⟨_, re_, by refine ru ?_; exact HO_5.out, by have hi_ := HI0.out; exact IsS42.up, by have ge_ := IsS42.ge HI0.out; exact tb, by repeat (first | (with_reducible first | exact HK.out | apply KeepBut.set_ | apply keep_drewN | apply keep_drew | apply keep_alloc) | exact HK.out)⟩

end Go.Proofs.Ytcgpomicgbmdlaa.PFnCommon
