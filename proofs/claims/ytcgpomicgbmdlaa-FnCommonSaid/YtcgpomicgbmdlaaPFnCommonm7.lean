-- Words and walks of the print, as far as this claim uses them (laid by wip/mkclaim.py of this session). Lean checks it.
import Derived.Test.YtcgpomicgbmdlaaFl
import Derived.Test.YtcgpomicgbmdlaaPFnCommonm0
import Derived.Test.YtcgpomicgbmdlaaPFnCommonm3
import Derived.Test.YtcgpomicgbmdlaaPFnCommonm4
import Derived.Test.YtcgpomicgbmdlaaPFnCommonm5
import Derived.Test.YtcgpomicgbmdlaaPFnCommonm6
namespace Go.Proofs.Ytcgpomicgbmdlaa.PFnCommon
open Go.RowKit Go.Proofs.YtcgpomicgbmdlaaW.PrintWords Go.Proofs.YtcgpomicgbmdlaaW.PrintLast Go.Proofs.YtcgpomicgbmdlaaW.PrintMore
attribute [local go_sem] max2_int min2_int max_two min_two max_three min_three max_four min_four   -- for this text's walks alone
set_option linter.unusedVariables false
set_option linter.unusedSimpArgs false

/-! ### impl_FaultVoltages: function 43 -/
def impl_FaultVoltages.j0 : Nat → Int → Int → Cx → Int → Bool → Cx → Cx → Cx → List (S66) → Option (Cx × Cx × Cx × Bool)
 | 0, _, _, _, _, _, _, _, _, _ => none
 | k + 1, x1, x2, x3, x4, x23, x377000, x377001, x377002, x377003 => if x23 = true then (some ((⟨0, 0⟩ : Cx), (⟨0, 0⟩ : Cx), (⟨0, 0⟩ : Cx), false)) else ((impl_Feeder_fault.f k x377000 x377001 x377002 x377003 x1 x2 x3).bind fun bt386 => (if bt386.2.2.2.1 = true then ((impl_Feeder_common.f k bt386.2.2.2.2.1 bt386.2.2.2.2.2.1 bt386.2.2.2.2.2.2 x377003 x1 x4).bind fun bt394 => ((impl_Feeder_impedance.f k bt394.2.1 bt394.2.2.1 bt394.2.2.2 x377003 bt394.1).bind fun bt400 => ((impl_SequenceOf.f bt400.1 bt400.2.1).bind fun bt405 => ((impl_MulComplex.f bt405.1 bt386.1).bind fun t407 => (if fok .sub .f32 0 t407.re = true then (if fok .sub .f32 0 t407.im = true then ((impl_PartsOf.f k bt400.2.2.1 bt400.2.2.2.1 bt400.2.2.2.2).bind fun bt408 => ((impl_MulComplex.f bt405.2 bt386.2.1).bind fun t411 => (if fok .sub .f32 bt408.2.1.re t411.re = true then (if fok .sub .f32 bt408.2.1.im t411.im = true then ((impl_MulComplex.f bt405.2 bt386.2.2.1).bind fun t412 => (if fok .sub .f32 0 t412.re = true then (if fok .sub .f32 0 t412.im = true then ((impl_PhasesOf.f k (⟨fv .sub .f32 0 t407.re, fv .sub .f32 0 t407.im⟩ : Cx) (⟨fv .sub .f32 bt408.2.1.re t411.re, fv .sub .f32 bt408.2.1.im t411.im⟩ : Cx) (⟨fv .sub .f32 0 t412.re, fv .sub .f32 0 t412.im⟩ : Cx)).bind fun bt413 => (some (bt413.1, bt413.2.1, bt413.2.2, true))) else (none)) else (none))) else (none)) else (none)))) else (none)) else (none)))))) else (some ((⟨0, 0⟩ : Cx), (⟨0, 0⟩ : Cx), (⟨0, 0⟩ : Cx), false))))
def impl_FaultVoltages.f (k : Nat) (a0_0 : Cx) (a0_1 : Cx) (a0_2 : Cx) (l0_3 : List (S66)) (a1 : Int) (a2 : Int) (a3 : Cx) (a4 : Int) : Option (Cx × Cx × Cx × Bool) := (impl_Feeder_has.f k a0_0 a0_1 a0_2 l0_3 a1).bind fun bt378 => (if bt378.1 = true then ((impl_Feeder_has.f k bt378.2.1 bt378.2.2.1 bt378.2.2.2 l0_3 a4).bind fun bt382 => (impl_FaultVoltages.j0 k a1 a2 a3 a4 (!bt382.1) bt382.2.1 bt382.2.2.1 bt382.2.2.2 l0_3)) else (impl_FaultVoltages.j0 k a1 a2 a3 a4 true bt378.2.1 bt378.2.2.1 bt378.2.2.2 l0_3))
theorem impl_FaultVoltages.mono_l : ∀ k, (∀ y0 y1 y2 y3 y4 y5 y6 y7 y8, LeO (impl_FaultVoltages.j0 k y0 y1 y2 y3 y4 y5 y6 y7 y8) (impl_FaultVoltages.j0 (k + 1) y0 y1 y2 y3 y4 y5 y6 y7 y8))
 | 0 => fun _ _ _ _ _ _ _ _ _ r h => by simp [impl_FaultVoltages.j0] at h
 | k + 1 => by
  have ih0 := impl_FaultVoltages.mono_l k
  ·intro y0 y1 y2 y3 y4 y5 y6 y7 y8
   unfold impl_FaultVoltages.j0
   repeat' first
   | (with_reducible exact ih0 _ _ _ _ _ _ _ _ _)
   | (with_reducible exact impl_Feeder_common.mono _ _ _ _ _ _ _)
   | (with_reducible exact impl_Feeder_fault.mono _ _ _ _ _ _ _ _)
   | (with_reducible exact impl_Feeder_has.mono _ _ _ _ _ _)
   | (with_reducible exact impl_Feeder_impedance.mono _ _ _ _ _ _)
   | (with_reducible exact impl_PartsOf.mono _ _ _ _)
   | (with_reducible exact impl_PhasesOf.mono _ _ _ _)
   | (with_reducible exact LeO.refl _)
   | (with_reducible exact LeO.none _)
   | (with_reducible refine LeO.ite ?_ ?_)
   | (with_reducible refine LeO.bind ?_ (fun _ => ?_))
   | exact ih0 _ _ _ _ _ _ _ _ _
   | exact impl_Feeder_common.mono _ _ _ _ _ _ _
   | exact impl_Feeder_fault.mono _ _ _ _ _ _ _ _
   | exact impl_Feeder_has.mono _ _ _ _ _ _
   | exact impl_Feeder_impedance.mono _ _ _ _ _ _
   | exact impl_PartsOf.mono _ _ _ _
   | exact impl_PhasesOf.mono _ _ _ _
   | exact LeO.none _
   | refine LeO.ite ?_ ?_
   | refine LeO.bind ?_ (fun _ => ?_)
theorem impl_FaultVoltages.mono : ∀ a0 a1 a2 a3 a4 a5 a6 a7 k, LeO (impl_FaultVoltages.f k a0 a1 a2 a3 a4 a5 a6 a7) (impl_FaultVoltages.f (k + 1) a0 a1 a2 a3 a4 a5 a6 a7) := by
 intro a0 a1 a2 a3 a4 a5 a6 a7 k
 have ih0 := impl_FaultVoltages.mono_l k
 unfold impl_FaultVoltages.f
 repeat' first
   | (with_reducible exact ih0 _ _ _ _ _ _ _ _ _)
   | (with_reducible exact impl_Feeder_common.mono _ _ _ _ _ _ _)
   | (with_reducible exact impl_Feeder_fault.mono _ _ _ _ _ _ _ _)
   | (with_reducible exact impl_Feeder_has.mono _ _ _ _ _ _)
   | (with_reducible exact impl_Feeder_impedance.mono _ _ _ _ _ _)
   | (with_reducible exact impl_PartsOf.mono _ _ _ _)
   | (with_reducible exact impl_PhasesOf.mono _ _ _ _)
   | (with_reducible exact LeO.refl _)
   | (with_reducible exact LeO.none _)
   | (with_reducible refine LeO.ite ?_ ?_)
   | (with_reducible refine LeO.bind ?_ (fun _ => ?_))
   | exact ih0 _ _ _ _ _ _ _ _ _
   | exact impl_Feeder_common.mono _ _ _ _ _ _ _
   | exact impl_Feeder_fault.mono _ _ _ _ _ _ _ _
   | exact impl_Feeder_has.mono _ _ _ _ _ _
   | exact impl_Feeder_impedance.mono _ _ _ _ _ _
   | exact impl_PartsOf.mono _ _ _ _
   | exact impl_PhasesOf.mono _ _ _ _
   | exact LeO.none _
   | refine LeO.ite ?_ ?_
   | refine LeO.bind ?_ (fun _ => ?_)
def impl_FaultVoltages.T7 : Bool × List (List Nat × List Nat) := (true, [([], []), ([], []), ([1], [1]), ([0, 2], [0, 2]), ([3], [3]), ([], []), ([5], [5]), ([6, 3], [6]), ([7], [7]), ([], []), ([], []), ([10], [10]), ([9, 11, 7], [9, 11]), ([8, 12], [8, 12]), ([], []), ([], []), ([15], [15]), ([14, 16, 12], [14, 16]), ([17], [17]), ([4, 13, 18], [4, 13, 18]), ([19, 17], [19]), ([20, 20, 0, 1, 2, 3, 4, 5, 6, 7, 8, 9, 10, 11, 12, 13, 14, 15, 16, 17, 18, 19, 20], [20]), ([21, 0, 1, 2, 3, 4, 5, 6, 7, 8, 9, 10, 11, 12, 13, 14, 15, 16, 17, 18, 19, 20, 21], [])])
def impl_FaultVoltages.B7 : List Nat := [0, 0, 2, 7, 15, 0, 32, 111, 239, 0, 0, 1024, 3823, 8175, 0, 0, 32768, 122607, 253679, 524287, 1048575, 2097151, 4194303]
theorem impl_FaultVoltages.tab7 : rtab .any (opsOf Try.f43 7) = impl_FaultVoltages.T7 := by kernel_rfl
theorem impl_FaultVoltages.bits7 : waitsOk impl_FaultVoltages.T7.2 impl_FaultVoltages.B7 = true := by kernel_rfl
set_option maxHeartbeats 8000000 in
set_option maxRecDepth 100000 in
theorem impl_FaultVoltages.calls (k : Nat) (a0_0 : Cx) (a0_1 : Cx) (a0_2 : Cx) (A0_3 : Option Addr) (c0_3 : Nat) (l0_3 : List (S66)) (a1 : Int) (a2 : Int) (a3 : Cx) (a4 : Int) (r1 : Cx) (r2 : Cx) (r3 : Cx) (r4 : Bool) (w : World) (hr0_3 : Kd.C k66 w A0_3 l0_3.length l0_3) (hc0_3 : l0_3.length ≤ c0_3) (h : impl_FaultVoltages.f k a0_0 a0_1 a0_2 l0_3 a1 a2 a3 a4 = some (r1, r2, r3, r4)) :
  Calls Try.prog 43 #[.agg #[.complex .f32 a0_0.re a0_0.im, .complex .f32 a0_1.re a0_1.im, .complex .f32 a0_2.re a0_2.im, .slice A0_3 l0_3.length c0_3], .int .i64 a1, .int .i64 a2, .complex .f32 a3.re a3.im, .int .i64 a4] w fun e w' => e = .returned (.tuple #[.agg #[.complex .f32 r1.re r1.im, .complex .f32 r2.re r2.im, .complex .f32 r3.re r3.im], .bool r4]) ∧ Below w.heap.size w w' := by
 have hu42 := Try.underlying42
 have hu39 := Try.underlying39
 have hu80 := Try.underlying80
 have hfd80_1 : ∀ (x0_ x1_ x2_ : Value) (W : World), (Instr.field 80 (.agg #[x0_, x1_, x2_]) 1).run Try.prog W = .ok (x1_) W := by as_aux_lemma => (intros; rfl)
 have HR0_3 := Aside0.mk hr0_3
 have HC0_3 := Aside0.mk hc0_3
 clear hr0_3 hc0_3
 have HB := Aside0.mk (Below.refl w.heap.size w)
 have H : ((impl_Feeder_has.f k a0_0 a0_1 a0_2 l0_3 a1).bind fun bt378 => (if bt378.1 = true then ((impl_Feeder_has.f k bt378.2.1 bt378.2.2.1 bt378.2.2.2 l0_3 a4).bind fun bt382 => (impl_FaultVoltages.j0 k a1 a2 a3 a4 (!bt382.1) bt382.2.1 bt382.2.2.1 bt382.2.2.2 l0_3)) else (impl_FaultVoltages.j0 k a1 a2 a3 a4 true bt378.2.1 bt378.2.2.1 bt378.2.2.2 l0_3))) = some (r1, r2, r3, r4) := h
 clear h
 have HC6 := Aside0.mk H
 clear H
 go_enter Try.func43, Try.ntmps43
 go_upto_region 1 with (first | ((with_reducible refine gate_dst (N := 5) rfl ?_); refine box_event ?hg (N := 5) ?hd (cs := #[.complex .f32 a0_0.re a0_0.im, .complex .f32 a0_1.re a0_1.im, .complex .f32 a0_2.re a0_2.im, .slice A0_3 l0_3.length c0_3]) (t := 42) ?hr ?_; (case hd => rfl); (case hg => rfl); (case hr => first | (go_simp; done) | (go_simp; rfl)); intro gb376 hg w7 hbox hb; have n0_ := Aside0.mk (below_step tb hb); have n1_ := Aside0.mk (hbox); have n2_ := Aside0.mk ((by rw [hg]; exact (below_size tb) : w.heap.size ≤ gb376)); have n3_ := Aside0.mk ((by rw [hg]; exact (below_size tb) : w.heap.size ≤ gb376)); clear HB; have HB := n0_; have BK376 := n1_; have GW376 := n2_; have GE376 := n3_; clear n0_ n1_ n2_ n3_; clear hb hbox hg; have HI376 := Aside0.mk (show IsS42 w _ gb376 a0_0 a0_1 a0_2 l0_3 from ⟨_, _, BK376.out, (by first | exact GE376.out | exact GW376.out), HR0_3.out, HC0_3.out⟩)) | ((with_reducible refine gate_dst (N := 10) rfl ?_); refine box_event ?hg (N := 10) ?hd (cs := #[.complex .f32 0 0, .complex .f32 0 0, .complex .f32 0 0]) (t := 39) ?hr ?_; (case hd => rfl); (case hg => rfl); (case hr => first | (go_simp; done) | (go_simp; rfl)); intro gb377 hg w8 hbox hb; have n0_ := Aside0.mk (IsS42.below (by have hi_ := HI376.out; exact IsS42.up) hb); have n1_ := Aside0.mk (below_step (by have ge_ := IsS42.ge HI376.out; exact tb) hb); have n2_ := Aside0.mk (hbox); have n3_ := Aside0.mk ((by rw [hg]; exact (below_size (by have ge_ := IsS42.ge HI376.out; exact tb)) : w.heap.size ≤ gb377)); have n4_ := Aside0.mk ((by rw [hg]; exact (below_size (by have ge_ := IsS42.ge HI376.out; exact tb)) : w.heap.size ≤ gb377)); have n5_ := Aside0.mk ((by rw [hg]; exact Nat.ne_of_lt (IsS42.lt (show IsS42 w _ gb376 a0_0 a0_1 a0_2 l0_3 from by have hi_ := HI376.out; exact IsS42.up)) : gb376 ≠ gb377)); have n6_ := Aside0.mk ((by rw [hg]; exact Nat.ne_of_gt (IsS42.lt (show IsS42 w _ gb376 a0_0 a0_1 a0_2 l0_3 from by have hi_ := HI376.out; exact IsS42.up)) : gb377 ≠ gb376)); clear HI376; clear HB; have HI376 := n0_; have HB := n1_; have BK377 := n2_; have GW377 := n3_; have GE377 := n4_; have NB376_377 := n5_; have NB377_376 := n6_; clear n0_ n1_ n2_ n3_ n4_ n5_ n6_; clear hb hbox hg))
 try refine pt_ ?_
 go_cut [23] (fun v23 wc => ∃ (kq : Nat) (x23_5 : Bool) (x377000_5 : Cx) (x377001_5 : Cx) (x377002_5 : Cx), v23 = .bool x23_5 ∧ Aside0 (impl_FaultVoltages.j0 kq a1 a2 a3 a4 x23_5 x377000_5 x377001_5 x377002_5 l0_3 = some (r1, r2, r3, r4)) ∧ Aside0 (kq ≤ k) ∧ Aside0 (wc.heap[gb377]? = some (.cells #[.complex .f32 0 0, .complex .f32 0 0, .complex .f32 0 0] 39 (0, 0))) ∧ Aside0 (IsS42 w wc gb376 x377000_5 x377001_5 x377002_5 l0_3) ∧ Aside0 (Below w.heap.size w wc))
 case first =>
  have H := HC6.out
  clear HC6
  replace H := Option.bind_eq_some_iff.mp H
  obtain ⟨⟨t378, t379, t380, t381⟩, A90, H⟩ := H
  try dsimp only at H
  have A9 := Aside0.mk A90
  clear A90
  by_cases c10 : t378 = true
  ·subst c10
   rw [if_pos rfl] at H; try dsimp only at H
   replace H := Option.bind_eq_some_iff.mp H
   obtain ⟨⟨t382, t383, t384, t385⟩, A110, H⟩ := H
   try dsimp only at H
   have A11 := Aside0.mk A110
   clear A110
   have H' := Aside0.mk H
   clear H
   go_wp2_with (first | ((with_reducible refine gate_callee (f := 90) rfl ?_); refine gx_ (some 17) Try.func90 #[.pointer (some ⟨gb376, 0, none⟩), .int .i64 a1] ?_; (with_reducible refine (impl_Feeder_has.calls k gb376 a0_0 a0_1 a0_2 l0_3 a1 true t379 t380 t381 w _ ?side1 ?side2 A9.out).mono ?_); (case side1 => have hi_ := HI376.out; exact IsS42.up); (case side2 => have ge_ := IsS42.ge HI376.out; exact tb); rintro e w12 ⟨rfl, hi, hb, hk⟩; refine ⟨_, rfl, ?_⟩; have n0_ := Aside0.mk (KeepBut.blk hk (g' := gb377) (o := .cells #[.complex .f32 0 0, .complex .f32 0 0, .complex .f32 0 0] 39 (0, 0)) (bu BK377.out) NB377_376.out (by simp)); have n1_ := Aside0.mk (hb); have n2_ := Aside0.mk (hi); clear BK377; clear HB; clear HI376; have BK377 := n0_; have HB := n1_; have HI376 := n2_; clear n0_ n1_ n2_; (try clear hb); (try clear hb2); (try clear hk); (try clear hi)) | (go_at_call 90; (with_reducible refine (impl_Feeder_has.calls k gb376 t379 t380 t381 l0_3 a4 t382 t383 t384 t385 w _ ?side1 ?side2 A11.out).mono ?_); (case side1 => have hi_ := HI376.out; exact IsS42.up); (case side2 => have ge_ := IsS42.ge HI376.out; exact tb); rintro e w13 ⟨rfl, hi, hb, hk⟩; have n0_ := Aside0.mk (KeepBut.blk hk (g' := gb377) (o := .cells #[.complex .f32 0 0, .complex .f32 0 0, .complex .f32 0 0] 39 (0, 0)) (bu BK377.out) NB377_376.out (by simp)); have n1_ := Aside0.mk (hb); have n2_ := Aside0.mk (hi); clear BK377; clear HB; clear HI376; have BK377 := n0_; have HB := n1_; have HI376 := n2_; clear n0_ n1_ n2_; (try clear hb); (try clear hb2); (try clear hk); (try clear hi)))
   go_meet
   case rel => exact ⟨_, (!t382), (t383), (t384), (t385), rs_, H', ⟨by exact om_⟩, ⟨by refine bu ?_; exact BK377.out⟩, ⟨by have hi_ := HI376.out; exact IsS42.up⟩, ⟨by have ge_ := IsS42.ge HI376.out; exact tb⟩⟩
  ·replace c10 := Bool.eq_false_iff.mpr c10
   subst c10
   have H1 : (impl_FaultVoltages.j0 k a1 a2 a3 a4 true t379 t380 t381 l0_3) = some (r1, r2, r3, r4) := by rw [if_neg (show ¬ (false = true) by decide)] at H; exact H
   clear H
   have H := H1
   clear H1
   have H' := Aside0.mk H
   clear H
   go_wp2_with (first | ((with_reducible refine gate_callee (f := 90) rfl ?_); refine gx_ (some 17) Try.func90 #[.pointer (some ⟨gb376, 0, none⟩), .int .i64 a1] ?_; (with_reducible refine (impl_Feeder_has.calls k gb376 a0_0 a0_1 a0_2 l0_3 a1 false t379 t380 t381 w _ ?side1 ?side2 A9.out).mono ?_); (case side1 => have hi_ := HI376.out; exact IsS42.up); (case side2 => have ge_ := IsS42.ge HI376.out; exact tb); rintro e w14 ⟨rfl, hi, hb, hk⟩; refine ⟨_, rfl, ?_⟩; have n0_ := Aside0.mk (KeepBut.blk hk (g' := gb377) (o := .cells #[.complex .f32 0 0, .complex .f32 0 0, .complex .f32 0 0] 39 (0, 0)) (bu BK377.out) NB377_376.out (by simp)); have n1_ := Aside0.mk (hb); have n2_ := Aside0.mk (hi); clear BK377; clear HB; clear HI376; have BK377 := n0_; have HB := n1_; have HI376 := n2_; clear n0_ n1_ n2_; (try clear hb); (try clear hb2); (try clear hk); (try clear hi)))
   go_meet
   case rel => exact ⟨_, (true), (t379), (t380), (t381), rs_, H', ⟨by exact om_⟩, ⟨by refine bu ?_; exact BK377.out⟩, ⟨by have hi_ := HI376.out; exact IsS42.up⟩, ⟨by have ge_ := IsS42.ge HI376.out; exact tb⟩⟩
 case rest =>
  clear HC6
  try clear c1
  try clear p2
  try clear c4
  try clear c9
  try clear c10
  obtain ⟨kq, x23_5, x377000_5, x377001_5, x377002_5, rfl, HA, HJ5, BK377, HI376, HB⟩ := hcut
  cases kq with
  | zero => exact absurd HA.out (by simp [impl_FaultVoltages.j0])
  | succ kj5 =>
   have H := HA.out
   clear HA
   simp only [impl_FaultVoltages.j0] at H
   by_cases c15 : x23_5 = true
   ·subst c15
    rw [if_pos rfl] at H; try dsimp only at H
    simp only [Option.some.injEq, Prod.mk.injEq] at H
    obtain ⟨rfl, rfl, rfl, rfl⟩ := H
    have hnb16 := NB377_376.out
    have hnc16 := NB376_377.out
    have hcz17_0 : wc.cell? ⟨gb377, 0, none⟩ = some (.complex .f32 0 0) := (blk_cell BK377.out 0).trans rfl
    have hcz17_1 : wc.cell? ⟨gb377, 1, none⟩ = some (.complex .f32 0 0) := (blk_cell BK377.out 1).trans rfl
    have hcz17_2 : wc.cell? ⟨gb377, 2, none⟩ = some (.complex .f32 0 0) := (blk_cell BK377.out 2).trans rfl
    have hfz17_0 := blk_frozen BK377.out 0
    have hfz17_1 := blk_frozen BK377.out 1
    have hfz17_2 := blk_frozen BK377.out 2
    go_wp2
    refine bodyPost_ret (results_ct rfl _ _ gb377 39 #[.complex .f32 0 0, .complex .f32 0 0, .complex .f32 0 0] (0, 0) _ rfl (by refine bu ?_; refine blk_put (cs := #[.complex .f32 0 0, .complex .f32 0 0, .complex .f32 0 0]) ?_ 2 _ rfl; refine bu ?_; refine blk_put (cs := #[.complex .f32 0 0, .complex .f32 0 0, .complex .f32 0 0]) ?_ 1 _ rfl; refine bu ?_; refine blk_put (cs := #[.complex .f32 0 0, .complex .f32 0 0, .complex .f32 0 0]) ?_ 0 _ rfl; refine bu ?_; exact BK377.out) Try.underlying39 rfl (by kernel_rfl)) rfl ?_
    exact ⟨re_, by have ge_ := IsS42.ge HI376.out; exact tb⟩
   ·replace c15 := Bool.eq_false_iff.mpr c15
    subst c15
    have H1 : ((impl_Feeder_fault.f kj5 x377000_5 x377001_5 x377002_5 l0_3 a1 a2 a3).bind fun bt386 => (if bt386.2.2.2.1 = true then ((impl_Feeder_common.f kj5 bt386.2.2.2.2.1 bt386.2.2.2.2.2.1 bt386.2.2.2.2.2.2 l0_3 a1 a4).bind fun bt394 => ((impl_Feeder_impedance.f kj5 bt394.2.1 bt394.2.2.1 bt394.2.2.2 l0_3 bt394.1).bind fun bt400 => ((impl_SequenceOf.f bt400.1 bt400.2.1).bind fun bt405 => ((impl_MulComplex.f bt405.1 bt386.1).bind fun t407 => (if fok .sub .f32 0 t407.re = true then (if fok .sub .f32 0 t407.im = true then ((impl_PartsOf.f kj5 bt400.2.2.1 bt400.2.2.2.1 bt400.2.2.2.2).bind fun bt408 => ((impl_MulComplex.f bt405.2 bt386.2.1).bind fun t411 => (if fok .sub .f32 bt408.2.1.re t411.re = true then (if fok .sub .f32 bt408.2.1.im t411.im = true then ((impl_MulComplex.f bt405.2 bt386.2.2.1).bind fun t412 => (if fok .sub .f32 0 t412.re = true then (if fok .sub .f32 0 t412.im = true then ((impl_PhasesOf.f kj5 (⟨fv .sub .f32 0 t407.re, fv .sub .f32 0 t407.im⟩ : Cx) (⟨fv .sub .f32 bt408.2.1.re t411.re, fv .sub .f32 bt408.2.1.im t411.im⟩ : Cx) (⟨fv .sub .f32 0 t412.re, fv .sub .f32 0 t412.im⟩ : Cx)).bind fun bt413 => (some (bt413.1, bt413.2.1, bt413.2.2, true))) else (none)) else (none))) else (none)) else (none)))) else (none)) else (none)))))) else (some ((⟨0, 0⟩ : Cx), (⟨0, 0⟩ : Cx), (⟨0, 0⟩ : Cx), false)))) = some (r1, r2, r3, r4) := by rw [if_neg (show ¬ (false = true) by decide)] at H; exact H
    clear H
    have H := H1
    clear H1
    replace H := Option.bind_eq_some_iff.mp H
    obtain ⟨⟨t386, t387, t388, t389, t390, t391, t392⟩, A180, H⟩ := H
    try dsimp only at H
    have A18 := Aside0.mk A180
    clear A180
    by_cases c19 : t389 = true
    ·subst c19
     rw [if_pos rfl] at H; try dsimp only at H
     replace H := Option.bind_eq_some_iff.mp H
     obtain ⟨⟨t394, t397, t398, t399⟩, A200, H⟩ := H
     try dsimp only at H
     have A20 := Aside0.mk A200
     clear A200
     replace H := Option.bind_eq_some_iff.mp H
     obtain ⟨⟨t400, t401, t402, t403, t404⟩, A210, H⟩ := H
     try dsimp only at H
     have A21 := Aside0.mk A210
     clear A210
     replace H := Option.bind_eq_some_iff.mp H
     obtain ⟨⟨t405, t406⟩, A220, H⟩ := H
     try dsimp only at H
     have A22 := Aside0.mk A220
     clear A220
     replace H := Option.bind_eq_some_iff.mp H
     obtain ⟨t407, A230, H⟩ := H
     try dsimp only at H
     have A23 := Aside0.mk A230
     clear A230
     by_cases c24 : fok .sub .f32 0 t407.re = true
     ·rw [if_pos c24] at H
      have c24b0 := eq_true c24
      have c24b1 : decide (fok .sub .f32 0 t407.re = true) = true := decide_eq_true c24
      clear c24
      by_cases c25 : fok .sub .f32 0 t407.im = true
      ·rw [if_pos c25] at H
       have c25b0 := eq_true c25
       have c25b1 : decide (fok .sub .f32 0 t407.im = true) = true := decide_eq_true c25
       clear c25
       replace H := Option.bind_eq_some_iff.mp H
       obtain ⟨⟨t408, t409, t410⟩, A260, H⟩ := H
       try dsimp only at H
       have A26 := Aside0.mk A260
       clear A260
       replace H := Option.bind_eq_some_iff.mp H
       obtain ⟨t411, A270, H⟩ := H
       try dsimp only at H
       have A27 := Aside0.mk A270
       clear A270
       by_cases c28 : fok .sub .f32 t409.re t411.re = true
       ·rw [if_pos c28] at H
        have c28b0 := eq_true c28
        have c28b1 : decide (fok .sub .f32 t409.re t411.re = true) = true := decide_eq_true c28
        clear c28
        by_cases c29 : fok .sub .f32 t409.im t411.im = true
        ·rw [if_pos c29] at H
         have c29b0 := eq_true c29
         have c29b1 : decide (fok .sub .f32 t409.im t411.im = true) = true := decide_eq_true c29
         clear c29
         replace H := Option.bind_eq_some_iff.mp H
         obtain ⟨t412, A300, H⟩ := H
         try dsimp only at H
         have A30 := Aside0.mk A300
         clear A300
         by_cases c31 : fok .sub .f32 0 t412.re = true
         ·rw [if_pos c31] at H
          have c31b0 := eq_true c31
          have c31b1 : decide (fok .sub .f32 0 t412.re = true) = true := decide_eq_true c31
          clear c31
          by_cases c32 : fok .sub .f32 0 t412.im = true
          ·rw [if_pos c32] at H
           have c32b0 := eq_true c32
           have c32b1 : decide (fok .sub .f32 0 t412.im = true) = true := decide_eq_true c32
           clear c32
           replace H := Option.bind_eq_some_iff.mp H
           obtain ⟨⟨t413, t414, t415⟩, A330, H⟩ := H
           try dsimp only at H
           have A33 := Aside0.mk A330
           clear A330
           simp only [Option.some.injEq, Prod.mk.injEq] at H
           obtain ⟨rfl, rfl, rfl, rfl⟩ := H
           try go_wp2_with (first | ((with_reducible refine gate_callee (f := 102) rfl ?_); refine gx_ (some 29) Try.func102 #[.pointer (some ⟨gb376, 0, none⟩), .int .i64 a1, .int .i64 a2, .complex .f32 a3.re a3.im] ?_; (with_reducible refine (impl_Feeder_fault.calls kj5 gb376 x377000_5 x377001_5 x377002_5 l0_3 a1 a2 a3 t386 t387 t388 true t390 t391 t392 w _ ?side1 ?side2 A18.out).mono ?_); (case side1 => have hi_ := HI376.out; exact IsS42.up); (case side2 => have ge_ := IsS42.ge HI376.out; exact tb); rintro e w34 ⟨rfl, hi, hb, hk⟩; refine ⟨_, rfl, ?_⟩; have n0_ := Aside0.mk (KeepBut.blk hk (g' := gb377) (o := .cells #[.complex .f32 0 0, .complex .f32 0 0, .complex .f32 0 0] 39 (0, 0)) (bu BK377.out) NB377_376.out (by simp)); have n1_ := Aside0.mk (hb); have n2_ := Aside0.mk (hi); clear BK377; clear HB; clear HI376; have BK377 := n0_; have HB := n1_; have HI376 := n2_; clear n0_ n1_ n2_; (try clear hb); (try clear hb2); (try clear hk); (try clear hi)) | ((with_reducible refine gate_dst (N := 12) rfl ?_); refine box_event ?hg (N := 12) ?hd (cs := #[.complex .f32 0 0, .complex .f32 0 0, .complex .f32 0 0]) (t := 80) ?hr ?_; (case hd => rfl); (case hg => rfl); (case hr => first | (go_simp; done) | (go_simp; rfl)); intro gb393 hg w35 hbox hb; have n0_ := Aside0.mk (blk_below (g := gb377) (o := .cells #[.complex .f32 0 0, .complex .f32 0 0, .complex .f32 0 0] 39 (0, 0)) (bu BK377.out) hb); have n1_ := Aside0.mk (IsS42.below (by have hi_ := HI376.out; exact IsS42.up) hb); have n2_ := Aside0.mk (below_step (by have ge_ := IsS42.ge HI376.out; exact tb) hb); have n3_ := Aside0.mk (hbox); have n4_ := Aside0.mk ((by rw [hg]; exact (below_size (by have ge_ := IsS42.ge HI376.out; exact tb)) : w.heap.size ≤ gb393)); have n5_ := Aside0.mk ((by rw [hg]; exact (below_size (by have ge_ := IsS42.ge HI376.out; exact tb)) : w.heap.size ≤ gb393)); have n6_ := Aside0.mk ((by rw [hg]; exact Nat.ne_of_lt (blk_lt (g := gb377) (o := .cells #[.complex .f32 0 0, .complex .f32 0 0, .complex .f32 0 0] 39 (0, 0)) (bu BK377.out)) : gb377 ≠ gb393)); have n7_ := Aside0.mk ((by rw [hg]; exact Nat.ne_of_gt (blk_lt (g := gb377) (o := .cells #[.complex .f32 0 0, .complex .f32 0 0, .complex .f32 0 0] 39 (0, 0)) (bu BK377.out)) : gb393 ≠ gb377)); have n8_ := Aside0.mk ((by rw [hg]; exact Nat.ne_of_lt (IsS42.lt (show IsS42 w _ gb376 t390 t391 t392 l0_3 from by have hi_ := HI376.out; exact IsS42.up)) : gb376 ≠ gb393)); have n9_ := Aside0.mk ((by rw [hg]; exact Nat.ne_of_gt (IsS42.lt (show IsS42 w _ gb376 t390 t391 t392 l0_3 from by have hi_ := HI376.out; exact IsS42.up)) : gb393 ≠ gb376)); clear BK377; clear HI376; clear HB; have BK377 := n0_; have HI376 := n1_; have HB := n2_; have BK393 := n3_; have GW393 := n4_; have GE393 := n5_; have NB377_393 := n6_; have NB393_377 := n7_; have NB376_393 := n8_; have NB393_376 := n9_; clear n0_ n1_ n2_ n3_ n4_ n5_ n6_ n7_ n8_ n9_; clear hb hbox hg; have hnb36 := NB393_377.out; have hnc36 := NB377_393.out; have hnb37 := NB393_376.out; have hnc37 := NB376_393.out; have hcz38_0 : w35.cell? ⟨gb393, 0, none⟩ = some (.complex .f32 0 0) := (blk_cell BK393.out 0).trans rfl; have hcz38_1 : w35.cell? ⟨gb393, 1, none⟩ = some (.complex .f32 0 0) := (blk_cell BK393.out 1).trans rfl; have hcz38_2 : w35.cell? ⟨gb393, 2, none⟩ = some (.complex .f32 0 0) := (blk_cell BK393.out 2).trans rfl; have hfz38_0 := blk_frozen BK393.out 0; have hfz38_1 := blk_frozen BK393.out 1; have hfz38_2 := blk_frozen BK393.out 2) | ((with_reducible refine gate_callee (f := 100) rfl ?_); refine gx_ (some 38) Try.func100 #[.pointer (some ⟨gb376, 0, none⟩), .int .i64 a1, .int .i64 a4] ?_; (with_reducible refine (impl_Feeder_common.calls kj5 gb376 t390 t391 t392 l0_3 a1 a4 t394 t397 t398 t399 w _ ?side1 ?side2 A20.out).mono ?_); (case side1 => have hi_ := HI376.out; exact IsS42.up); (case side2 => have ge_ := IsS42.ge HI376.out; exact tb); rintro e w39 ⟨v395, rfl, ho0, hi, hb, hk⟩; refine ⟨_, rfl, ?_⟩; have n0_ := Aside0.mk (KeepBut.blk hk (g' := gb377) (o := .cells #[.complex .f32 0 0, .complex .f32 0 0, .complex .f32 0 0] 39 (0, 0)) (bv BK377.out) NB377_376.out (by simp)); have n1_ := Aside0.mk (KeepBut.blk hk (g' := gb393) (o := .cells #[.complex .f32 t386.re t386.im, .complex .f32 t387.re t387.im, .complex .f32 t388.re t388.im] 80 (0, 0)) (by refine bu ?_; refine blk_put (cs := #[.complex .f32 t386.re t386.im, .complex .f32 t387.re t387.im, .complex .f32 0 0]) ?_ 2 _ rfl; refine bu ?_; refine blk_put (cs := #[.complex .f32 t386.re t386.im, .complex .f32 0 0, .complex .f32 0 0]) ?_ 1 _ rfl; refine bu ?_; refine blk_put (cs := #[.complex .f32 0 0, .complex .f32 0 0, .complex .f32 0 0]) ?_ 0 _ rfl; refine bu ?_; exact BK393.out) NB393_376.out (by simp)); have n2_ := Aside0.mk (Kd.R_lower ho0 (below_size (by have ge_ := IsS42.ge HI376.out; exact tb))); have n3_ := Aside0.mk (hb); have n4_ := Aside0.mk (hi); clear BK377; clear BK393; clear HB; clear HI376; have BK377 := n0_; have BK393 := n1_; have HO396 := n2_; have HB := n3_; have HI376 := n4_; clear n0_ n1_ n2_ n3_ n4_; (try clear hb); (try clear hb2); (try clear hk); (try clear hi); (try clear ho0); obtain ⟨Ao40, co40, eo40⟩ := Kd.R_slice HO396.out; subst eo40) | ((with_reducible refine gate_callee (f := 103) rfl ?_); refine gx_ (some 39) Try.func103 #[.pointer (some ⟨gb376, 0, none⟩), .slice Ao40 t394.length co40] ?_; (with_reducible refine (impl_Feeder_impedance.calls kj5 gb376 t397 t398 t399 l0_3 _ _ t394 t400 t401 t402 t403 t404 w _ ?side1 ?side2 ?side3 ?side4 ?side5 A21.out).mono ?_); (case side1 => have hi_ := HI376.out; exact IsS42.up); (case side2 => have ge_ := IsS42.ge HI376.out; exact tb); (case side3 => exact cu ((Kd.R_reads' HO396.out).2.2)); (case side4 => exact (Kd.R_reads' HO396.out).2.1); (case side5 => exact far_slice (IsS42.own_ne HI376.out HO396.out (by decide))); rintro e w41 ⟨rfl, hi, hb, hk⟩; refine ⟨_, rfl, ?_⟩; have n0_ := Aside0.mk (KeepBut.blk hk (g' := gb377) (o := .cells #[.complex .f32 0 0, .complex .f32 0 0, .complex .f32 0 0] 39 (0, 0)) (bu BK377.out) NB377_376.out (by simp)); have n1_ := Aside0.mk (KeepBut.blk hk (g' := gb393) (o := .cells #[.complex .f32 t386.re t386.im, .complex .f32 t387.re t387.im, .complex .f32 t388.re t388.im] 80 (0, 0)) (bu BK393.out) NB393_376.out (by simp)); have n2_ := Aside0.mk (Kd.R_mono (Kd.R_keep (IsS42.apart (show IsS42 w _ gb376 t397 t398 t399 l0_3 from by have hi_ := HI376.out; exact IsS42.up) (ru HO396.out) (by decide)) hk (fun _ h => h.2)) (fun _ h => h.1)); have n3_ := Aside0.mk (hb); have n4_ := Aside0.mk (hi); clear BK377; clear BK393; clear HO396; clear HB; clear HI376; have BK377 := n0_; have BK393 := n1_; have HO396 := n2_; have HB := n3_; have HI376 := n4_; clear n0_ n1_ n2_ n3_ n4_; (try clear hb); (try clear hb2); (try clear hk); (try clear hi)) | ((with_reducible refine gate_callee (f := 47) rfl ?_); refine gx_ (some 42) Try.func47 #[.complex .f32 t400.re t400.im, .complex .f32 t401.re t401.im] ?_; (with_reducible refine (impl_SequenceOf.calls t400 t401 t405 t406 _ A22.out).mono ?_); rintro e w' ⟨rfl, ⟨nd, rfl⟩⟩; refine ⟨_, rfl, ?_⟩; (try (rw [drewN_self w41]; generalize hq_ : World.drewN w41 _ = w41; have n0_ : Aside0 (Kd.R (Kd.int .i64) 2 w41 w.heap.size (fun _ => True) (.slice Ao40 t394.length co40) t394) := ⟨by rw [← hq_]; exact (ru HO396.out)⟩; have n1_ : Aside0 (w41.heap[gb377]? = some (.cells #[.complex .f32 0 0, .complex .f32 0 0, .complex .f32 0 0] 39 (0, 0))) := ⟨by rw [← hq_]; exact (bu BK377.out)⟩; have n2_ : Aside0 (w41.heap[gb393]? = some (.cells #[.complex .f32 t386.re t386.im, .complex .f32 t387.re t387.im, .complex .f32 t388.re t388.im] 80 (0, 0))) := ⟨by rw [← hq_]; exact (bu BK393.out)⟩; have n3_ : Aside0 (IsS42 w w41 gb376 t402 t403 t404 l0_3) := ⟨by rw [← hq_]; exact (by have hi_ := HI376.out; exact IsS42.up)⟩; have n4_ : Aside0 (Below w.heap.size w w41) := ⟨by rw [← hq_]; exact (by have ge_ := IsS42.ge HI376.out; exact tb)⟩; clear HO396 BK377 BK393 HI376 HB hq_; have HO396 := n0_; have BK377 := n1_; have BK393 := n2_; have HI376 := n3_; have HB := n4_; clear n0_ n1_ n2_ n3_ n4_))))
           have n0_ := Aside0.mk (Kd.R_drew HO396.out)
           have n1_ := Aside0.mk (blk_drew BK377.out)
           have n2_ := Aside0.mk (blk_drew BK393.out)
           have n3_ := Aside0.mk (IsS42.drew HI376.out)
           have n4_ := Aside0.mk (below_drew1 HB.out)
           clear HO396
           clear BK377
           clear BK393
           clear HI376
           clear HB
           have HO396 := n0_
           have BK377 := n1_
           have BK393 := n2_
           have HI376 := n3_
           have HB := n4_
           clear n0_ n1_ n2_ n3_ n4_
           refine start_ (n := 23) (S := fun w' => w'.cell? ⟨gb393, 0, none⟩ = some (.complex .f32 t386.re t386.im) ∧ w'.cell? ⟨gb393, 1, none⟩ = some (.complex .f32 t387.re t387.im) ∧ w'.cell? ⟨gb393, 2, none⟩ = some (.complex .f32 t388.re t388.im) ∧ w'.cell? ⟨gb376, 0, none⟩ = some (.complex .f32 t402.re t402.im) ∧ w'.cell? ⟨gb376, 1, none⟩ = some (.complex .f32 t403.re t403.im) ∧ w'.cell? ⟨gb376, 2, none⟩ = some (.complex .f32 t404.re t404.im)) (ds := []) #[false, false, false, false, false, false, false, false, false, false, false, false, false, false, false, false, false, false, false, false, false, false, false] (by kernel_rfl) rfl rfl ⟨(blk_cell BK393.out 0).trans rfl, (blk_cell BK393.out 1).trans rfl, (blk_cell BK393.out 2).trans rfl, (IsS42.cell_0 HI376.out), (IsS42.cell_1 HI376.out), (IsS42.cell_2 HI376.out)⟩ (fun hHeld => ?_); refine with_tabW impl_FaultVoltages.tab7 impl_FaultVoltages.bits7 (fun HT_ HW_ => ?_)
           generalize w41.drew = w42 at HO396 BK377 BK393 HI376 HB hHeld ⊢
           refine pure_ (i := 0) (N := some 45) (v := ?_) (a' := ?_) #[true, false, false, false, false, false, false, false, false, false, false, false, false, false, false, false, false, false, false, false, false, false, false] rfl rfl (any_of HT_.out (by kernel_rfl)) (fun _ _ _ h => h) (Or.inl ⟨by rfl, ?_⟩) ?_ ?_
           rotate_left
           ·intro w'
            go_simp
            with_reducible rfl
           rotate_left
           ·refine ps_ ?_
            rfl
           refine pure_ (i := 1) (N := some 46) (v := ?_) (a' := ?_) #[true, true, false, false, false, false, false, false, false, false, false, false, false, false, false, false, false, false, false, false, false, false, false] rfl rfl (any_of HT_.out (by kernel_rfl)) (fun _ _ _ h => h) (Or.inl ⟨by rfl, ?_⟩) ?_ ?_
           rotate_left
           ·intro w'
            go_simp
            with_reducible rfl
           rotate_left
           ·refine ps_ ?_
            rfl
           refine pure_ (i := 5) (N := some 50) (v := ?_) (a' := ?_) #[true, true, false, false, false, true, false, false, false, false, false, false, false, false, false, false, false, false, false, false, false, false, false] rfl rfl (any_of HT_.out (by kernel_rfl)) (fun _ _ _ h => h) (Or.inl ⟨by rfl, ?_⟩) ?_ ?_
           rotate_left
           ·intro w'
            go_simp
            with_reducible rfl
           rotate_left
           ·refine ps_ ?_
            rfl
           refine pure_ (i := 9) (N := some 54) (v := ?_) (a' := ?_) #[true, true, false, false, false, true, false, false, false, true, false, false, false, false, false, false, false, false, false, false, false, false, false] rfl rfl (any_of HT_.out (by kernel_rfl)) (fun _ _ _ h => h) (Or.inl ⟨by rfl, ?_⟩) ?_ ?_
           rotate_left
           ·intro w'
            go_simp
            with_reducible rfl
           rotate_left
           ·refine ps_ ?_
            rfl
           refine pure_ (i := 10) (N := some 55) (v := ?_) (a' := ?_) #[true, true, false, false, false, true, false, false, false, true, true, false, false, false, false, false, false, false, false, false, false, false, false] rfl rfl (any_of HT_.out (by kernel_rfl)) (fun _ _ _ h => h) (Or.inl ⟨by rfl, ?_⟩) ?_ ?_
           rotate_left
           ·intro w'
            go_simp
            with_reducible rfl
           rotate_left
           ·refine ps_ ?_
            rfl
           refine pure_ (i := 14) (N := some 59) (v := ?_) (a' := ?_) #[true, true, false, false, false, true, false, false, false, true, true, false, false, false, true, false, false, false, false, false, false, false, false] rfl rfl (any_of HT_.out (by kernel_rfl)) (fun _ _ _ h => h) (Or.inl ⟨by rfl, ?_⟩) ?_ ?_
           rotate_left
           ·intro w'
            go_simp
            with_reducible rfl
           rotate_left
           ·refine ps_ ?_
            rfl
           refine pure_ (i := 15) (N := some 60) (v := ?_) (a' := ?_) #[true, true, false, false, false, true, false, false, false, true, true, false, false, false, true, true, false, false, false, false, false, false, false] rfl rfl (any_of HT_.out (by kernel_rfl)) (fun _ _ _ h => h) (Or.inl ⟨by rfl, ?_⟩) ?_ ?_
           rotate_left
           ·intro w'
            go_simp
            with_reducible rfl
           rotate_left
           ·refine ps_ ?_
            rfl
           refine take_ (i := 2) (N := some 47) (v := ?_) (a' := ?_) #[true, true, true, false, false, true, false, false, false, true, true, false, false, false, true, true, false, false, false, false, false, false, false] rfl rfl (take_ofW HT_.out HW_.out (by kernel_rfl)) (fun _ _ _ h => h) (Or.inl ⟨by rfl, ?_⟩) hHeld ?_ ?_
           rotate_left
           ·rintro w' ⟨s0, s1, s2, s3, s4, s5⟩
            go_simp
            with_reducible rfl
           rotate_left
           ·refine ps_ ?_
            rfl
           refine take_ (i := 6) (N := some 51) (v := ?_) (a' := ?_) #[true, true, true, false, false, true, true, false, false, true, true, false, false, false, true, true, false, false, false, false, false, false, false] rfl rfl (take_ofW HT_.out HW_.out (by kernel_rfl)) (fun _ _ _ h => h) (Or.inl ⟨by rfl, ?_⟩) hHeld ?_ ?_
           rotate_left
           ·rintro w' ⟨s0, s1, s2, s3, s4, s5⟩
            go_simp
            with_reducible rfl
           rotate_left
           ·refine ps_ ?_
            rfl
           refine take_ (i := 11) (N := some 56) (v := ?_) (a' := ?_) #[true, true, true, false, false, true, true, false, false, true, true, true, false, false, true, true, false, false, false, false, false, false, false] rfl rfl (take_ofW HT_.out HW_.out (by kernel_rfl)) (fun _ _ _ h => h) (Or.inl ⟨by rfl, ?_⟩) hHeld ?_ ?_
           rotate_left
           ·rintro w' ⟨s0, s1, s2, s3, s4, s5⟩
            go_simp
            with_reducible rfl
           rotate_left
           ·refine ps_ ?_
            rfl
           refine take_ (i := 16) (N := some 61) (v := ?_) (a' := ?_) #[true, true, true, false, false, true, true, false, false, true, true, true, false, false, true, true, true, false, false, false, false, false, false] rfl rfl (take_ofW HT_.out HW_.out (by kernel_rfl)) (fun _ _ _ h => h) (Or.inl ⟨by rfl, ?_⟩) hHeld ?_ ?_
           rotate_left
           ·rintro w' ⟨s0, s1, s2, s3, s4, s5⟩
            go_simp
            with_reducible rfl
           rotate_left
           ·refine ps_ ?_
            rfl
           refine one_ (i := 3) (N := some 48) #[true, true, true, true, false, true, true, false, false, true, true, true, false, false, true, true, true, false, false, false, false, false, false] rfl rfl (one_of HT_.out (by kernel_rfl)) (by decide) (fun K hK => ?_)
           refine goes_ Try.func71 (by kernel_rfl) rfl #[.complex .f32 t405.re t405.im, .complex .f32 t386.re t386.im] (by rfl) rfl rfl mp_ ?_
           with_reducible refine (impl_MulComplex.calls t405 t386 t407 _ A23.out).mono ?_
           rintro e w43 ⟨rfl, hb⟩
           refine ⟨_, rfl, ?_⟩
           have n0_ := Aside0.mk (Kd.R_below (ru HO396.out) hb)
           have n1_ := Aside0.mk (blk_below (g := gb377) (o := .cells #[.complex .f32 0 0, .complex .f32 0 0, .complex .f32 0 0] 39 (0, 0)) (bu BK377.out) hb)
           have n2_ := Aside0.mk (IsS42.below (by have hi_ := HI376.out; exact IsS42.up) hb)
           have n3_ := Aside0.mk (blk_below (g := gb393) (o := .cells #[.complex .f32 t386.re t386.im, .complex .f32 t387.re t387.im, .complex .f32 t388.re t388.im] 80 (0, 0)) (bu BK393.out) hb)
           have n4_ := Aside0.mk (below_step (by have ge_ := IsS42.ge HI376.out; exact tb) hb)
           clear HO396
           clear BK377
           clear HI376
           clear BK393
           clear HB
           have HO396 := n0_
           have BK377 := n1_
           have HI376 := n2_
           have BK393 := n3_
           have HB := n4_
           clear n0_ n1_ n2_ n3_ n4_
           (try clear hb)
           (try clear hb2)
           (try clear hk)
           (try clear hi)
           refine hK.out _ _ ⟨(blk_cell BK393.out 0).trans rfl, (blk_cell BK393.out 1).trans rfl, (blk_cell BK393.out 2).trans rfl, (IsS42.cell_0 HI376.out), (IsS42.cell_1 HI376.out), (IsS42.cell_2 HI376.out)⟩ (fun hHeld => ?_)
           clear hK K
           refine norm_ (a' := ?_) ?_ ?_
           rotate_left
           ·show Act.put _ (some 48) _ = _
            refine ps_ ?_
            rfl
           refine pure_ (i := 4) (N := some 49) (v := ?_) (a' := ?_) #[true, true, true, true, true, true, true, false, false, true, true, true, false, false, true, true, true, false, false, false, false, false, false] rfl rfl (any_of HT_.out (by kernel_rfl)) (fun _ _ _ h => h) (Or.inl ⟨by rfl, ?_⟩) ?_ ?_
           rotate_left
           ·intro w'
            go_simp
            with_reducible rfl
           rotate_left
           ·refine ps_ ?_
            rfl
           refine one_ (i := 7) (N := some 52) #[true, true, true, true, true, true, true, true, false, true, true, true, false, false, true, true, true, false, false, false, false, false, false] rfl rfl (one_of HT_.out (by kernel_rfl)) (by decide) (fun K hK => ?_)
           refine goes_ Try.func45 (by kernel_rfl) rfl #[.agg #[.complex .f32 t402.re t402.im, .complex .f32 t403.re t403.im, .complex .f32 t404.re t404.im]] (by rfl) rfl rfl mp_ ?_
           with_reducible refine (impl_PartsOf.calls kj5 t402 t403 t404 t408 t409 t410 _ A26.out).mono ?_
           rintro e w44 ⟨rfl, hb⟩
           refine ⟨_, rfl, ?_⟩
           have n0_ := Aside0.mk (Kd.R_below (ru HO396.out) hb)
           have n1_ := Aside0.mk (blk_below (g := gb377) (o := .cells #[.complex .f32 0 0, .complex .f32 0 0, .complex .f32 0 0] 39 (0, 0)) (bu BK377.out) hb)
           have n2_ := Aside0.mk (IsS42.below (by have hi_ := HI376.out; exact IsS42.up) hb)
           have n3_ := Aside0.mk (blk_below (g := gb393) (o := .cells #[.complex .f32 t386.re t386.im, .complex .f32 t387.re t387.im, .complex .f32 t388.re t388.im] 80 (0, 0)) (bu BK393.out) hb)
           have n4_ := Aside0.mk (below_step (by have ge_ := IsS42.ge HI376.out; exact tb) hb)
           clear HO396
           clear BK377
           clear HI376
           clear BK393
           clear HB
           have HO396 := n0_
           have BK377 := n1_
           have HI376 := n2_
           have BK393 := n3_
           have HB := n4_
           clear n0_ n1_ n2_ n3_ n4_
           (try clear hb)
           (try clear hb2)
           (try clear hk)
           (try clear hi)
           refine hK.out _ _ ⟨(blk_cell BK393.out 0).trans rfl, (blk_cell BK393.out 1).trans rfl, (blk_cell BK393.out 2).trans rfl, (IsS42.cell_0 HI376.out), (IsS42.cell_1 HI376.out), (IsS42.cell_2 HI376.out)⟩ (fun hHeld => ?_)
           clear hK K
           refine norm_ (a' := ?_) ?_ ?_
           rotate_left
           ·show Act.put _ (some 52) _ = _
            refine ps_ ?_
            rfl
           refine pure_ (i := 8) (N := some 53) (v := ?_) (a' := ?_) #[true, true, true, true, true, true, true, true, true, true, true, true, false, false, true, true, true, false, false, false, false, false, false] rfl rfl (any_of HT_.out (by kernel_rfl)) (fun _ _ _ h => h) (Or.inl ⟨by rfl, ?_⟩) ?_ ?_
           rotate_left
           ·intro w'
            go_simp
            with_reducible rfl
           rotate_left
           ·refine ps_ ?_
            rfl
           refine one_ (i := 12) (N := some 57) #[true, true, true, true, true, true, true, true, true, true, true, true, true, false, true, true, true, false, false, false, false, false, false] rfl rfl (one_of HT_.out (by kernel_rfl)) (by decide) (fun K hK => ?_)
           refine goes_ Try.func71 (by kernel_rfl) rfl #[.complex .f32 t406.re t406.im, .complex .f32 t387.re t387.im] (by rfl) rfl rfl mp_ ?_
           with_reducible refine (impl_MulComplex.calls t406 t387 t411 _ A27.out).mono ?_
           rintro e w45 ⟨rfl, hb⟩
           refine ⟨_, rfl, ?_⟩
           have n0_ := Aside0.mk (Kd.R_below (ru HO396.out) hb)
           have n1_ := Aside0.mk (blk_below (g := gb377) (o := .cells #[.complex .f32 0 0, .complex .f32 0 0, .complex .f32 0 0] 39 (0, 0)) (bu BK377.out) hb)
           have n2_ := Aside0.mk (IsS42.below (by have hi_ := HI376.out; exact IsS42.up) hb)
           have n3_ := Aside0.mk (blk_below (g := gb393) (o := .cells #[.complex .f32 t386.re t386.im, .complex .f32 t387.re t387.im, .complex .f32 t388.re t388.im] 80 (0, 0)) (bu BK393.out) hb)
           have n4_ := Aside0.mk (below_step (by have ge_ := IsS42.ge HI376.out; exact tb) hb)
           clear HO396
           clear BK377
           clear HI376
           clear BK393
           clear HB
           have HO396 := n0_
           have BK377 := n1_
           have HI376 := n2_
           have BK393 := n3_
           have HB := n4_
           clear n0_ n1_ n2_ n3_ n4_
           (try clear hb)
           (try clear hb2)
           (try clear hk)
           (try clear hi)
           refine hK.out _ _ ⟨(blk_cell BK393.out 0).trans rfl, (blk_cell BK393.out 1).trans rfl, (blk_cell BK393.out 2).trans rfl, (IsS42.cell_0 HI376.out), (IsS42.cell_1 HI376.out), (IsS42.cell_2 HI376.out)⟩ (fun hHeld => ?_)
           clear hK K
           refine norm_ (a' := ?_) ?_ ?_
           rotate_left
           ·show Act.put _ (some 57) _ = _
            refine ps_ ?_
            rfl
           refine pure_ (i := 13) (N := some 58) (v := ?_) (a' := ?_) #[true, true, true, true, true, true, true, true, true, true, true, true, true, true, true, true, true, false, false, false, false, false, false] rfl rfl (any_of HT_.out (by kernel_rfl)) (fun _ _ _ h => h) (Or.inl ⟨by rfl, ?_⟩) ?_ ?_
           rotate_left
           ·intro w'
            go_simp
            with_reducible rfl
           rotate_left
           ·refine ps_ ?_
            rfl
           refine one_ (i := 17) (N := some 62) #[true, true, true, true, true, true, true, true, true, true, true, true, true, true, true, true, true, true, false, false, false, false, false] rfl rfl (one_of HT_.out (by kernel_rfl)) (by decide) (fun K hK => ?_)
           refine goes_ Try.func71 (by kernel_rfl) rfl #[.complex .f32 t406.re t406.im, .complex .f32 t388.re t388.im] (by rfl) rfl rfl mp_ ?_
           with_reducible refine (impl_MulComplex.calls t406 t388 t412 _ A30.out).mono ?_
           rintro e w46 ⟨rfl, hb⟩
           refine ⟨_, rfl, ?_⟩
           have n0_ := Aside0.mk (Kd.R_below (ru HO396.out) hb)
           have n1_ := Aside0.mk (blk_below (g := gb377) (o := .cells #[.complex .f32 0 0, .complex .f32 0 0, .complex .f32 0 0] 39 (0, 0)) (bu BK377.out) hb)
           have n2_ := Aside0.mk (IsS42.below (by have hi_ := HI376.out; exact IsS42.up) hb)
           have n3_ := Aside0.mk (blk_below (g := gb393) (o := .cells #[.complex .f32 t386.re t386.im, .complex .f32 t387.re t387.im, .complex .f32 t388.re t388.im] 80 (0, 0)) (bu BK393.out) hb)
           have n4_ := Aside0.mk (below_step (by have ge_ := IsS42.ge HI376.out; exact tb) hb)
           clear HO396
           clear BK377
           clear HI376
           clear BK393
           clear HB
           have HO396 := n0_
           have BK377 := n1_
           have HI376 := n2_
           have BK393 := n3_
           have HB := n4_
           clear n0_ n1_ n2_ n3_ n4_
           (try clear hb)
           (try clear hb2)
           (try clear hk)
           (try clear hi)
           refine hK.out _ _ ⟨(blk_cell BK393.out 0).trans rfl, (blk_cell BK393.out 1).trans rfl, (blk_cell BK393.out 2).trans rfl, (IsS42.cell_0 HI376.out), (IsS42.cell_1 HI376.out), (IsS42.cell_2 HI376.out)⟩ (fun hHeld => ?_)
           clear hK K
           refine norm_ (a' := ?_) ?_ ?_
           rotate_left
           ·show Act.put _ (some 62) _ = _
            refine ps_ ?_
            rfl
           refine pure_ (i := 18) (N := some 63) (v := ?_) (a' := ?_) #[true, true, true, true, true, true, true, true, true, true, true, true, true, true, true, true, true, true, true, false, false, false, false] rfl rfl (any_of HT_.out (by kernel_rfl)) (fun _ _ _ h => h) (Or.inl ⟨by rfl, ?_⟩) ?_ ?_
           rotate_left
           ·intro w'
            go_simp
            with_reducible rfl
           rotate_left
           ·refine ps_ ?_
            rfl
           refine pure_ (i := 19) (N := some 64) (v := ?_) (a' := ?_) #[true, true, true, true, true, true, true, true, true, true, true, true, true, true, true, true, true, true, true, true, false, false, false] rfl rfl (any_of HT_.out (by kernel_rfl)) (fun _ _ _ h => h) (Or.inl ⟨by rfl, ?_⟩) ?_ ?_
           rotate_left
           ·intro w'
            go_simp
            with_reducible rfl
           rotate_left
           ·refine ps_ ?_
            rfl
           refine one_ (i := 20) (N := some 65) #[true, true, true, true, true, true, true, true, true, true, true, true, true, true, true, true, true, true, true, true, true, false, false] rfl rfl (one_of HT_.out (by kernel_rfl)) (by decide) (fun K hK => ?_)
           refine goes_ Try.func44 (by kernel_rfl) rfl #[.agg #[.complex .f32 (fv .sub .f32 0 t407.re) (fv .sub .f32 0 t407.im), .complex .f32 (fv .sub .f32 t409.re t411.re) (fv .sub .f32 t409.im t411.im), .complex .f32 (fv .sub .f32 0 t412.re) (fv .sub .f32 0 t412.im)]] (by rfl) rfl rfl mp_ ?_
           with_reducible refine (impl_PhasesOf.calls kj5 (⟨fv .sub .f32 0 t407.re, fv .sub .f32 0 t407.im⟩ : Cx) (⟨fv .sub .f32 t409.re t411.re, fv .sub .f32 t409.im t411.im⟩ : Cx) (⟨fv .sub .f32 0 t412.re, fv .sub .f32 0 t412.im⟩ : Cx) t413 t414 t415 _ A33.out).mono ?_
           rintro e w47 ⟨rfl, hb⟩
           refine ⟨_, rfl, ?_⟩
           have n0_ := Aside0.mk (Kd.R_below (ru HO396.out) hb)
           have n1_ := Aside0.mk (blk_below (g := gb377) (o := .cells #[.complex .f32 0 0, .complex .f32 0 0, .complex .f32 0 0] 39 (0, 0)) (bu BK377.out) hb)
           have n2_ := Aside0.mk (IsS42.below (by have hi_ := HI376.out; exact IsS42.up) hb)
           have n3_ := Aside0.mk (blk_below (g := gb393) (o := .cells #[.complex .f32 t386.re t386.im, .complex .f32 t387.re t387.im, .complex .f32 t388.re t388.im] 80 (0, 0)) (bu BK393.out) hb)
           have n4_ := Aside0.mk (below_step (by have ge_ := IsS42.ge HI376.out; exact tb) hb)
           clear HO396
           clear BK377
           clear HI376
           clear BK393
           clear HB
           have HO396 := n0_
           have BK377 := n1_
           have HI376 := n2_
           have BK393 := n3_
           have HB := n4_
           clear n0_ n1_ n2_ n3_ n4_
           (try clear hb)
           (try clear hb2)
           (try clear hk)
           (try clear hi)
           refine hK.out _ _ ⟨(blk_cell BK393.out 0).trans rfl, (blk_cell BK393.out 1).trans rfl, (blk_cell BK393.out 2).trans rfl, (IsS42.cell_0 HI376.out), (IsS42.cell_1 HI376.out), (IsS42.cell_2 HI376.out)⟩ (fun hHeld => ?_)
           clear hK K
           refine norm_ (a' := ?_) ?_ ?_
           rotate_left
           ·show Act.put _ (some 65) _ = _
            refine ps_ ?_
            rfl
           refine one_ (i := 21) (N := none) #[true, true, true, true, true, true, true, true, true, true, true, true, true, true, true, true, true, true, true, true, true, true, false] rfl rfl (one_of HT_.out (by kernel_rfl)) (by decide) (fun K hK => ?_)
           have hs48 : w47.cell? ⟨gb377, 0, none⟩ = some (.complex .f32 0 0) := (blk_cell BK377.out 0).trans rfl
           have hfs48 := blk_frozen BK377.out 0
           have hns48_1 := NB393_377.out
           have hms48_1 := NB377_393.out
           have hs49 : w47.cell? ⟨gb377, 1, none⟩ = some (.complex .f32 0 0) := (blk_cell BK377.out 1).trans rfl
           have hfs49 := blk_frozen BK377.out 1
           have hns49_1 := NB393_377.out
           have hms49_1 := NB377_393.out
           have hs50 : w47.cell? ⟨gb377, 2, none⟩ = some (.complex .f32 0 0) := (blk_cell BK377.out 2).trans rfl
           have hfs50 := blk_frozen BK377.out 2
           have hns50_1 := NB393_377.out
           have hms50_1 := NB377_393.out
           refine skip_ (w1 := ?_) (by rfl) rfl ?_ ?_
           rotate_left
           ·go_simp
            rfl
           refine hK.out _ _ ⟨((cell_far (p := ⟨gb377, _, none⟩) NB393_377.out _).trans (((cell_far (p := ⟨gb377, _, none⟩) NB393_377.out _).trans (((cell_far (p := ⟨gb377, _, none⟩) NB393_377.out _).trans (hHeld.1)))))), ((cell_far (p := ⟨gb377, _, none⟩) NB393_377.out _).trans (((cell_far (p := ⟨gb377, _, none⟩) NB393_377.out _).trans (((cell_far (p := ⟨gb377, _, none⟩) NB393_377.out _).trans (hHeld.2.1)))))), ((cell_far (p := ⟨gb377, _, none⟩) NB393_377.out _).trans (((cell_far (p := ⟨gb377, _, none⟩) NB393_377.out _).trans (((cell_far (p := ⟨gb377, _, none⟩) NB393_377.out _).trans (hHeld.2.2.1)))))), ((cell_far (p := ⟨gb377, _, none⟩) NB376_377.out _).trans (((cell_far (p := ⟨gb377, _, none⟩) NB376_377.out _).trans (((cell_far (p := ⟨gb377, _, none⟩) NB376_377.out _).trans (hHeld.2.2.2.1)))))), ((cell_far (p := ⟨gb377, _, none⟩) NB376_377.out _).trans (((cell_far (p := ⟨gb377, _, none⟩) NB376_377.out _).trans (((cell_far (p := ⟨gb377, _, none⟩) NB376_377.out _).trans (hHeld.2.2.2.2.1)))))), ((cell_far (p := ⟨gb377, _, none⟩) NB376_377.out _).trans (((cell_far (p := ⟨gb377, _, none⟩) NB376_377.out _).trans (((cell_far (p := ⟨gb377, _, none⟩) NB376_377.out _).trans (hHeld.2.2.2.2.2))))))⟩ (fun hHeld => ?_)
           clear hK K
           refine pure_ (i := 22) (N := some 11) (v := ?_) (a' := ?_) #[true, true, true, true, true, true, true, true, true, true, true, true, true, true, true, true, true, true, true, true, true, true, true] rfl rfl (any_of HT_.out (by kernel_rfl)) (fun _ _ _ h => h) (Or.inl ⟨by rfl, ?_⟩) ?_ ?_
           rotate_left
           ·intro w'
            go_simp
            with_reducible rfl
           rotate_left
           ·refine ps_ ?_
            rfl
           refine done_ (done_of HT_.out (by kernel_rfl)) ?_
           try go_wp2
           refine bodyPost_ret (results_ct rfl _ _ gb377 39 #[.complex .f32 t413.re t413.im, .complex .f32 t414.re t414.im, .complex .f32 t415.re t415.im] (0, 0) _ rfl (by refine bu ?_; refine blk_put (cs := #[.complex .f32 t413.re t413.im, .complex .f32 t414.re t414.im, .complex .f32 0 0]) ?_ 2 _ rfl; refine bu ?_; refine blk_put (cs := #[.complex .f32 t413.re t413.im, .complex .f32 0 0, .complex .f32 0 0]) ?_ 1 _ rfl; refine bu ?_; refine blk_put (cs := #[.complex .f32 0 0, .complex .f32 0 0, .complex .f32 0 0]) ?_ 0 _ rfl; refine bu ?_; exact BK377.out) Try.underlying39 rfl (by kernel_rfl)) rfl ?_
           exact ⟨re_, by have ge_ := IsS42.ge HI376.out; exact tb⟩
          ·rw [if_neg c32] at H
           exact absurd H (by simp)
         ·rw [if_neg c31] at H
          exact absurd H (by simp)
        ·rw [if_neg c29] at H
         exact absurd H (by simp)
       ·rw [if_neg c28] at H
        exact absurd H (by simp)
      ·rw [if_neg c25] at H
       exact absurd H (by simp)
     ·rw [if_neg c24] at H
      exact absurd H (by simp)
    ·replace c19 := Bool.eq_false_iff.mpr c19
     subst c19
     have H1 : (some ((⟨0, 0⟩ : Cx), (⟨0, 0⟩ : Cx), (⟨0, 0⟩ : Cx), false)) = some (r1, r2, r3, r4) := by rw [if_neg (show ¬ (false = true) by decide)] at H; exact H
     clear H
     have H := H1
     clear H1
     simp only [Option.some.injEq, Prod.mk.injEq] at H
     obtain ⟨rfl, rfl, rfl, rfl⟩ := H
     go_wp2_with (first | ((with_reducible refine gate_callee (f := 102) rfl ?_); refine gx_ (some 29) Try.func102 #[.pointer (some ⟨gb376, 0, none⟩), .int .i64 a1, .int .i64 a2, .complex .f32 a3.re a3.im] ?_; (with_reducible refine (impl_Feeder_fault.calls kj5 gb376 x377000_5 x377001_5 x377002_5 l0_3 a1 a2 a3 t386 t387 t388 false t390 t391 t392 w _ ?side1 ?side2 A18.out).mono ?_); (case side1 => have hi_ := HI376.out; exact IsS42.up); (case side2 => have ge_ := IsS42.ge HI376.out; exact tb); rintro e w51 ⟨rfl, hi, hb, hk⟩; refine ⟨_, rfl, ?_⟩; have n0_ := Aside0.mk (KeepBut.blk hk (g' := gb377) (o := .cells #[.complex .f32 0 0, .complex .f32 0 0, .complex .f32 0 0] 39 (0, 0)) (bu BK377.out) NB377_376.out (by simp)); have n1_ := Aside0.mk (hb); have n2_ := Aside0.mk (hi); clear BK377; clear HB; clear HI376; have BK377 := n0_; have HB := n1_; have HI376 := n2_; clear n0_ n1_ n2_; (try clear hb); (try clear hb2); (try clear hk); (try clear hi)) | ((with_reducible refine gate_dst (N := 12) rfl ?_); refine box_event ?hg (N := 12) ?hd (cs := #[.complex .f32 0 0, .complex .f32 0 0, .complex .f32 0 0]) (t := 80) ?hr ?_; (case hd => rfl); (case hg => rfl); (case hr => first | (go_simp; done) | (go_simp; rfl)); intro gb393 hg w52 hbox hb; have n0_ := Aside0.mk (blk_below (g := gb377) (o := .cells #[.complex .f32 0 0, .complex .f32 0 0, .complex .f32 0 0] 39 (0, 0)) (bu BK377.out) hb); have n1_ := Aside0.mk (IsS42.below (by have hi_ := HI376.out; exact IsS42.up) hb); have n2_ := Aside0.mk (below_step (by have ge_ := IsS42.ge HI376.out; exact tb) hb); have n3_ := Aside0.mk (hbox); have n4_ := Aside0.mk ((by rw [hg]; exact (below_size (by have ge_ := IsS42.ge HI376.out; exact tb)) : w.heap.size ≤ gb393)); have n5_ := Aside0.mk ((by rw [hg]; exact (below_size (by have ge_ := IsS42.ge HI376.out; exact tb)) : w.heap.size ≤ gb393)); have n6_ := Aside0.mk ((by rw [hg]; exact Nat.ne_of_lt (blk_lt (g := gb377) (o := .cells #[.complex .f32 0 0, .complex .f32 0 0, .complex .f32 0 0] 39 (0, 0)) (bu BK377.out)) : gb377 ≠ gb393)); have n7_ := Aside0.mk ((by rw [hg]; exact Nat.ne_of_gt (blk_lt (g := gb377) (o := .cells #[.complex .f32 0 0, .complex .f32 0 0, .complex .f32 0 0] 39 (0, 0)) (bu BK377.out)) : gb393 ≠ gb377)); have n8_ := Aside0.mk ((by rw [hg]; exact Nat.ne_of_lt (IsS42.lt (show IsS42 w _ gb376 t390 t391 t392 l0_3 from by have hi_ := HI376.out; exact IsS42.up)) : gb376 ≠ gb393)); have n9_ := Aside0.mk ((by rw [hg]; exact Nat.ne_of_gt (IsS42.lt (show IsS42 w _ gb376 t390 t391 t392 l0_3 from by have hi_ := HI376.out; exact IsS42.up)) : gb393 ≠ gb376)); clear BK377; clear HI376; clear HB; have BK377 := n0_; have HI376 := n1_; have HB := n2_; have BK393 := n3_; have GW393 := n4_; have GE393 := n5_; have NB377_393 := n6_; have NB393_377 := n7_; have NB376_393 := n8_; have NB393_376 := n9_; clear n0_ n1_ n2_ n3_ n4_ n5_ n6_ n7_ n8_ n9_; clear hb hbox hg; have hnb53 := NB393_377.out; have hnc53 := NB377_393.out; have hnb54 := NB393_376.out; have hnc54 := NB376_393.out; have hcz55_0 : w52.cell? ⟨gb393, 0, none⟩ = some (.complex .f32 0 0) := (blk_cell BK393.out 0).trans rfl; have hcz55_1 : w52.cell? ⟨gb393, 1, none⟩ = some (.complex .f32 0 0) := (blk_cell BK393.out 1).trans rfl; have hcz55_2 : w52.cell? ⟨gb393, 2, none⟩ = some (.complex .f32 0 0) := (blk_cell BK393.out 2).trans rfl; have hfz55_0 := blk_frozen BK393.out 0; have hfz55_1 := blk_frozen BK393.out 1; have hfz55_2 := blk_frozen BK393.out 2; have hnb56 := NB377_376.out; have hnc56 := NB376_377.out; have hcz57_0 : w52.cell? ⟨gb377, 0, none⟩ = some (.complex .f32 0 0) := (blk_cell BK377.out 0).trans rfl; have hcz57_1 : w52.cell? ⟨gb377, 1, none⟩ = some (.complex .f32 0 0) := (blk_cell BK377.out 1).trans rfl; have hcz57_2 : w52.cell? ⟨gb377, 2, none⟩ = some (.complex .f32 0 0) := (blk_cell BK377.out 2).trans rfl; have hfz57_0 := blk_frozen BK377.out 0; have hfz57_1 := blk_frozen BK377.out 1; have hfz57_2 := blk_frozen BK377.out 2))
     refine bodyPost_ret (results_ct rfl _ _ gb377 39 #[.complex .f32 0 0, .complex .f32 0 0, .complex .f32 0 0] (0, 0) _ rfl (by refine bu ?_; refine blk_put (cs := #[.complex .f32 0 0, .complex .f32 0 0, .complex .f32 0 0]) ?_ 2 _ rfl; refine bu ?_; refine blk_put (cs := #[.complex .f32 0 0, .complex .f32 0 0, .complex .f32 0 0]) ?_ 1 _ rfl; refine bu ?_; refine blk_put (cs := #[.complex .f32 0 0, .complex .f32 0 0, .complex .f32 0 0]) ?_ 0 _ rfl; refine bv ?_; exact BK377.out) Try.underlying39 rfl (by kernel_rfl)) rfl ?_
     exact ⟨re_, by have ge_ := IsS42.ge HI376.out; exact tb⟩

end Go.Proofs.Ytcgpomicgbmdlaa.PFnCommon
namespace Go.Proofs.Ytcgpomicgbmdlaa.PFnCommon
open Go.RowKit Go.Proofs.YtcgpomicgbmdlaaW.PrintWords Go.Proofs.YtcgpomicgbmdlaaW.PrintLast Go.Proofs.YtcgpomicgbmdlaaW.PrintMore
attribute [local go_sem] max2_int min2_int max_two min_two max_three min_three max_four min_four   -- for this text's walks alone
set_option linter.unusedVariables false
set_option linter.unusedSimpArgs false

/-! ### impl_PathImpedance: function 46 -/
def impl_PathImpedance.f (k : Nat) (a0_0 : Cx) (a0_1 : Cx) (a0_2 : Cx) (l0_3 : List (S66)) (a1 : Int) : Option (Cx × Cx × Bool) := (impl_Feeder_has.f k a0_0 a0_1 a0_2 l0_3 a1).bind fun bt417 => (if bt417.1 = true then ((impl_Feeder_path.f k bt417.2.1 bt417.2.2.1 bt417.2.2.2 l0_3 a1).bind fun bt421 => ((impl_Feeder_impedance.f k bt421.2.1 bt421.2.2.1 bt421.2.2.2 l0_3 bt421.1).bind fun bt427 => (some (bt427.1, bt427.2.1, true)))) else (some ((⟨0, 0⟩ : Cx), (⟨0, 0⟩ : Cx), false)))
theorem impl_PathImpedance.mono : ∀ a0 a1 a2 a3 a4 k, LeO (impl_PathImpedance.f k a0 a1 a2 a3 a4) (impl_PathImpedance.f (k + 1) a0 a1 a2 a3 a4) := by
 intro a0 a1 a2 a3 a4 k
 unfold impl_PathImpedance.f
 repeat' first
   | (with_reducible exact impl_Feeder_has.mono _ _ _ _ _ _)
   | (with_reducible exact impl_Feeder_impedance.mono _ _ _ _ _ _)
   | (with_reducible exact impl_Feeder_path.mono _ _ _ _ _ _)
   | (with_reducible exact LeO.refl _)
   | (with_reducible exact LeO.none _)
   | (with_reducible refine LeO.ite ?_ ?_)
   | (with_reducible refine LeO.bind ?_ (fun _ => ?_))
   | exact impl_Feeder_has.mono _ _ _ _ _ _
   | exact impl_Feeder_impedance.mono _ _ _ _ _ _
   | exact impl_Feeder_path.mono _ _ _ _ _ _
   | exact LeO.none _
   | refine LeO.ite ?_ ?_
   | refine LeO.bind ?_ (fun _ => ?_)
set_option maxHeartbeats 8000000 in
set_option maxRecDepth 100000 in
theorem impl_PathImpedance.calls (k : Nat) (a0_0 : Cx) (a0_1 : Cx) (a0_2 : Cx) (A0_3 : Option Addr) (c0_3 : Nat) (l0_3 : List (S66)) (a1 : Int) (r1 : Cx) (r2 : Cx) (r3 : Bool) (w : World) (hr0_3 : Kd.C k66 w A0_3 l0_3.length l0_3) (hc0_3 : l0_3.length ≤ c0_3) (h : impl_PathImpedance.f k a0_0 a0_1 a0_2 l0_3 a1 = some (r1, r2, r3)) :
  Calls Try.prog 46 #[.agg #[.complex .f32 a0_0.re a0_0.im, .complex .f32 a0_1.re a0_1.im, .complex .f32 a0_2.re a0_2.im, .slice A0_3 l0_3.length c0_3], .int .i64 a1] w fun e w' => e = .returned (.tuple #[.complex .f32 r1.re r1.im, .complex .f32 r2.re r2.im, .bool r3]) ∧ Below w.heap.size w w' := by
 have hu42 := Try.underlying42
 have HR0_3 := Aside0.mk hr0_3
 have HC0_3 := Aside0.mk hc0_3
 clear hr0_3 hc0_3
 have HB := Aside0.mk (Below.refl w.heap.size w)
 have H : ((impl_Feeder_has.f k a0_0 a0_1 a0_2 l0_3 a1).bind fun bt417 => (if bt417.1 = true then ((impl_Feeder_path.f k bt417.2.1 bt417.2.2.1 bt417.2.2.2 l0_3 a1).bind fun bt421 => ((impl_Feeder_impedance.f k bt421.2.1 bt421.2.2.1 bt421.2.2.2 l0_3 bt421.1).bind fun bt427 => (some (bt427.1, bt427.2.1, true)))) else (some ((⟨0, 0⟩ : Cx), (⟨0, 0⟩ : Cx), false)))) = some (r1, r2, r3) := h
 clear h
 replace H := Option.bind_eq_some_iff.mp H
 obtain ⟨⟨t417, t418, t419, t420⟩, A30, H⟩ := H
 try dsimp only at H
 have A3 := Aside0.mk A30
 clear A30
 by_cases c4 : t417 = true
 ·subst c4
  rw [if_pos rfl] at H; try dsimp only at H
  replace H := Option.bind_eq_some_iff.mp H
  obtain ⟨⟨t421, t424, t425, t426⟩, A50, H⟩ := H
  try dsimp only at H
  have A5 := Aside0.mk A50
  clear A50
  replace H := Option.bind_eq_some_iff.mp H
  obtain ⟨⟨t427, t428, t429, t430, t431⟩, A60, H⟩ := H
  try dsimp only at H
  have A6 := Aside0.mk A60
  clear A60
  simp only [Option.some.injEq, Prod.mk.injEq] at H
  obtain ⟨rfl, rfl, rfl⟩ := H
  go_enter Try.func46, Try.ntmps46
  go_wp2_with (first | ((with_reducible refine gate_dst (N := 2) rfl ?_); refine box_event ?hg (N := 2) ?hd (cs := #[.complex .f32 a0_0.re a0_0.im, .complex .f32 a0_1.re a0_1.im, .complex .f32 a0_2.re a0_2.im, .slice A0_3 l0_3.length c0_3]) (t := 42) ?hr ?_; (case hd => rfl); (case hg => rfl); (case hr => first | (go_simp; done) | (go_simp; rfl)); intro gb416 hg w7 hbox hb; have n0_ := Aside0.mk (below_step tb hb); have n1_ := Aside0.mk (hbox); have n2_ := Aside0.mk ((by rw [hg]; exact (below_size tb) : w.heap.size ≤ gb416)); have n3_ := Aside0.mk ((by rw [hg]; exact (below_size tb) : w.heap.size ≤ gb416)); clear HB; have HB := n0_; have BK416 := n1_; have GW416 := n2_; have GE416 := n3_; clear n0_ n1_ n2_ n3_; clear hb hbox hg; have HI416 := Aside0.mk (show IsS42 w _ gb416 a0_0 a0_1 a0_2 l0_3 from ⟨_, _, BK416.out, (by first | exact GE416.out | exact GW416.out), HR0_3.out, HC0_3.out⟩)) | ((with_reducible refine gate_callee (f := 90) rfl ?_); refine gx_ (some 10) Try.func90 #[.pointer (some ⟨gb416, 0, none⟩), .int .i64 a1] ?_; (with_reducible refine (impl_Feeder_has.calls k gb416 a0_0 a0_1 a0_2 l0_3 a1 true t418 t419 t420 w _ ?side1 ?side2 A3.out).mono ?_); (case side1 => have hi_ := HI416.out; exact IsS42.up); (case side2 => have ge_ := IsS42.ge HI416.out; exact tb); rintro e w8 ⟨rfl, hi, hb, hk⟩; refine ⟨_, rfl, ?_⟩; have n0_ := Aside0.mk (hb); have n1_ := Aside0.mk (hi); clear HB; clear HI416; have HB := n0_; have HI416 := n1_; clear n0_ n1_; (try clear hb); (try clear hb2); (try clear hk); (try clear hi)) | ((with_reducible refine gate_callee (f := 101) rfl ?_); refine gx_ (some 14) Try.func101 #[.pointer (some ⟨gb416, 0, none⟩), .int .i64 a1] ?_; (with_reducible refine (impl_Feeder_path.calls k gb416 t418 t419 t420 l0_3 a1 t421 t424 t425 t426 w _ ?side1 ?side2 A5.out).mono ?_); (case side1 => have hi_ := HI416.out; exact IsS42.up); (case side2 => have ge_ := IsS42.ge HI416.out; exact tb); rintro e w9 ⟨v422, rfl, ho0, hi, hb, hk⟩; refine ⟨_, rfl, ?_⟩; have n0_ := Aside0.mk (Kd.R_lower ho0 (below_size (by have ge_ := IsS42.ge HI416.out; exact tb))); have n1_ := Aside0.mk (hb); have n2_ := Aside0.mk (hi); clear HB; clear HI416; have HO423 := n0_; have HB := n1_; have HI416 := n2_; clear n0_ n1_ n2_; (try clear hb); (try clear hb2); (try clear hk); (try clear hi); (try clear ho0); obtain ⟨Ao10, co10, eo10⟩ := Kd.R_slice HO423.out; subst eo10) | ((with_reducible refine gate_callee (f := 103) rfl ?_); refine gx_ (some 15) Try.func103 #[.pointer (some ⟨gb416, 0, none⟩), .slice Ao10 t421.length co10] ?_; (with_reducible refine (impl_Feeder_impedance.calls k gb416 t424 t425 t426 l0_3 _ _ t421 t427 t428 t429 t430 t431 w _ ?side1 ?side2 ?side3 ?side4 ?side5 A6.out).mono ?_); (case side1 => have hi_ := HI416.out; exact IsS42.up); (case side2 => have ge_ := IsS42.ge HI416.out; exact tb); (case side3 => exact cu ((Kd.R_reads' HO423.out).2.2)); (case side4 => exact (Kd.R_reads' HO423.out).2.1); (case side5 => exact far_slice (IsS42.own_ne HI416.out HO423.out (by decide))); rintro e w11 ⟨rfl, hi, hb, hk⟩; refine ⟨_, rfl, ?_⟩; have n0_ := Aside0.mk (Kd.R_mono (Kd.R_keep (IsS42.apart (show IsS42 w _ gb416 t424 t425 t426 l0_3 from by have hi_ := HI416.out; exact IsS42.up) (ru HO423.out) (by decide)) hk (fun _ h => h.2)) (fun _ h => h.1)); have n1_ := Aside0.mk (hb); have n2_ := Aside0.mk (hi); clear HO423; clear HB; clear HI416; have HO423 := n0_; have HB := n1_; have HI416 := n2_; clear n0_ n1_ n2_; (try clear hb); (try clear hb2); (try clear hk); (try clear hi)))
  go_ret3
  exact ⟨re_, by have ge_ := IsS42.ge HI416.out; exact tb⟩
 ·replace c4 := Bool.eq_false_iff.mpr c4
  subst c4
  have H1 : (some ((⟨0, 0⟩ : Cx), (⟨0, 0⟩ : Cx), false)) = some (r1, r2, r3) := by rw [if_neg (show ¬ (false = true) by decide)] at H; exact H
  clear H
  have H := H1
  clear H1
  simp only [Option.some.injEq, Prod.mk.injEq] at H
  obtain ⟨rfl, rfl, rfl⟩ := H
  go_enter Try.func46, Try.ntmps46
  go_wp2_with (first | ((with_reducible refine gate_dst (N := 2) rfl ?_); refine box_event ?hg (N := 2) ?hd (cs := #[.complex .f32 a0_0.re a0_0.im, .complex .f32 a0_1.re a0_1.im, .complex .f32 a0_2.re a0_2.im, .slice A0_3 l0_3.length c0_3]) (t := 42) ?hr ?_; (case hd => rfl); (case hg => rfl); (case hr => first | (go_simp; done) | (go_simp; rfl)); intro gb416 hg w12 hbox hb; have n0_ := Aside0.mk (below_step tb hb); have n1_ := Aside0.mk (hbox); have n2_ := Aside0.mk ((by rw [hg]; exact (below_size tb) : w.heap.size ≤ gb416)); have n3_ := Aside0.mk ((by rw [hg]; exact (below_size tb) : w.heap.size ≤ gb416)); clear HB; have HB := n0_; have BK416 := n1_; have GW416 := n2_; have GE416 := n3_; clear n0_ n1_ n2_ n3_; clear hb hbox hg; have HI416 := Aside0.mk (show IsS42 w _ gb416 a0_0 a0_1 a0_2 l0_3 from ⟨_, _, BK416.out, (by first | exact GE416.out | exact GW416.out), HR0_3.out, HC0_3.out⟩)) | ((with_reducible refine gate_callee (f := 90) rfl ?_); refine gx_ (some 10) Try.func90 #[.pointer (some ⟨gb416, 0, none⟩), .int .i64 a1] ?_; (with_reducible refine (impl_Feeder_has.calls k gb416 a0_0 a0_1 a0_2 l0_3 a1 false t418 t419 t420 w _ ?side1 ?side2 A3.out).mono ?_); (case side1 => have hi_ := HI416.out; exact IsS42.up); (case side2 => have ge_ := IsS42.ge HI416.out; exact tb); rintro e w13 ⟨rfl, hi, hb, hk⟩; refine ⟨_, rfl, ?_⟩; have n0_ := Aside0.mk (hb); have n1_ := Aside0.mk (hi); clear HB; clear HI416; have HB := n0_; have HI416 := n1_; clear n0_ n1_; (try clear hb); (try clear hb2); (try clear hk); (try clear hi)))
  go_ret3
  exact ⟨re_, by have ge_ := IsS42.ge HI416.out; exact tb⟩

end Go.Proofs.Ytcgpomicgbmdlaa.PFnCommon
namespace Go.Proofs.Ytcgpomicgbmdlaa.PFnCommon
open Go.RowKit Go.Proofs.YtcgpomicgbmdlaaW.PrintWords Go.Proofs.YtcgpomicgbmdlaaW.PrintLast Go.Proofs.YtcgpomicgbmdlaaW.PrintMore
attribute [local go_sem] max2_int min2_int max_two min_two max_three min_three max_four min_four   -- for this text's walks alone
set_option linter.unusedVariables false
set_option linter.unusedSimpArgs false

/-! ### impl_FaultCurrents: function 49 -/
def impl_FaultCurrents.f (k : Nat) (a0_0 : Cx) (a0_1 : Cx) (a0_2 : Cx) (l0_3 : List (S66)) (a1 : Int) (a2 : Int) (a3 : Cx) : Option (Cx × Cx × Cx × Bool) := (impl_Feeder_has.f k a0_0 a0_1 a0_2 l0_3 a1).bind fun bt434 => (if bt434.1 = true then ((impl_Feeder_fault.f k bt434.2.1 bt434.2.2.1 bt434.2.2.2 l0_3 a1 a2 a3).bind fun bt438 => (if bt438.2.2.2.1 = true then ((impl_PhasesOf.f k bt438.1 bt438.2.1 bt438.2.2.1).bind fun bt446 => (some (bt446.1, bt446.2.1, bt446.2.2, true))) else (some ((⟨0, 0⟩ : Cx), (⟨0, 0⟩ : Cx), (⟨0, 0⟩ : Cx), false)))) else (some ((⟨0, 0⟩ : Cx), (⟨0, 0⟩ : Cx), (⟨0, 0⟩ : Cx), false)))
theorem impl_FaultCurrents.mono : ∀ a0 a1 a2 a3 a4 a5 a6 k, LeO (impl_FaultCurrents.f k a0 a1 a2 a3 a4 a5 a6) (impl_FaultCurrents.f (k + 1) a0 a1 a2 a3 a4 a5 a6) := by
 intro a0 a1 a2 a3 a4 a5 a6 k
 unfold impl_FaultCurrents.f
 repeat' first
   | (with_reducible exact impl_Feeder_fault.mono _ _ _ _ _ _ _ _)
   | (with_reducible exact impl_Feeder_has.mono _ _ _ _ _ _)
   | (with_reducible exact impl_PhasesOf.mono _ _ _ _)
   | (with_reducible exact LeO.refl _)
   | (with_reducible exact LeO.none _)
   | (with_reducible refine LeO.ite ?_ ?_)
   | (with_reducible refine LeO.bind ?_ (fun _ => ?_))
   | exact impl_Feeder_fault.mono _ _ _ _ _ _ _ _
   | exact impl_Feeder_has.mono _ _ _ _ _ _
   | exact impl_PhasesOf.mono _ _ _ _
   | exact LeO.none _
   | refine LeO.ite ?_ ?_
   | refine LeO.bind ?_ (fun _ => ?_)
set_option maxHeartbeats 8000000 in
set_option maxRecDepth 100000 in
theorem impl_FaultCurrents.calls (k : Nat) (a0_0 : Cx) (a0_1 : Cx) (a0_2 : Cx) (A0_3 : Option Addr) (c0_3 : Nat) (l0_3 : List (S66)) (a1 : Int) (a2 : Int) (a3 : Cx) (r1 : Cx) (r2 : Cx) (r3 : Cx) (r4 : Bool) (w : World) (hr0_3 : Kd.C k66 w A0_3 l0_3.length l0_3) (hc0_3 : l0_3.length ≤ c0_3) (h : impl_FaultCurrents.f k a0_0 a0_1 a0_2 l0_3 a1 a2 a3 = some (r1, r2, r3, r4)) :
  Calls Try.prog 49 #[.agg #[.complex .f32 a0_0.re a0_0.im, .complex .f32 a0_1.re a0_1.im, .complex .f32 a0_2.re a0_2.im, .slice A0_3 l0_3.length c0_3], .int .i64 a1, .int .i64 a2, .complex .f32 a3.re a3.im] w fun e w' => e = .returned (.tuple #[.agg #[.complex .f32 r1.re r1.im, .complex .f32 r2.re r2.im, .complex .f32 r3.re r3.im], .bool r4]) ∧ Below w.heap.size w w' := by
 have hu42 := Try.underlying42
 have hu39 := Try.underlying39
 have hu80 := Try.underlying80
 have HR0_3 := Aside0.mk hr0_3
 have HC0_3 := Aside0.mk hc0_3
 clear hr0_3 hc0_3
 have HB := Aside0.mk (Below.refl w.heap.size w)
 have H : ((impl_Feeder_has.f k a0_0 a0_1 a0_2 l0_3 a1).bind fun bt434 => (if bt434.1 = true then ((impl_Feeder_fault.f k bt434.2.1 bt434.2.2.1 bt434.2.2.2 l0_3 a1 a2 a3).bind fun bt438 => (if bt438.2.2.2.1 = true then ((impl_PhasesOf.f k bt438.1 bt438.2.1 bt438.2.2.1).bind fun bt446 => (some (bt446.1, bt446.2.1, bt446.2.2, true))) else (some ((⟨0, 0⟩ : Cx), (⟨0, 0⟩ : Cx), (⟨0, 0⟩ : Cx), false)))) else (some ((⟨0, 0⟩ : Cx), (⟨0, 0⟩ : Cx), (⟨0, 0⟩ : Cx), false)))) = some (r1, r2, r3, r4) := h
 clear h
 replace H := Option.bind_eq_some_iff.mp H
 obtain ⟨⟨t434, t435, t436, t437⟩, A50, H⟩ := H
 try dsimp only at H
 have A5 := Aside0.mk A50
 clear A50
 by_cases c6 : t434 = true
 ·subst c6
  rw [if_pos rfl] at H; try dsimp only at H
  replace H := Option.bind_eq_some_iff.mp H
  obtain ⟨⟨t438, t439, t440, t441, t442, t443, t444⟩, A70, H⟩ := H
  try dsimp only at H
  have A7 := Aside0.mk A70
  clear A70
  by_cases c8 : t441 = true
  ·subst c8
   rw [if_pos rfl] at H; try dsimp only at H
   replace H := Option.bind_eq_some_iff.mp H
   obtain ⟨⟨t446, t447, t448⟩, A90, H⟩ := H
   try dsimp only at H
   have A9 := Aside0.mk A90
   clear A90
   simp only [Option.some.injEq, Prod.mk.injEq] at H
   obtain ⟨rfl, rfl, rfl, rfl⟩ := H
   go_enter Try.func49, Try.ntmps49
   go_wp2_with (first | ((with_reducible refine gate_dst (N := 4) rfl ?_); refine box_event ?hg (N := 4) ?hd (cs := #[.complex .f32 a0_0.re a0_0.im, .complex .f32 a0_1.re a0_1.im, .complex .f32 a0_2.re a0_2.im, .slice A0_3 l0_3.length c0_3]) (t := 42) ?hr ?_; (case hd => rfl); (case hg => rfl); (case hr => first | (go_simp; done) | (go_simp; rfl)); intro gb432 hg w10 hbox hb; have n0_ := Aside0.mk (below_step tb hb); have n1_ := Aside0.mk (hbox); have n2_ := Aside0.mk ((by rw [hg]; exact (below_size tb) : w.heap.size ≤ gb432)); have n3_ := Aside0.mk ((by rw [hg]; exact (below_size tb) : w.heap.size ≤ gb432)); clear HB; have HB := n0_; have BK432 := n1_; have GW432 := n2_; have GE432 := n3_; clear n0_ n1_ n2_ n3_; clear hb hbox hg; have HI432 := Aside0.mk (show IsS42 w _ gb432 a0_0 a0_1 a0_2 l0_3 from ⟨_, _, BK432.out, (by first | exact GE432.out | exact GW432.out), HR0_3.out, HC0_3.out⟩)) | ((with_reducible refine gate_dst (N := 8) rfl ?_); refine box_event ?hg (N := 8) ?hd (cs := #[.complex .f32 0 0, .complex .f32 0 0, .complex .f32 0 0]) (t := 39) ?hr ?_; (case hd => rfl); (case hg => rfl); (case hr => first | (go_simp; done) | (go_simp; rfl)); intro gb433 hg w11 hbox hb; have n0_ := Aside0.mk (IsS42.below (by have hi_ := HI432.out; exact IsS42.up) hb); have n1_ := Aside0.mk (below_step (by have ge_ := IsS42.ge HI432.out; exact tb) hb); have n2_ := Aside0.mk (hbox); have n3_ := Aside0.mk ((by rw [hg]; exact (below_size (by have ge_ := IsS42.ge HI432.out; exact tb)) : w.heap.size ≤ gb433)); have n4_ := Aside0.mk ((by rw [hg]; exact (below_size (by have ge_ := IsS42.ge HI432.out; exact tb)) : w.heap.size ≤ gb433)); have n5_ := Aside0.mk ((by rw [hg]; exact Nat.ne_of_lt (IsS42.lt (show IsS42 w _ gb432 a0_0 a0_1 a0_2 l0_3 from by have hi_ := HI432.out; exact IsS42.up)) : gb432 ≠ gb433)); have n6_ := Aside0.mk ((by rw [hg]; exact Nat.ne_of_gt (IsS42.lt (show IsS42 w _ gb432 a0_0 a0_1 a0_2 l0_3 from by have hi_ := HI432.out; exact IsS42.up)) : gb433 ≠ gb432)); clear HI432; clear HB; have HI432 := n0_; have HB := n1_; have BK433 := n2_; have GW433 := n3_; have GE433 := n4_; have NB432_433 := n5_; have NB433_432 := n6_; clear n0_ n1_ n2_ n3_ n4_ n5_ n6_; clear hb hbox hg) | ((with_reducible refine gate_callee (f := 90) rfl ?_); refine gx_ (some 13) Try.func90 #[.pointer (some ⟨gb432, 0, none⟩), .int .i64 a1] ?_; (with_reducible refine (impl_Feeder_has.calls k gb432 a0_0 a0_1 a0_2 l0_3 a1 true t435 t436 t437 w _ ?side1 ?side2 A5.out).mono ?_); (case side1 => have hi_ := HI432.out; exact IsS42.up); (case side2 => have ge_ := IsS42.ge HI432.out; exact tb); rintro e w12 ⟨rfl, hi, hb, hk⟩; refine ⟨_, rfl, ?_⟩; have n0_ := Aside0.mk (KeepBut.blk hk (g' := gb433) (o := .cells #[.complex .f32 0 0, .complex .f32 0 0, .complex .f32 0 0] 39 (0, 0)) (bu BK433.out) NB433_432.out (by simp)); have n1_ := Aside0.mk (hb); have n2_ := Aside0.mk (hi); clear BK433; clear HB; clear HI432; have BK433 := n0_; have HB := n1_; have HI432 := n2_; clear n0_ n1_ n2_; (try clear hb); (try clear hb2); (try clear hk); (try clear hi)) | ((with_reducible refine gate_callee (f := 102) rfl ?_); refine gx_ (some 20) Try.func102 #[.pointer (some ⟨gb432, 0, none⟩), .int .i64 a1, .int .i64 a2, .complex .f32 a3.re a3.im] ?_; (with_reducible refine (impl_Feeder_fault.calls k gb432 t435 t436 t437 l0_3 a1 a2 a3 t438 t439 t440 true t442 t443 t444 w _ ?side1 ?side2 A7.out).mono ?_); (case side1 => have hi_ := HI432.out; exact IsS42.up); (case side2 => have ge_ := IsS42.ge HI432.out; exact tb); rintro e w13 ⟨rfl, hi, hb, hk⟩; refine ⟨_, rfl, ?_⟩; have n0_ := Aside0.mk (KeepBut.blk hk (g' := gb433) (o := .cells #[.complex .f32 0 0, .complex .f32 0 0, .complex .f32 0 0] 39 (0, 0)) (bu BK433.out) NB433_432.out (by simp)); have n1_ := Aside0.mk (hb); have n2_ := Aside0.mk (hi); clear BK433; clear HB; clear HI432; have BK433 := n0_; have HB := n1_; have HI432 := n2_; clear n0_ n1_ n2_; (try clear hb); (try clear hb2); (try clear hk); (try clear hi)) | ((with_reducible refine gate_dst (N := 10) rfl ?_); refine box_event ?hg (N := 10) ?hd (cs := #[.complex .f32 0 0, .complex .f32 0 0, .complex .f32 0 0]) (t := 80) ?hr ?_; (case hd => rfl); (case hg => rfl); (case hr => first | (go_simp; done) | (go_simp; rfl)); intro gb445 hg w14 hbox hb; have n0_ := Aside0.mk (IsS42.below (by have hi_ := HI432.out; exact IsS42.up) hb); have n1_ := Aside0.mk (blk_below (g := gb433) (o := .cells #[.complex .f32 0 0, .complex .f32 0 0, .complex .f32 0 0] 39 (0, 0)) (bu BK433.out) hb); have n2_ := Aside0.mk (below_step (by have ge_ := IsS42.ge HI432.out; exact tb) hb); have n3_ := Aside0.mk (hbox); have n4_ := Aside0.mk ((by rw [hg]; exact (below_size (by have ge_ := IsS42.ge HI432.out; exact tb)) : w.heap.size ≤ gb445)); have n5_ := Aside0.mk ((by rw [hg]; exact (below_size (by have ge_ := IsS42.ge HI432.out; exact tb)) : w.heap.size ≤ gb445)); have n6_ := Aside0.mk ((by rw [hg]; exact Nat.ne_of_lt (blk_lt (g := gb433) (o := .cells #[.complex .f32 0 0, .complex .f32 0 0, .complex .f32 0 0] 39 (0, 0)) (bu BK433.out)) : gb433 ≠ gb445)); have n7_ := Aside0.mk ((by rw [hg]; exact Nat.ne_of_gt (blk_lt (g := gb433) (o := .cells #[.complex .f32 0 0, .complex .f32 0 0, .complex .f32 0 0] 39 (0, 0)) (bu BK433.out)) : gb445 ≠ gb433)); have n8_ := Aside0.mk ((by rw [hg]; exact Nat.ne_of_lt (IsS42.lt (show IsS42 w _ gb432 t442 t443 t444 l0_3 from by have hi_ := HI432.out; exact IsS42.up)) : gb432 ≠ gb445)); have n9_ := Aside0.mk ((by rw [hg]; exact Nat.ne_of_gt (IsS42.lt (show IsS42 w _ gb432 t442 t443 t444 l0_3 from by have hi_ := HI432.out; exact IsS42.up)) : gb445 ≠ gb432)); clear HI432; clear BK433; clear HB; have HI432 := n0_; have BK433 := n1_; have HB := n2_; have BK445 := n3_; have GW445 := n4_; have GE445 := n5_; have NB433_445 := n6_; have NB445_433 := n7_; have NB432_445 := n8_; have NB445_432 := n9_; clear n0_ n1_ n2_ n3_ n4_ n5_ n6_ n7_ n8_ n9_; clear hb hbox hg; have hnb15 := NB445_433.out; have hnc15 := NB433_445.out; have hnb16 := NB445_432.out; have hnc16 := NB432_445.out; have hcz17_0 : w14.cell? ⟨gb445, 0, none⟩ = some (.complex .f32 0 0) := (blk_cell BK445.out 0).trans rfl; have hcz17_1 : w14.cell? ⟨gb445, 1, none⟩ = some (.complex .f32 0 0) := (blk_cell BK445.out 1).trans rfl; have hcz17_2 : w14.cell? ⟨gb445, 2, none⟩ = some (.complex .f32 0 0) := (blk_cell BK445.out 2).trans rfl; have hfz17_0 := blk_frozen BK445.out 0; have hfz17_1 := blk_frozen BK445.out 1; have hfz17_2 := blk_frozen BK445.out 2) | ((with_reducible refine gate_callee (f := 44) rfl ?_); refine gx_ (some 27) Try.func44 #[.agg #[.complex .f32 t438.re t438.im, .complex .f32 t439.re t439.im, .complex .f32 t440.re t440.im]] ?_; (with_reducible refine (impl_PhasesOf.calls k t438 t439 t440 t446 t447 t448 _ A9.out).mono ?_); rintro e w18 ⟨rfl, hb⟩; refine ⟨_, rfl, ?_⟩; have n0_ := Aside0.mk (IsS42.below (show IsS42 w (((w14.setCell ⟨gb445, 0, none⟩ (.complex .f32 t438.re t438.im)).setCell ⟨gb445, 1, none⟩ (.complex .f32 t439.re t439.im)).setCell ⟨gb445, 2, none⟩ (.complex .f32 t440.re t440.im)) gb432 t442 t443 t444 l0_3 from by have hi_ := HI432.out; exact IsS42.up) hb); have n1_ := Aside0.mk (blk_below (g := gb433) (o := .cells #[.complex .f32 0 0, .complex .f32 0 0, .complex .f32 0 0] 39 (0, 0)) (bv BK433.out) hb); have n2_ := Aside0.mk (blk_below (g := gb445) (o := .cells #[.complex .f32 t438.re t438.im, .complex .f32 t439.re t439.im, .complex .f32 t440.re t440.im] 80 (0, 0)) (by refine bu ?_; refine blk_put (cs := #[.complex .f32 t438.re t438.im, .complex .f32 t439.re t439.im, .complex .f32 0 0]) ?_ 2 _ rfl; refine bu ?_; refine blk_put (cs := #[.complex .f32 t438.re t438.im, .complex .f32 0 0, .complex .f32 0 0]) ?_ 1 _ rfl; refine bu ?_; refine blk_put (cs := #[.complex .f32 0 0, .complex .f32 0 0, .complex .f32 0 0]) ?_ 0 _ rfl; refine bu ?_; exact BK445.out) hb); have n3_ := Aside0.mk (below_step (by have ge_ := IsS42.ge HI432.out; exact tb) hb); clear HI432; clear BK433; clear BK445; clear HB; have HI432 := n0_; have BK433 := n1_; have BK445 := n2_; have HB := n3_; clear n0_ n1_ n2_ n3_; (try clear hb); (try clear hb2); (try clear hk); (try clear hi); have hnb19 := NB433_432.out; have hnc19 := NB432_433.out; have hcz20_0 : w18.cell? ⟨gb433, 0, none⟩ = some (.complex .f32 0 0) := (blk_cell BK433.out 0).trans rfl; have hcz20_1 : w18.cell? ⟨gb433, 1, none⟩ = some (.complex .f32 0 0) := (blk_cell BK433.out 1).trans rfl; have hcz20_2 : w18.cell? ⟨gb433, 2, none⟩ = some (.complex .f32 0 0) := (blk_cell BK433.out 2).trans rfl; have hfz20_0 := blk_frozen BK433.out 0; have hfz20_1 := blk_frozen BK433.out 1; have hfz20_2 := blk_frozen BK433.out 2))
   refine bodyPost_ret (results_ct rfl _ _ gb433 39 #[.complex .f32 t446.re t446.im, .complex .f32 t447.re t447.im, .complex .f32 t448.re t448.im] (0, 0) _ rfl (by refine bu ?_; refine blk_put (cs := #[.complex .f32 t446.re t446.im, .complex .f32 t447.re t447.im, .complex .f32 0 0]) ?_ 2 _ rfl; refine bu ?_; refine blk_put (cs := #[.complex .f32 t446.re t446.im, .complex .f32 0 0, .complex .f32 0 0]) ?_ 1 _ rfl; refine bu ?_; refine blk_put (cs := #[.complex .f32 0 0, .complex .f32 0 0, .complex .f32 0 0]) ?_ 0 _ rfl; refine bu ?_; exact BK433.out) Try.underlying39 rfl (by kernel_rfl)) rfl ?_
   exact ⟨re_, by have ge_ := IsS42.ge HI432.out; exact tb⟩
  ·replace c8 := Bool.eq_false_iff.mpr c8
   subst c8
   have H1 : (some ((⟨0, 0⟩ : Cx), (⟨0, 0⟩ : Cx), (⟨0, 0⟩ : Cx), false)) = some (r1, r2, r3, r4) := by rw [if_neg (show ¬ (false = true) by decide)] at H; exact H
   clear H
   have H := H1
   clear H1
   simp only [Option.some.injEq, Prod.mk.injEq] at H
   obtain ⟨rfl, rfl, rfl, rfl⟩ := H
   go_enter Try.func49, Try.ntmps49
   go_wp2_with (first | ((with_reducible refine gate_dst (N := 4) rfl ?_); refine box_event ?hg (N := 4) ?hd (cs := #[.complex .f32 a0_0.re a0_0.im, .complex .f32 a0_1.re a0_1.im, .complex .f32 a0_2.re a0_2.im, .slice A0_3 l0_3.length c0_3]) (t := 42) ?hr ?_; (case hd => rfl); (case hg => rfl); (case hr => first | (go_simp; done) | (go_simp; rfl)); intro gb432 hg w21 hbox hb; have n0_ := Aside0.mk (below_step tb hb); have n1_ := Aside0.mk (hbox); have n2_ := Aside0.mk ((by rw [hg]; exact (below_size tb) : w.heap.size ≤ gb432)); have n3_ := Aside0.mk ((by rw [hg]; exact (below_size tb) : w.heap.size ≤ gb432)); clear HB; have HB := n0_; have BK432 := n1_; have GW432 := n2_; have GE432 := n3_; clear n0_ n1_ n2_ n3_; clear hb hbox hg; have HI432 := Aside0.mk (show IsS42 w _ gb432 a0_0 a0_1 a0_2 l0_3 from ⟨_, _, BK432.out, (by first | exact GE432.out | exact GW432.out), HR0_3.out, HC0_3.out⟩)) | ((with_reducible refine gate_dst (N := 8) rfl ?_); refine box_event ?hg (N := 8) ?hd (cs := #[.complex .f32 0 0, .complex .f32 0 0, .complex .f32 0 0]) (t := 39) ?hr ?_; (case hd => rfl); (case hg => rfl); (case hr => first | (go_simp; done) | (go_simp; rfl)); intro gb433 hg w22 hbox hb; have n0_ := Aside0.mk (IsS42.below (by have hi_ := HI432.out; exact IsS42.up) hb); have n1_ := Aside0.mk (below_step (by have ge_ := IsS42.ge HI432.out; exact tb) hb); have n2_ := Aside0.mk (hbox); have n3_ := Aside0.mk ((by rw [hg]; exact (below_size (by have ge_ := IsS42.ge HI432.out; exact tb)) : w.heap.size ≤ gb433)); have n4_ := Aside0.mk ((by rw [hg]; exact (below_size (by have ge_ := IsS42.ge HI432.out; exact tb)) : w.heap.size ≤ gb433)); have n5_ := Aside0.mk ((by rw [hg]; exact Nat.ne_of_lt (IsS42.lt (show IsS42 w _ gb432 a0_0 a0_1 a0_2 l0_3 from by have hi_ := HI432.out; exact IsS42.up)) : gb432 ≠ gb433)); have n6_ := Aside0.mk ((by rw [hg]; exact Nat.ne_of_gt (IsS42.lt (show IsS42 w _ gb432 a0_0 a0_1 a0_2 l0_3 from by have hi_ := HI432.out; exact IsS42.up)) : gb433 ≠ gb432)); clear HI432; clear HB; have HI432 := n0_; have HB := n1_; have BK433 := n2_; have GW433 := n3_; have GE433 := n4_; have NB432_433 := n5_; have NB433_432 := n6_; clear n0_ n1_ n2_ n3_ n4_ n5_ n6_; clear hb hbox hg) | ((with_reducible refine gate_callee (f := 90) rfl ?_); refine gx_ (some 13) Try.func90 #[.pointer (some ⟨gb432, 0, none⟩), .int .i64 a1] ?_; (with_reducible refine (impl_Feeder_has.calls k gb432 a0_0 a0_1 a0_2 l0_3 a1 true t435 t436 t437 w _ ?side1 ?side2 A5.out).mono ?_); (case side1 => have hi_ := HI432.out; exact IsS42.up); (case side2 => have ge_ := IsS42.ge HI432.out; exact tb); rintro e w23 ⟨rfl, hi, hb, hk⟩; refine ⟨_, rfl, ?_⟩; have n0_ := Aside0.mk (KeepBut.blk hk (g' := gb433) (o := .cells #[.complex .f32 0 0, .complex .f32 0 0, .complex .f32 0 0] 39 (0, 0)) (bu BK433.out) NB433_432.out (by simp)); have n1_ := Aside0.mk (hb); have n2_ := Aside0.mk (hi); clear BK433; clear HB; clear HI432; have BK433 := n0_; have HB := n1_; have HI432 := n2_; clear n0_ n1_ n2_; (try clear hb); (try clear hb2); (try clear hk); (try clear hi)) | ((with_reducible refine gate_callee (f := 102) rfl ?_); refine gx_ (some 20) Try.func102 #[.pointer (some ⟨gb432, 0, none⟩), .int .i64 a1, .int .i64 a2, .complex .f32 a3.re a3.im] ?_; (with_reducible refine (impl_Feeder_fault.calls k gb432 t435 t436 t437 l0_3 a1 a2 a3 t438 t439 t440 false t442 t443 t444 w _ ?side1 ?side2 A7.out).mono ?_); (case side1 => have hi_ := HI432.out; exact IsS42.up); (case side2 => have ge_ := IsS42.ge HI432.out; exact tb); rintro e w24 ⟨rfl, hi, hb, hk⟩; refine ⟨_, rfl, ?_⟩; have n0_ := Aside0.mk (KeepBut.blk hk (g' := gb433) (o := .cells #[.complex .f32 0 0, .complex .f32 0 0, .complex .f32 0 0] 39 (0, 0)) (bu BK433.out) NB433_432.out (by simp)); have n1_ := Aside0.mk (hb); have n2_ := Aside0.mk (hi); clear BK433; clear HB; clear HI432; have BK433 := n0_; have HB := n1_; have HI432 := n2_; clear n0_ n1_ n2_; (try clear hb); (try clear hb2); (try clear hk); (try clear hi)) | ((with_reducible refine gate_dst (N := 10) rfl ?_); refine box_event ?hg (N := 10) ?hd (cs := #[.complex .f32 0 0, .complex .f32 0 0, .complex .f32 0 0]) (t := 80) ?hr ?_; (case hd => rfl); (case hg => rfl); (case hr => first | (go_simp; done) | (go_simp; rfl)); intro gb445 hg w25 hbox hb; have n0_ := Aside0.mk (IsS42.below (by have hi_ := HI432.out; exact IsS42.up) hb); have n1_ := Aside0.mk (blk_below (g := gb433) (o := .cells #[.complex .f32 0 0, .complex .f32 0 0, .complex .f32 0 0] 39 (0, 0)) (bu BK433.out) hb); have n2_ := Aside0.mk (below_step (by have ge_ := IsS42.ge HI432.out; exact tb) hb); have n3_ := Aside0.mk (hbox); have n4_ := Aside0.mk ((by rw [hg]; exact (below_size (by have ge_ := IsS42.ge HI432.out; exact tb)) : w.heap.size ≤ gb445)); have n5_ := Aside0.mk ((by rw [hg]; exact (below_size (by have ge_ := IsS42.ge HI432.out; exact tb)) : w.heap.size ≤ gb445)); have n6_ := Aside0.mk ((by rw [hg]; exact Nat.ne_of_lt (blk_lt (g := gb433) (o := .cells #[.complex .f32 0 0, .complex .f32 0 0, .complex .f32 0 0] 39 (0, 0)) (bu BK433.out)) : gb433 ≠ gb445)); have n7_ := Aside0.mk ((by rw [hg]; exact Nat.ne_of_gt (blk_lt (g := gb433) (o := .cells #[.complex .f32 0 0, .complex .f32 0 0, .complex .f32 0 0] 39 (0, 0)) (bu BK433.out)) : gb445 ≠ gb433)); have n8_ := Aside0.mk ((by rw [hg]; exact Nat.ne_of_lt (IsS42.lt (show IsS42 w _ gb432 t442 t443 t444 l0_3 from by have hi_ := HI432.out; exact IsS42.up)) : gb432 ≠ gb445)); have n9_ := Aside0.mk ((by rw [hg]; exact Nat.ne_of_gt (IsS42.lt (show IsS42 w _ gb432 t442 t443 t444 l0_3 from by have hi_ := HI432.out; exact IsS42.up)) : gb445 ≠ gb432)); clear HI432; clear BK433; clear HB; have HI432 := n0_; have BK433 := n1_; have HB := n2_; have BK445 := n3_; have GW445 := n4_; have GE445 := n5_; have NB433_445 := n6_; have NB445_433 := n7_; have NB432_445 := n8_; have NB445_432 := n9_; clear n0_ n1_ n2_ n3_ n4_ n5_ n6_ n7_ n8_ n9_; clear hb hbox hg; have hnb26 := NB445_433.out; have hnc26 := NB433_445.out; have hnb27 := NB445_432.out; have hnc27 := NB432_445.out; have hcz28_0 : w25.cell? ⟨gb445, 0, none⟩ = some (.complex .f32 0 0) := (blk_cell BK445.out 0).trans rfl; have hcz28_1 : w25.cell? ⟨gb445, 1, none⟩ = some (.complex .f32 0 0) := (blk_cell BK445.out 1).trans rfl; have hcz28_2 : w25.cell? ⟨gb445, 2, none⟩ = some (.complex .f32 0 0) := (blk_cell BK445.out 2).trans rfl; have hfz28_0 := blk_frozen BK445.out 0; have hfz28_1 := blk_frozen BK445.out 1; have hfz28_2 := blk_frozen BK445.out 2; have hnb29 := NB433_432.out; have hnc29 := NB432_433.out; have hcz30_0 : w25.cell? ⟨gb433, 0, none⟩ = some (.complex .f32 0 0) := (blk_cell BK433.out 0).trans rfl; have hcz30_1 : w25.cell? ⟨gb433, 1, none⟩ = some (.complex .f32 0 0) := (blk_cell BK433.out 1).trans rfl; have hcz30_2 : w25.cell? ⟨gb433, 2, none⟩ = some (.complex .f32 0 0) := (blk_cell BK433.out 2).trans rfl; have hfz30_0 := blk_frozen BK433.out 0; have hfz30_1 := blk_frozen BK433.out 1; have hfz30_2 := blk_frozen BK433.out 2))
   refine bodyPost_ret (results_ct rfl _ _ gb433 39 #[.complex .f32 0 0, .complex .f32 0 0, .complex .f32 0 0] (0, 0) _ rfl (by refine bu ?_; refine blk_put (cs := #[.complex .f32 0 0, .complex .f32 0 0, .complex .f32 0 0]) ?_ 2 _ rfl; refine bu ?_; refine blk_put (cs := #[.complex .f32 0 0, .complex .f32 0 0, .complex .f32 0 0]) ?_ 1 _ rfl; refine bu ?_; refine blk_put (cs := #[.complex .f32 0 0, .complex .f32 0 0, .complex .f32 0 0]) ?_ 0 _ rfl; refine bv ?_; exact BK433.out) Try.underlying39 rfl (by kernel_rfl)) rfl ?_
   exact ⟨re_, by have ge_ := IsS42.ge HI432.out; exact tb⟩
 ·replace c6 := Bool.eq_false_iff.mpr c6
  subst c6
  have H1 : (some ((⟨0, 0⟩ : Cx), (⟨0, 0⟩ : Cx), (⟨0, 0⟩ : Cx), false)) = some (r1, r2, r3, r4) := by rw [if_neg (show ¬ (false = true) by decide)] at H; exact H
  clear H
  have H := H1
  clear H1
  simp only [Option.some.injEq, Prod.mk.injEq] at H
  obtain ⟨rfl, rfl, rfl, rfl⟩ := H
  go_enter Try.func49, Try.ntmps49
  go_wp2_with (first | ((with_reducible refine gate_dst (N := 4) rfl ?_); refine box_event ?hg (N := 4) ?hd (cs := #[.complex .f32 a0_0.re a0_0.im, .complex .f32 a0_1.re a0_1.im, .complex .f32 a0_2.re a0_2.im, .slice A0_3 l0_3.length c0_3]) (t := 42) ?hr ?_; (case hd => rfl); (case hg => rfl); (case hr => first | (go_simp; done) | (go_simp; rfl)); intro gb432 hg w31 hbox hb; have n0_ := Aside0.mk (below_step tb hb); have n1_ := Aside0.mk (hbox); have n2_ := Aside0.mk ((by rw [hg]; exact (below_size tb) : w.heap.size ≤ gb432)); have n3_ := Aside0.mk ((by rw [hg]; exact (below_size tb) : w.heap.size ≤ gb432)); clear HB; have HB := n0_; have BK432 := n1_; have GW432 := n2_; have GE432 := n3_; clear n0_ n1_ n2_ n3_; clear hb hbox hg; have HI432 := Aside0.mk (show IsS42 w _ gb432 a0_0 a0_1 a0_2 l0_3 from ⟨_, _, BK432.out, (by first | exact GE432.out | exact GW432.out), HR0_3.out, HC0_3.out⟩)) | ((with_reducible refine gate_dst (N := 8) rfl ?_); refine box_event ?hg (N := 8) ?hd (cs := #[.complex .f32 0 0, .complex .f32 0 0, .complex .f32 0 0]) (t := 39) ?hr ?_; (case hd => rfl); (case hg => rfl); (case hr => first | (go_simp; done) | (go_simp; rfl)); intro gb433 hg w32 hbox hb; have n0_ := Aside0.mk (IsS42.below (by have hi_ := HI432.out; exact IsS42.up) hb); have n1_ := Aside0.mk (below_step (by have ge_ := IsS42.ge HI432.out; exact tb) hb); have n2_ := Aside0.mk (hbox); have n3_ := Aside0.mk ((by rw [hg]; exact (below_size (by have ge_ := IsS42.ge HI432.out; exact tb)) : w.heap.size ≤ gb433)); have n4_ := Aside0.mk ((by rw [hg]; exact (below_size (by have ge_ := IsS42.ge HI432.out; exact tb)) : w.heap.size ≤ gb433)); have n5_ := Aside0.mk ((by rw [hg]; exact Nat.ne_of_lt (IsS42.lt (show IsS42 w _ gb432 a0_0 a0_1 a0_2 l0_3 from by have hi_ := HI432.out; exact IsS42.up)) : gb432 ≠ gb433)); have n6_ := Aside0.mk ((by rw [hg]; exact Nat.ne_of_gt (IsS42.lt (show IsS42 w _ gb432 a0_0 a0_1 a0_2 l0_3 from by have hi_ := HI432.out; exact IsS42.up)) : gb433 ≠ gb432)); clear HI432; clear HB; have HI432 := n0_; have HB := n1_; have BK433 := n2_; have GW433 := n3_; have GE433 := n4_; have NB432_433 := n5_; have NB433_432 := n6_; clear n0_ n1_ n2_ n3_ n4_ n5_ n6_; clear hb hbox hg) | ((with_reducible refine gate_callee (f := 90) rfl ?_); refine gx_ (some 13) Try.func90 #[.pointer (some ⟨gb432, 0, none⟩), .int .i64 a1] ?_; (with_reducible refine (impl_Feeder_has.calls k gb432 a0_0 a0_1 a0_2 l0_3 a1 false t435 t436 t437 w _ ?side1 ?side2 A5.out).mono ?_); (case side1 => have hi_ := HI432.out; exact IsS42.up); (case side2 => have ge_ := IsS42.ge HI432.out; exact tb); rintro e w33 ⟨rfl, hi, hb, hk⟩; refine ⟨_, rfl, ?_⟩; have n0_ := Aside0.mk (KeepBut.blk hk (g' := gb433) (o := .cells #[.complex .f32 0 0, .complex .f32 0 0, .complex .f32 0 0] 39 (0, 0)) (bu BK433.out) NB433_432.out (by simp)); have n1_ := Aside0.mk (hb); have n2_ := Aside0.mk (hi); clear BK433; clear HB; clear HI432; have BK433 := n0_; have HB := n1_; have HI432 := n2_; clear n0_ n1_ n2_; (try clear hb); (try clear hb2); (try clear hk); (try clear hi); have hnb34 := NB433_432.out; have hnc34 := NB432_433.out; have hcz35_0 : w33.cell? ⟨gb433, 0, none⟩ = some (.complex .f32 0 0) := (blk_cell BK433.out 0).trans rfl; have hcz35_1 : w33.cell? ⟨gb433, 1, none⟩ = some (.complex .f32 0 0) := (blk_cell BK433.out 1).trans rfl; have hcz35_2 : w33.cell? ⟨gb433, 2, none⟩ = some (.complex .f32 0 0) := (blk_cell BK433.out 2).trans rfl; have hfz35_0 := blk_frozen BK433.out 0; have hfz35_1 := blk_frozen BK433.out 1; have hfz35_2 := blk_frozen BK433.out 2))
  refine bodyPost_ret (results_ct rfl _ _ gb433 39 #[.complex .f32 0 0, .complex .f32 0 0, .complex .f32 0 0] (0, 0) _ rfl (by refine bu ?_; refine blk_put (cs := #[.complex .f32 0 0, .complex .f32 0 0, .complex .f32 0 0]) ?_ 2 _ rfl; refine bu ?_; refine blk_put (cs := #[.complex .f32 0 0, .complex .f32 0 0, .complex .f32 0 0]) ?_ 1 _ rfl; refine bu ?_; refine blk_put (cs := #[.complex .f32 0 0, .complex .f32 0 0, .complex .f32 0 0]) ?_ 0 _ rfl; refine bu ?_; exact BK433.out) Try.underlying39 rfl (by kernel_rfl)) rfl ?_
  exact ⟨re_, by have ge_ := IsS42.ge HI432.out; exact tb⟩

end Go.Proofs.Ytcgpomicgbmdlaa.PFnCommon
namespace Go.Proofs.Ytcgpomicgbmdlaa.PFnCommon
open Go.RowKit Go.Proofs.YtcgpomicgbmdlaaW.PrintWords Go.Proofs.YtcgpomicgbmdlaaW.PrintLast Go.Proofs.YtcgpomicgbmdlaaW.PrintMore
attribute [local go_sem] max2_int min2_int max_two min_two max_three min_three max_four min_four   -- for this text's walks alone
set_option linter.unusedVariables false
set_option linter.unusedSimpArgs false

-- NOT PRINTED: function 167 (math_sqrt)

/-! ### math_Sqrt: function 146 -/
def math_Sqrt.f (a0 : Nat) : Option (Nat) := if sqok a0 = true then (some (sqv a0)) else (none)
set_option maxHeartbeats 8000000 in
set_option maxRecDepth 100000 in
theorem math_Sqrt.calls (a0 : Nat) (r : Nat) (w : World) (h : math_Sqrt.f a0 = some r) :
  Calls Try.prog 146 #[.float .f64 a0] w fun e w' => e = .returned (.float .f64 r) ∧ Drawn0 w w' := by
 have H : (if sqok a0 = true then (some (sqv a0)) else (none)) = some r := h
 clear h
 by_cases c2 : sqok a0 = true
 ·rw [if_pos c2] at H
  have c2b0 := eq_true c2
  have c2b1 : decide (sqok a0 = true) = true := decide_eq_true c2
  clear c2
  obtain rfl := Option.some.inj H
  go_enter Try.func146, Try.ntmps146
  go_wp2
  go_ret
  exact ⟨rs_, dr_⟩
 ·rw [if_neg c2] at H
  exact absurd H (by simp)

/-! ### impl_LongOf: function 107 -/
def impl_LongOf.f (a0 : Cx) : Option (Nat) := (impl_power.f a0).bind fun t449 => ((math_Sqrt.f t449).bind fun t450 => (if cvok .f64 t450 .f32 = true then (some (cv .f64 t450 .f32)) else (none)))
set_option maxHeartbeats 8000000 in
set_option maxRecDepth 100000 in
theorem impl_LongOf.calls (a0 : Cx) (r : Nat) (w : World) (h : impl_LongOf.f a0 = some r) :
  Calls Try.prog 107 #[.complex .f32 a0.re a0.im] w fun e w' => e = .returned (.float .f32 r) ∧ Below w.heap.size w w' := by
 have HB := Aside0.mk (Below.refl w.heap.size w)
 have H : ((impl_power.f a0).bind fun t449 => ((math_Sqrt.f t449).bind fun t450 => (if cvok .f64 t450 .f32 = true then (some (cv .f64 t450 .f32)) else (none)))) = some r := h
 clear h
 replace H := Option.bind_eq_some_iff.mp H
 obtain ⟨t449, A20, H⟩ := H
 try dsimp only at H
 have A2 := Aside0.mk A20
 clear A20
 replace H := Option.bind_eq_some_iff.mp H
 obtain ⟨t450, A30, H⟩ := H
 try dsimp only at H
 have A3 := Aside0.mk A30
 clear A30
 by_cases c4 : cvok .f64 t450 .f32 = true
 ·rw [if_pos c4] at H
  have c4b0 := eq_true c4
  have c4b1 : decide (cvok .f64 t450 .f32 = true) = true := decide_eq_true c4
  clear c4
  obtain rfl := Option.some.inj H
  go_enter Try.func107, Try.ntmps107
  go_wp2_with (first | ((with_reducible refine gate_callee (f := 74) rfl ?_); refine gx_ (some 4) Try.func74 #[.complex .f32 a0.re a0.im] ?_; (with_reducible refine (impl_power.calls a0 t449 _ A2.out).mono ?_); rintro e w5 ⟨rfl, hb⟩; refine ⟨_, rfl, ?_⟩; have n0_ := Aside0.mk (below_step tb hb); clear HB; have HB := n0_; clear n0_; (try clear hb); (try clear hb2); (try clear hk); (try clear hi)) | ((with_reducible refine gate_callee (f := 146) rfl ?_); refine gx_ (some 5) Try.func146 #[.float .f64 t449] ?_; (with_reducible refine (math_Sqrt.calls t449 t450 _ A3.out).mono ?_); rintro e w' ⟨rfl, ⟨nd, rfl⟩⟩; refine ⟨_, rfl, ?_⟩))
  go_ret
  exact ⟨re_, tb⟩
 ·rw [if_neg c4] at H
  exact absurd H (by simp)

end Go.Proofs.Ytcgpomicgbmdlaa.PFnCommon
namespace Go.Proofs.Ytcgpomicgbmdlaa.PFnCommon
open Go.RowKit Go.Proofs.YtcgpomicgbmdlaaW.PrintWords Go.Proofs.YtcgpomicgbmdlaaW.PrintLast Go.Proofs.YtcgpomicgbmdlaaW.PrintMore
attribute [local go_sem] max2_int min2_int max_two min_two max_three min_three max_four min_four   -- for this text's walks alone
set_option linter.unusedVariables false
set_option linter.unusedSimpArgs false

/-! ### laws_r8Apart: function 50 -/
def laws_r8Apart.f (a0 : Cx) (a1 : Cx) : Option (Nat) := if fok .sub .f32 a0.re a1.re = true then (if fok .sub .f32 a0.im a1.im = true then ((impl_LongOf.f (⟨fv .sub .f32 a0.re a1.re, fv .sub .f32 a0.im a1.im⟩ : Cx)).bind fun t451 => (if cvok .f32 t451 .f64 = true then (some (cv .f32 t451 .f64)) else (none))) else (none)) else (none)
set_option maxHeartbeats 8000000 in
set_option maxRecDepth 100000 in
theorem laws_r8Apart.calls (a0 : Cx) (a1 : Cx) (r : Nat) (w : World) (h : laws_r8Apart.f a0 a1 = some r) :
  Calls Try.prog 50 #[.complex .f32 a0.re a0.im, .complex .f32 a1.re a1.im] w fun e w' => e = .returned (.float .f64 r) ∧ Below w.heap.size w w' := by
 have HB := Aside0.mk (Below.refl w.heap.size w)
 have H : (if fok .sub .f32 a0.re a1.re = true then (if fok .sub .f32 a0.im a1.im = true then ((impl_LongOf.f (⟨fv .sub .f32 a0.re a1.re, fv .sub .f32 a0.im a1.im⟩ : Cx)).bind fun t451 => (if cvok .f32 t451 .f64 = true then (some (cv .f32 t451 .f64)) else (none))) else (none)) else (none)) = some r := h
 clear h
 by_cases c3 : fok .sub .f32 a0.re a1.re = true
 ·rw [if_pos c3] at H
  have c3b0 := eq_true c3
  have c3b1 : decide (fok .sub .f32 a0.re a1.re = true) = true := decide_eq_true c3
  clear c3
  by_cases c4 : fok .sub .f32 a0.im a1.im = true
  ·rw [if_pos c4] at H
   have c4b0 := eq_true c4
   have c4b1 : decide (fok .sub .f32 a0.im a1.im = true) = true := decide_eq_true c4
   clear c4
   replace H := Option.bind_eq_some_iff.mp H
   obtain ⟨t451, A50, H⟩ := H
   try dsimp only at H
   have A5 := Aside0.mk A50
   clear A50
   by_cases c6 : cvok .f32 t451 .f64 = true
   ·rw [if_pos c6] at H
    have c6b0 := eq_true c6
    have c6b1 : decide (cvok .f32 t451 .f64 = true) = true := decide_eq_true c6
    clear c6
    obtain rfl := Option.some.inj H
    go_enter Try.func50, Try.ntmps50
    go_wp2_with (first | ((with_reducible refine gate_callee (f := 107) rfl ?_); refine gx_ (some 8) Try.func107 #[.complex .f32 (fv .sub .f32 a0.re a1.re) (fv .sub .f32 a0.im a1.im)] ?_; (with_reducible refine (impl_LongOf.calls (⟨fv .sub .f32 a0.re a1.re, fv .sub .f32 a0.im a1.im⟩ : Cx) t451 _ A5.out).mono ?_); rintro e w7 ⟨rfl, hb⟩; refine ⟨_, rfl, ?_⟩; have n0_ := Aside0.mk (below_step tb hb); clear HB; have HB := n0_; clear n0_; (try clear hb); (try clear hb2); (try clear hk); (try clear hi)))
    go_ret
    exact ⟨re_, tb⟩
   ·rw [if_neg c6] at H
    exact absurd H (by simp)
  ·rw [if_neg c4] at H
   exact absurd H (by simp)
 ·rw [if_neg c3] at H
  exact absurd H (by simp)

/-! ### impl_isNaN: function 139 -/
def impl_isNaN.f (a0 : Nat) : Option (Bool) := some (fne .f32 a0 a0)
set_option maxHeartbeats 8000000 in
set_option maxRecDepth 100000 in
theorem impl_isNaN.calls (a0 : Nat) (r : Bool) (w : World) (h : impl_isNaN.f a0 = some r) :
  Calls Try.prog 139 #[.float .f32 a0] w fun e w' => e = .returned (.bool r) ∧ Drawn0 w w' := by
 have H : (some (fne .f32 a0 a0)) = some r := h
 clear h
 obtain rfl := Option.some.inj H
 go_enter Try.func139, Try.ntmps139
 go_wp2
 go_ret
 exact ⟨rs_, dr_⟩

-- NOT PRINTED: function 168 (math_Float32bits)

end Go.Proofs.Ytcgpomicgbmdlaa.PFnCommon
namespace Go.Proofs.Ytcgpomicgbmdlaa.PFnCommon
open Go.RowKit Go.Proofs.YtcgpomicgbmdlaaW.PrintWords Go.Proofs.YtcgpomicgbmdlaaW.PrintLast Go.Proofs.YtcgpomicgbmdlaaW.PrintMore
attribute [local go_sem] max2_int min2_int max_two min_two max_three min_three max_four min_four   -- for this text's walks alone
set_option linter.unusedVariables false
set_option linter.unusedSimpArgs false

/-! ### impl_SameNumber: function 147 -/
def impl_SameNumber.j0 : Nat → Nat → Nat → Bool → Option (Bool)
 | 0, _, _, _ => none
 | k + 1, x0, x1, x10 => if x10 = true then ((impl_isNaN.f x0).bind fun t454 => (if t454 = true then ((impl_isNaN.f x1).bind fun t455 => (some t455)) else (some false))) else (some ((bitsI x0) == (bitsI x1)))
def impl_SameNumber.f (k : Nat) (a0 : Nat) (a1 : Nat) : Option (Bool) := (impl_isNaN.f a0).bind fun t452 => (if t452 = true then (impl_SameNumber.j0 k a0 a1 true) else ((impl_isNaN.f a1).bind fun t453 => (impl_SameNumber.j0 k a0 a1 t453)))
theorem impl_SameNumber.mono_l : ∀ k, (∀ y0 y1 y2, LeO (impl_SameNumber.j0 k y0 y1 y2) (impl_SameNumber.j0 (k + 1) y0 y1 y2))
 | 0 => fun _ _ _ r h => by simp [impl_SameNumber.j0] at h
 | k + 1 => by
  have ih0 := impl_SameNumber.mono_l k
  ·intro y0 y1 y2
   unfold impl_SameNumber.j0
   repeat' first
   | (with_reducible exact ih0 _ _ _)
   | (with_reducible exact LeO.refl _)
   | (with_reducible exact LeO.none _)
   | (with_reducible refine LeO.ite ?_ ?_)
   | (with_reducible refine LeO.bind ?_ (fun _ => ?_))
   | exact ih0 _ _ _
   | exact LeO.none _
   | refine LeO.ite ?_ ?_
   | refine LeO.bind ?_ (fun _ => ?_)
theorem impl_SameNumber.mono : ∀ a0 a1 k, LeO (impl_SameNumber.f k a0 a1) (impl_SameNumber.f (k + 1) a0 a1) := by
 intro a0 a1 k
 have ih0 := impl_SameNumber.mono_l k
 unfold impl_SameNumber.f
 repeat' first
   | (with_reducible exact ih0 _ _ _)
   | (with_reducible exact LeO.refl _)
   | (with_reducible exact LeO.none _)
   | (with_reducible refine LeO.ite ?_ ?_)
   | (with_reducible refine LeO.bind ?_ (fun _ => ?_))
   | exact ih0 _ _ _
   | exact LeO.none _
   | refine LeO.ite ?_ ?_
   | refine LeO.bind ?_ (fun _ => ?_)
set_option maxHeartbeats 8000000 in
set_option maxRecDepth 100000 in
theorem impl_SameNumber.calls (k : Nat) (a0 : Nat) (a1 : Nat) (r : Bool) (w : World) (h : impl_SameNumber.f k a0 a1 = some r) :
  Calls Try.prog 147 #[.float .f32 a0, .float .f32 a1] w fun e w' => e = .returned (.bool r) ∧ Drawn0 w w' := by
 have H : ((impl_isNaN.f a0).bind fun t452 => (if t452 = true then (impl_SameNumber.j0 k a0 a1 true) else ((impl_isNaN.f a1).bind fun t453 => (impl_SameNumber.j0 k a0 a1 t453)))) = some r := h
 clear h
 have HC3 := Aside0.mk H
 clear H
 go_enter Try.func147, Try.ntmps147
 go_upto_region 1 with (fail)
 go_cut [10] (fun v10 wc => ∃ (kq : Nat) (x10_2 : Bool), v10 = .bool x10_2 ∧ Aside0 (impl_SameNumber.j0 kq a0 a1 x10_2 = some r) ∧ Aside0 (kq ≤ k) ∧ Drawn0 w wc)
 case first =>
  have H := HC3.out
  clear HC3
  replace H := Option.bind_eq_some_iff.mp H
  obtain ⟨t452, A40, H⟩ := H
  try dsimp only at H
  have A4 := Aside0.mk A40
  clear A40
  by_cases c5 : t452 = true
  ·subst c5
   rw [if_pos rfl] at H; try dsimp only at H
   have H' := Aside0.mk H
   clear H
   go_wp2_with (first | ((with_reducible refine gate_callee (f := 139) rfl ?_); refine gx_ (some 6) Try.func139 #[.float .f32 a0] ?_; (with_reducible refine (impl_isNaN.calls a0 true _ A4.out).mono ?_); rintro e w' ⟨rfl, ⟨nd, rfl⟩⟩; refine ⟨_, rfl, ?_⟩))
   go_meet
   case rel => exact ⟨_, (true), rs_, H', ⟨by exact om_⟩, dr_⟩
  ·replace c5 := Bool.eq_false_iff.mpr c5
   subst c5
   have H1 : ((impl_isNaN.f a1).bind fun t453 => (impl_SameNumber.j0 k a0 a1 t453)) = some r := by rw [if_neg (show ¬ (false = true) by decide)] at H; exact H
   clear H
   have H := H1
   clear H1
   replace H := Option.bind_eq_some_iff.mp H
   obtain ⟨t453, A60, H⟩ := H
   try dsimp only at H
   have A6 := Aside0.mk A60
   clear A60
   have H' := Aside0.mk H
   clear H
   go_wp2_with (first | ((with_reducible refine gate_callee (f := 139) rfl ?_); refine gx_ (some 6) Try.func139 #[.float .f32 a0] ?_; (with_reducible refine (impl_isNaN.calls a0 false _ A4.out).mono ?_); rintro e w' ⟨rfl, ⟨nd, rfl⟩⟩; refine ⟨_, rfl, ?_⟩) | (go_at_call 139; (with_reducible refine (impl_isNaN.calls a1 t453 _ A6.out).mono ?_); rintro e w' ⟨rfl, ⟨nd, rfl⟩⟩))
   go_meet
   case rel => exact ⟨_, (t453), rs_, H', ⟨by exact om_⟩, dr_⟩
 case rest =>
  clear HC3
  try clear c1
  try clear p2
  try clear c5
  obtain ⟨kq, x10_2, rfl, HA, HJ2, ⟨mc2, rfl⟩⟩ := hcut
  cases kq with
  | zero => exact absurd HA.out (by simp [impl_SameNumber.j0])
  | succ kj2 =>
   have H := HA.out
   clear HA
   simp only [impl_SameNumber.j0] at H
   by_cases c7 : x10_2 = true
   ·subst c7
    rw [if_pos rfl] at H; try dsimp only at H
    replace H := Option.bind_eq_some_iff.mp H
    obtain ⟨t454, A80, H⟩ := H
    try dsimp only at H
    have A8 := Aside0.mk A80
    clear A80
    by_cases c9 : t454 = true
    ·subst c9
     rw [if_pos rfl] at H; try dsimp only at H
     replace H := Option.bind_eq_some_iff.mp H
     obtain ⟨t455, A100, H⟩ := H
     try dsimp only at H
     have A10 := Aside0.mk A100
     clear A100
     obtain rfl := Option.some.inj H
     go_wp2_with (first | ((with_reducible refine gate_callee (f := 139) rfl ?_); refine gx_ (some 12) Try.func139 #[.float .f32 a0] ?_; (with_reducible refine (impl_isNaN.calls a0 true _ A8.out).mono ?_); rintro e w' ⟨rfl, ⟨nd, rfl⟩⟩; refine ⟨_, rfl, ?_⟩) | (go_at_call 139; (with_reducible refine (impl_isNaN.calls a1 t455 _ A10.out).mono ?_); rintro e w' ⟨rfl, ⟨nd, rfl⟩⟩))
     go_ret
     exact ⟨rs_, dr_⟩
    ·replace c9 := Bool.eq_false_iff.mpr c9
     subst c9
     have H1 : (some false) = some r := by rw [if_neg (show ¬ (false = true) by decide)] at H; exact H
     clear H
     have H := H1
     clear H1
     obtain rfl := Option.some.inj H
     go_wp2_with (first | ((with_reducible refine gate_callee (f := 139) rfl ?_); refine gx_ (some 12) Try.func139 #[.float .f32 a0] ?_; (with_reducible refine (impl_isNaN.calls a0 false _ A8.out).mono ?_); rintro e w' ⟨rfl, ⟨nd, rfl⟩⟩; refine ⟨_, rfl, ?_⟩))
     go_ret
     exact ⟨rs_, dr_⟩
   ·replace c7 := Bool.eq_false_iff.mpr c7
    subst c7
    have H1 : (some ((bitsI a0) == (bitsI a1))) = some r := by rw [if_neg (show ¬ (false = true) by decide)] at H; exact H
    clear H
    have H := H1
    clear H1
    obtain rfl := Option.some.inj H
    go_wp2
    go_ret
    exact ⟨rs_, dr_⟩

end Go.Proofs.Ytcgpomicgbmdlaa.PFnCommon
namespace Go.Proofs.Ytcgpomicgbmdlaa.PFnCommon
open Go.RowKit Go.Proofs.YtcgpomicgbmdlaaW.PrintWords Go.Proofs.YtcgpomicgbmdlaaW.PrintLast Go.Proofs.YtcgpomicgbmdlaaW.PrintMore
attribute [local go_sem] max2_int min2_int max_two min_two max_three min_three max_four min_four   -- for this text's walks alone
set_option linter.unusedVariables false
set_option linter.unusedSimpArgs false

/-! ### impl_SameComplex: function 108 -/
def impl_SameComplex.f (k : Nat) (a0 : Cx) (a1 : Cx) : Option (Bool) := (impl_SameNumber.f k a0.re a1.re).bind fun t456 => (if t456 = true then ((impl_SameNumber.f k a0.im a1.im).bind fun t457 => (some t457)) else (some false))
theorem impl_SameComplex.mono : ∀ a0 a1 k, LeO (impl_SameComplex.f k a0 a1) (impl_SameComplex.f (k + 1) a0 a1) := by
 intro a0 a1 k
 unfold impl_SameComplex.f
 repeat' first
   | (with_reducible exact impl_SameNumber.mono _ _ _)
   | (with_reducible exact LeO.refl _)
   | (with_reducible exact LeO.none _)
   | (with_reducible refine LeO.ite ?_ ?_)
   | (with_reducible refine LeO.bind ?_ (fun _ => ?_))
   | exact impl_SameNumber.mono _ _ _
   | exact LeO.none _
   | refine LeO.ite ?_ ?_
   | refine LeO.bind ?_ (fun _ => ?_)
set_option maxHeartbeats 8000000 in
set_option maxRecDepth 100000 in
theorem impl_SameComplex.calls (k : Nat) (a0 : Cx) (a1 : Cx) (r : Bool) (w : World) (h : impl_SameComplex.f k a0 a1 = some r) :
  Calls Try.prog 108 #[.complex .f32 a0.re a0.im, .complex .f32 a1.re a1.im] w fun e w' => e = .returned (.bool r) ∧ Below w.heap.size w w' := by
 have HB := Aside0.mk (Below.refl w.heap.size w)
 have H : ((impl_SameNumber.f k a0.re a1.re).bind fun t456 => (if t456 = true then ((impl_SameNumber.f k a0.im a1.im).bind fun t457 => (some t457)) else (some false))) = some r := h
 clear h
 replace H := Option.bind_eq_some_iff.mp H
 obtain ⟨t456, A30, H⟩ := H
 try dsimp only at H
 have A3 := Aside0.mk A30
 clear A30
 by_cases c4 : t456 = true
 ·subst c4
  rw [if_pos rfl] at H; try dsimp only at H
  replace H := Option.bind_eq_some_iff.mp H
  obtain ⟨t457, A50, H⟩ := H
  try dsimp only at H
  have A5 := Aside0.mk A50
  clear A50
  obtain rfl := Option.some.inj H
  go_enter Try.func108, Try.ntmps108
  go_wp2_with (first | ((with_reducible refine gate_callee (f := 147) rfl ?_); refine gx_ (some 9) Try.func147 #[.float .f32 a0.re, .float .f32 a1.re] ?_; (with_reducible refine (impl_SameNumber.calls k a0.re a1.re true _ A3.out).mono ?_); rintro e w' ⟨rfl, ⟨nd, rfl⟩⟩; refine ⟨_, rfl, ?_⟩) | (go_at_call 147; (with_reducible refine (impl_SameNumber.calls k a0.im a1.im t457 _ A5.out).mono ?_); rintro e w' ⟨rfl, ⟨nd, rfl⟩⟩))
  go_ret
  exact ⟨re_, tb⟩
 ·replace c4 := Bool.eq_false_iff.mpr c4
  subst c4
  have H1 : (some false) = some r := by rw [if_neg (show ¬ (false = true) by decide)] at H; exact H
  clear H
  have H := H1
  clear H1
  obtain rfl := Option.some.inj H
  go_enter Try.func108, Try.ntmps108
  go_wp2_with (first | ((with_reducible refine gate_callee (f := 147) rfl ?_); refine gx_ (some 9) Try.func147 #[.float .f32 a0.re, .float .f32 a1.re] ?_; (with_reducible refine (impl_SameNumber.calls k a0.re a1.re false _ A3.out).mono ?_); rintro e w' ⟨rfl, ⟨nd, rfl⟩⟩; refine ⟨_, rfl, ?_⟩))
  go_ret
  exact ⟨re_, tb⟩

end Go.Proofs.Ytcgpomicgbmdlaa.PFnCommon
