-- Words and walks of the print, as far as this claim uses them (laid by wip/mkclaim.py of this session). Lean checks it.
import Derived.Test.YtcgpomicgbmdlaaFl
import Derived.Test.YtcgpomicgbmdlaaPFnCommonm0
import Derived.Test.YtcgpomicgbmdlaaPFnCommonm4
namespace Go.Proofs.Ytcgpomicgbmdlaa.PFnCommon
open Go.RowKit Go.Proofs.YtcgpomicgbmdlaaW.PrintWords Go.Proofs.YtcgpomicgbmdlaaW.PrintLast Go.Proofs.YtcgpomicgbmdlaaW.PrintMore
attribute [local go_sem] max2_int min2_int max_two min_two max_three min_three max_four min_four   -- for this text's walks alone
set_option linter.unusedVariables false
set_option linter.unusedSimpArgs false

/-! ### impl_PhasesOf: function 44 -/
def impl_PhasesOf.f (k : Nat) (a0_0 : Cx) (a0_1 : Cx) (a0_2 : Cx) : Option (Cx × Cx × Cx) := (impl_turns.f k).bind fun bt303 => (if fok .add .f32 a0_0.re a0_1.re = true then (if fok .add .f32 a0_0.im a0_1.im = true then (if fok .add .f32 (fv .add .f32 a0_0.re a0_1.re) a0_2.re = true then (if fok .add .f32 (fv .add .f32 a0_0.im a0_1.im) a0_2.im = true then ((impl_MulComplex.f bt303.2 a0_1).bind fun t305 => (if fok .add .f32 a0_0.re t305.re = true then (if fok .add .f32 a0_0.im t305.im = true then ((impl_MulComplex.f bt303.1 a0_2).bind fun t306 => (if fok .add .f32 (fv .add .f32 a0_0.re t305.re) t306.re = true then (if fok .add .f32 (fv .add .f32 a0_0.im t305.im) t306.im = true then ((impl_MulComplex.f bt303.1 a0_1).bind fun t307 => (if fok .add .f32 a0_0.re t307.re = true then (if fok .add .f32 a0_0.im t307.im = true then ((impl_MulComplex.f bt303.2 a0_2).bind fun t308 => (if fok .add .f32 (fv .add .f32 a0_0.re t307.re) t308.re = true then (if fok .add .f32 (fv .add .f32 a0_0.im t307.im) t308.im = true then (some ((⟨fv .add .f32 (fv .add .f32 a0_0.re a0_1.re) a0_2.re, fv .add .f32 (fv .add .f32 a0_0.im a0_1.im) a0_2.im⟩ : Cx), (⟨fv .add .f32 (fv .add .f32 a0_0.re t305.re) t306.re, fv .add .f32 (fv .add .f32 a0_0.im t305.im) t306.im⟩ : Cx), (⟨fv .add .f32 (fv .add .f32 a0_0.re t307.re) t308.re, fv .add .f32 (fv .add .f32 a0_0.im t307.im) t308.im⟩ : Cx))) else (none)) else (none))) else (none)) else (none))) else (none)) else (none))) else (none)) else (none))) else (none)) else (none)) else (none)) else (none))
theorem impl_PhasesOf.mono : ∀ a0 a1 a2 k, LeO (impl_PhasesOf.f k a0 a1 a2) (impl_PhasesOf.f (k + 1) a0 a1 a2) := by
 intro a0 a1 a2 k
 unfold impl_PhasesOf.f
 repeat' first
   | (with_reducible exact impl_turns.mono _)
   | (with_reducible exact LeO.refl _)
   | (with_reducible exact LeO.none _)
   | (with_reducible refine LeO.ite ?_ ?_)
   | (with_reducible refine LeO.bind ?_ (fun _ => ?_))
   | exact impl_turns.mono _
   | exact LeO.none _
   | refine LeO.ite ?_ ?_
   | refine LeO.bind ?_ (fun _ => ?_)
set_option maxHeartbeats 8000000 in
set_option maxRecDepth 100000 in
theorem impl_PhasesOf.calls (k : Nat) (a0_0 : Cx) (a0_1 : Cx) (a0_2 : Cx) (r1 : Cx) (r2 : Cx) (r3 : Cx) (w : World) (h : impl_PhasesOf.f k a0_0 a0_1 a0_2 = some (r1, r2, r3)) :
  Calls Try.prog 44 #[.agg #[.complex .f32 a0_0.re a0_0.im, .complex .f32 a0_1.re a0_1.im, .complex .f32 a0_2.re a0_2.im]] w fun e w' => e = .returned (.agg #[.complex .f32 r1.re r1.im, .complex .f32 r2.re r2.im, .complex .f32 r3.re r3.im]) ∧ Below w.heap.size w w' := by
 have hu80 := Try.underlying80
 have hu39 := Try.underlying39
 have HB := Aside0.mk (Below.refl w.heap.size w)
 have H : ((impl_turns.f k).bind fun bt303 => (if fok .add .f32 a0_0.re a0_1.re = true then (if fok .add .f32 a0_0.im a0_1.im = true then (if fok .add .f32 (fv .add .f32 a0_0.re a0_1.re) a0_2.re = true then (if fok .add .f32 (fv .add .f32 a0_0.im a0_1.im) a0_2.im = true then ((impl_MulComplex.f bt303.2 a0_1).bind fun t305 => (if fok .add .f32 a0_0.re t305.re = true then (if fok .add .f32 a0_0.im t305.im = true then ((impl_MulComplex.f bt303.1 a0_2).bind fun t306 => (if fok .add .f32 (fv .add .f32 a0_0.re t305.re) t306.re = true then (if fok .add .f32 (fv .add .f32 a0_0.im t305.im) t306.im = true then ((impl_MulComplex.f bt303.1 a0_1).bind fun t307 => (if fok .add .f32 a0_0.re t307.re = true then (if fok .add .f32 a0_0.im t307.im = true then ((impl_MulComplex.f bt303.2 a0_2).bind fun t308 => (if fok .add .f32 (fv .add .f32 a0_0.re t307.re) t308.re = true then (if fok .add .f32 (fv .add .f32 a0_0.im t307.im) t308.im = true then (some ((⟨fv .add .f32 (fv .add .f32 a0_0.re a0_1.re) a0_2.re, fv .add .f32 (fv .add .f32 a0_0.im a0_1.im) a0_2.im⟩ : Cx), (⟨fv .add .f32 (fv .add .f32 a0_0.re t305.re) t306.re, fv .add .f32 (fv .add .f32 a0_0.im t305.im) t306.im⟩ : Cx), (⟨fv .add .f32 (fv .add .f32 a0_0.re t307.re) t308.re, fv .add .f32 (fv .add .f32 a0_0.im t307.im) t308.im⟩ : Cx))) else (none)) else (none))) else (none)) else (none))) else (none)) else (none))) else (none)) else (none))) else (none)) else (none)) else (none)) else (none))) = some (r1, r2, r3) := h
 clear h
 replace H := Option.bind_eq_some_iff.mp H
 obtain ⟨⟨t303, t304⟩, A20, H⟩ := H
 try dsimp only at H
 have A2 := Aside0.mk A20
 clear A20
 by_cases c3 : fok .add .f32 a0_0.re a0_1.re = true
 ·rw [if_pos c3] at H
  have c3b0 := eq_true c3
  have c3b1 : decide (fok .add .f32 a0_0.re a0_1.re = true) = true := decide_eq_true c3
  clear c3
  by_cases c4 : fok .add .f32 a0_0.im a0_1.im = true
  ·rw [if_pos c4] at H
   have c4b0 := eq_true c4
   have c4b1 : decide (fok .add .f32 a0_0.im a0_1.im = true) = true := decide_eq_true c4
   clear c4
   by_cases c5 : fok .add .f32 (fv .add .f32 a0_0.re a0_1.re) a0_2.re = true
   ·rw [if_pos c5] at H
    have c5b0 := eq_true c5
    have c5b1 : decide (fok .add .f32 (fv .add .f32 a0_0.re a0_1.re) a0_2.re = true) = true := decide_eq_true c5
    clear c5
    by_cases c6 : fok .add .f32 (fv .add .f32 a0_0.im a0_1.im) a0_2.im = true
    ·rw [if_pos c6] at H
     have c6b0 := eq_true c6
     have c6b1 : decide (fok .add .f32 (fv .add .f32 a0_0.im a0_1.im) a0_2.im = true) = true := decide_eq_true c6
     clear c6
     replace H := Option.bind_eq_some_iff.mp H
     obtain ⟨t305, A70, H⟩ := H
     try dsimp only at H
     have A7 := Aside0.mk A70
     clear A70
     by_cases c8 : fok .add .f32 a0_0.re t305.re = true
     ·rw [if_pos c8] at H
      have c8b0 := eq_true c8
      have c8b1 : decide (fok .add .f32 a0_0.re t305.re = true) = true := decide_eq_true c8
      clear c8
      by_cases c9 : fok .add .f32 a0_0.im t305.im = true
      ·rw [if_pos c9] at H
       have c9b0 := eq_true c9
       have c9b1 : decide (fok .add .f32 a0_0.im t305.im = true) = true := decide_eq_true c9
       clear c9
       replace H := Option.bind_eq_some_iff.mp H
       obtain ⟨t306, A100, H⟩ := H
       try dsimp only at H
       have A10 := Aside0.mk A100
       clear A100
       by_cases c11 : fok .add .f32 (fv .add .f32 a0_0.re t305.re) t306.re = true
       ·rw [if_pos c11] at H
        have c11b0 := eq_true c11
        have c11b1 : decide (fok .add .f32 (fv .add .f32 a0_0.re t305.re) t306.re = true) = true := decide_eq_true c11
        clear c11
        by_cases c12 : fok .add .f32 (fv .add .f32 a0_0.im t305.im) t306.im = true
        ·rw [if_pos c12] at H
         have c12b0 := eq_true c12
         have c12b1 : decide (fok .add .f32 (fv .add .f32 a0_0.im t305.im) t306.im = true) = true := decide_eq_true c12
         clear c12
         replace H := Option.bind_eq_some_iff.mp H
         obtain ⟨t307, A130, H⟩ := H
         try dsimp only at H
         have A13 := Aside0.mk A130
         clear A130
         by_cases c14 : fok .add .f32 a0_0.re t307.re = true
         ·rw [if_pos c14] at H
          have c14b0 := eq_true c14
          have c14b1 : decide (fok .add .f32 a0_0.re t307.re = true) = true := decide_eq_true c14
          clear c14
          by_cases c15 : fok .add .f32 a0_0.im t307.im = true
          ·rw [if_pos c15] at H
           have c15b0 := eq_true c15
           have c15b1 : decide (fok .add .f32 a0_0.im t307.im = true) = true := decide_eq_true c15
           clear c15
           replace H := Option.bind_eq_some_iff.mp H
           obtain ⟨t308, A160, H⟩ := H
           try dsimp only at H
           have A16 := Aside0.mk A160
           clear A160
           by_cases c17 : fok .add .f32 (fv .add .f32 a0_0.re t307.re) t308.re = true
           ·rw [if_pos c17] at H
            have c17b0 := eq_true c17
            have c17b1 : decide (fok .add .f32 (fv .add .f32 a0_0.re t307.re) t308.re = true) = true := decide_eq_true c17
            clear c17
            by_cases c18 : fok .add .f32 (fv .add .f32 a0_0.im t307.im) t308.im = true
            ·rw [if_pos c18] at H
             have c18b0 := eq_true c18
             have c18b1 : decide (fok .add .f32 (fv .add .f32 a0_0.im t307.im) t308.im = true) = true := decide_eq_true c18
             clear c18
             simp only [Option.some.injEq, Prod.mk.injEq] at H
             obtain ⟨rfl, rfl, rfl⟩ := H
             go_enter Try.func44, Try.ntmps44
             go_wp2_with (first | ((with_reducible refine gate_dst (N := 1) rfl ?_); refine box_event ?hg (N := 1) ?hd (cs := #[.complex .f32 a0_0.re a0_0.im, .complex .f32 a0_1.re a0_1.im, .complex .f32 a0_2.re a0_2.im]) (t := 80) ?hr ?_; (case hd => rfl); (case hg => rfl); (case hr => first | (go_simp; done) | (go_simp; rfl)); intro gb301 hg w19 hbox hb; have n0_ := Aside0.mk (below_step tb hb); have n1_ := Aside0.mk (hbox); have n2_ := Aside0.mk ((by rw [hg]; exact (below_size tb) : w.heap.size ≤ gb301)); have n3_ := Aside0.mk ((by rw [hg]; exact (below_size tb) : w.heap.size ≤ gb301)); clear HB; have HB := n0_; have BK301 := n1_; have GW301 := n2_; have GE301 := n3_; clear n0_ n1_ n2_ n3_; clear hb hbox hg) | ((with_reducible refine gate_dst (N := 2) rfl ?_); refine box_event ?hg (N := 2) ?hd (cs := #[.complex .f32 0 0, .complex .f32 0 0, .complex .f32 0 0]) (t := 39) ?hr ?_; (case hd => rfl); (case hg => rfl); (case hr => first | (go_simp; done) | (go_simp; rfl)); intro gb302 hg w20 hbox hb; have n0_ := Aside0.mk (blk_below (g := gb301) (o := .cells #[.complex .f32 a0_0.re a0_0.im, .complex .f32 a0_1.re a0_1.im, .complex .f32 a0_2.re a0_2.im] 80 (0, 0)) (bu BK301.out) hb); have n1_ := Aside0.mk (below_step tb hb); have n2_ := Aside0.mk (hbox); have n3_ := Aside0.mk ((by rw [hg]; exact (below_size tb) : w.heap.size ≤ gb302)); have n4_ := Aside0.mk ((by rw [hg]; exact (below_size tb) : w.heap.size ≤ gb302)); have n5_ := Aside0.mk ((by rw [hg]; exact Nat.ne_of_lt (blk_lt (g := gb301) (o := .cells #[.complex .f32 a0_0.re a0_0.im, .complex .f32 a0_1.re a0_1.im, .complex .f32 a0_2.re a0_2.im] 80 (0, 0)) (bu BK301.out)) : gb301 ≠ gb302)); have n6_ := Aside0.mk ((by rw [hg]; exact Nat.ne_of_gt (blk_lt (g := gb301) (o := .cells #[.complex .f32 a0_0.re a0_0.im, .complex .f32 a0_1.re a0_1.im, .complex .f32 a0_2.re a0_2.im] 80 (0, 0)) (bu BK301.out)) : gb302 ≠ gb301)); clear BK301; clear HB; have BK301 := n0_; have HB := n1_; have BK302 := n2_; have GW302 := n3_; have GE302 := n4_; have NB301_302 := n5_; have NB302_301 := n6_; clear n0_ n1_ n2_ n3_ n4_ n5_ n6_; clear hb hbox hg) | (go_at_call 104; (with_reducible refine (impl_turns.calls k  t303 t304 _ A2.out).mono ?_); rintro e w21 ⟨rfl, hb⟩; have n0_ := Aside0.mk (blk_below (g := gb301) (o := .cells #[.complex .f32 a0_0.re a0_0.im, .complex .f32 a0_1.re a0_1.im, .complex .f32 a0_2.re a0_2.im] 80 (0, 0)) (bu BK301.out) hb); have n1_ := Aside0.mk (blk_below (g := gb302) (o := .cells #[.complex .f32 0 0, .complex .f32 0 0, .complex .f32 0 0] 39 (0, 0)) (bu BK302.out) hb); have n2_ := Aside0.mk (below_step tb hb); clear BK301; clear BK302; clear HB; have BK301 := n0_; have BK302 := n1_; have HB := n2_; clear n0_ n1_ n2_; (try clear hb); (try clear hb2); (try clear hk); (try clear hi); have hnb22 := NB301_302.out; have hnc22 := NB302_301.out; have hcz23_0 : w21.cell? ⟨gb301, 0, none⟩ = some (.complex .f32 a0_0.re a0_0.im) := (blk_cell BK301.out 0).trans rfl; have hcz23_1 : w21.cell? ⟨gb301, 1, none⟩ = some (.complex .f32 a0_1.re a0_1.im) := (blk_cell BK301.out 1).trans rfl; have hcz23_2 : w21.cell? ⟨gb301, 2, none⟩ = some (.complex .f32 a0_2.re a0_2.im) := (blk_cell BK301.out 2).trans rfl; have hfz23_0 := blk_frozen BK301.out 0; have hfz23_1 := blk_frozen BK301.out 1; have hfz23_2 := blk_frozen BK301.out 2) | (go_at_call 71; (with_reducible refine (impl_MulComplex.calls t304 a0_1 t305 _ A7.out).mono ?_); rintro e w24 ⟨rfl, hb⟩; have n0_ := Aside0.mk (blk_below (g := gb301) (o := .cells #[.complex .f32 a0_0.re a0_0.im, .complex .f32 a0_1.re a0_1.im, .complex .f32 a0_2.re a0_2.im] 80 (0, 0)) (bu BK301.out) hb); have n1_ := Aside0.mk (blk_below (g := gb302) (o := .cells #[.complex .f32 0 0, .complex .f32 0 0, .complex .f32 0 0] 39 (0, 0)) (bu BK302.out) hb); have n2_ := Aside0.mk (below_step tb hb); clear BK301; clear BK302; clear HB; have BK301 := n0_; have BK302 := n1_; have HB := n2_; clear n0_ n1_ n2_; (try clear hb); (try clear hb2); (try clear hk); (try clear hi)) | (go_at_call 71; (with_reducible refine (impl_MulComplex.calls t303 a0_2 t306 _ A10.out).mono ?_); rintro e w25 ⟨rfl, hb⟩; have n0_ := Aside0.mk (blk_below (g := gb301) (o := .cells #[.complex .f32 a0_0.re a0_0.im, .complex .f32 a0_1.re a0_1.im, .complex .f32 a0_2.re a0_2.im] 80 (0, 0)) (bu BK301.out) hb); have n1_ := Aside0.mk (blk_below (g := gb302) (o := .cells #[.complex .f32 0 0, .complex .f32 0 0, .complex .f32 0 0] 39 (0, 0)) (bu BK302.out) hb); have n2_ := Aside0.mk (below_step tb hb); clear BK301; clear BK302; clear HB; have BK301 := n0_; have BK302 := n1_; have HB := n2_; clear n0_ n1_ n2_; (try clear hb); (try clear hb2); (try clear hk); (try clear hi)) | (go_at_call 71; (with_reducible refine (impl_MulComplex.calls t303 a0_1 t307 _ A13.out).mono ?_); rintro e w26 ⟨rfl, hb⟩; have n0_ := Aside0.mk (blk_below (g := gb301) (o := .cells #[.complex .f32 a0_0.re a0_0.im, .complex .f32 a0_1.re a0_1.im, .complex .f32 a0_2.re a0_2.im] 80 (0, 0)) (bu BK301.out) hb); have n1_ := Aside0.mk (blk_below (g := gb302) (o := .cells #[.complex .f32 0 0, .complex .f32 0 0, .complex .f32 0 0] 39 (0, 0)) (bu BK302.out) hb); have n2_ := Aside0.mk (below_step tb hb); clear BK301; clear BK302; clear HB; have BK301 := n0_; have BK302 := n1_; have HB := n2_; clear n0_ n1_ n2_; (try clear hb); (try clear hb2); (try clear hk); (try clear hi)) | (go_at_call 71; (with_reducible refine (impl_MulComplex.calls t304 a0_2 t308 _ A16.out).mono ?_); rintro e w27 ⟨rfl, hb⟩; have n0_ := Aside0.mk (blk_below (g := gb301) (o := .cells #[.complex .f32 a0_0.re a0_0.im, .complex .f32 a0_1.re a0_1.im, .complex .f32 a0_2.re a0_2.im] 80 (0, 0)) (bu BK301.out) hb); have n1_ := Aside0.mk (blk_below (g := gb302) (o := .cells #[.complex .f32 0 0, .complex .f32 0 0, .complex .f32 0 0] 39 (0, 0)) (bu BK302.out) hb); have n2_ := Aside0.mk (below_step tb hb); clear BK301; clear BK302; clear HB; have BK301 := n0_; have BK302 := n1_; have HB := n2_; clear n0_ n1_ n2_; (try clear hb); (try clear hb2); (try clear hk); (try clear hi); have hcz28_0 : w27.cell? ⟨gb302, 0, none⟩ = some (.complex .f32 0 0) := (blk_cell BK302.out 0).trans rfl; have hcz28_1 : w27.cell? ⟨gb302, 1, none⟩ = some (.complex .f32 0 0) := (blk_cell BK302.out 1).trans rfl; have hcz28_2 : w27.cell? ⟨gb302, 2, none⟩ = some (.complex .f32 0 0) := (blk_cell BK302.out 2).trans rfl; have hfz28_0 := blk_frozen BK302.out 0; have hfz28_1 := blk_frozen BK302.out 1; have hfz28_2 := blk_frozen BK302.out 2))
             repeat (go_quiet (first | ((with_reducible refine gate_dst (N := 1) rfl ?_); refine box_event ?hg (N := 1) ?hd (cs := #[.complex .f32 a0_0.re a0_0.im, .complex .f32 a0_1.re a0_1.im, .complex .f32 a0_2.re a0_2.im]) (t := 80) ?hr ?_; (case hd => rfl); (case hg => rfl); (case hr => first | (go_simp; done) | (go_simp; rfl)); intro gb301 hg w19 hbox hb; have n0_ := Aside0.mk (below_step tb hb); have n1_ := Aside0.mk (hbox); have n2_ := Aside0.mk ((by rw [hg]; exact (below_size tb) : w.heap.size ≤ gb301)); have n3_ := Aside0.mk ((by rw [hg]; exact (below_size tb) : w.heap.size ≤ gb301)); clear HB; have HB := n0_; have BK301 := n1_; have GW301 := n2_; have GE301 := n3_; clear n0_ n1_ n2_ n3_; clear hb hbox hg) | ((with_reducible refine gate_dst (N := 2) rfl ?_); refine box_event ?hg (N := 2) ?hd (cs := #[.complex .f32 0 0, .complex .f32 0 0, .complex .f32 0 0]) (t := 39) ?hr ?_; (case hd => rfl); (case hg => rfl); (case hr => first | (go_simp; done) | (go_simp; rfl)); intro gb302 hg w20 hbox hb; have n0_ := Aside0.mk (blk_below (g := gb301) (o := .cells #[.complex .f32 a0_0.re a0_0.im, .complex .f32 a0_1.re a0_1.im, .complex .f32 a0_2.re a0_2.im] 80 (0, 0)) (bu BK301.out) hb); have n1_ := Aside0.mk (below_step tb hb); have n2_ := Aside0.mk (hbox); have n3_ := Aside0.mk ((by rw [hg]; exact (below_size tb) : w.heap.size ≤ gb302)); have n4_ := Aside0.mk ((by rw [hg]; exact (below_size tb) : w.heap.size ≤ gb302)); have n5_ := Aside0.mk ((by rw [hg]; exact Nat.ne_of_lt (blk_lt (g := gb301) (o := .cells #[.complex .f32 a0_0.re a0_0.im, .complex .f32 a0_1.re a0_1.im, .complex .f32 a0_2.re a0_2.im] 80 (0, 0)) (bu BK301.out)) : gb301 ≠ gb302)); have n6_ := Aside0.mk ((by rw [hg]; exact Nat.ne_of_gt (blk_lt (g := gb301) (o := .cells #[.complex .f32 a0_0.re a0_0.im, .complex .f32 a0_1.re a0_1.im, .complex .f32 a0_2.re a0_2.im] 80 (0, 0)) (bu BK301.out)) : gb302 ≠ gb301)); clear BK301; clear HB; have BK301 := n0_; have HB := n1_; have BK302 := n2_; have GW302 := n3_; have GE302 := n4_; have NB301_302 := n5_; have NB302_301 := n6_; clear n0_ n1_ n2_ n3_ n4_ n5_ n6_; clear hb hbox hg) | (go_at_call 104; (with_reducible refine (impl_turns.calls k  t303 t304 _ A2.out).mono ?_); rintro e w21 ⟨rfl, hb⟩; have n0_ := Aside0.mk (blk_below (g := gb301) (o := .cells #[.complex .f32 a0_0.re a0_0.im, .complex .f32 a0_1.re a0_1.im, .complex .f32 a0_2.re a0_2.im] 80 (0, 0)) (bu BK301.out) hb); have n1_ := Aside0.mk (blk_below (g := gb302) (o := .cells #[.complex .f32 0 0, .complex .f32 0 0, .complex .f32 0 0] 39 (0, 0)) (bu BK302.out) hb); have n2_ := Aside0.mk (below_step tb hb); clear BK301; clear BK302; clear HB; have BK301 := n0_; have BK302 := n1_; have HB := n2_; clear n0_ n1_ n2_; (try clear hb); (try clear hb2); (try clear hk); (try clear hi); have hnb22 := NB301_302.out; have hnc22 := NB302_301.out; have hcz23_0 : w21.cell? ⟨gb301, 0, none⟩ = some (.complex .f32 a0_0.re a0_0.im) := (blk_cell BK301.out 0).trans rfl; have hcz23_1 : w21.cell? ⟨gb301, 1, none⟩ = some (.complex .f32 a0_1.re a0_1.im) := (blk_cell BK301.out 1).trans rfl; have hcz23_2 : w21.cell? ⟨gb301, 2, none⟩ = some (.complex .f32 a0_2.re a0_2.im) := (blk_cell BK301.out 2).trans rfl; have hfz23_0 := blk_frozen BK301.out 0; have hfz23_1 := blk_frozen BK301.out 1; have hfz23_2 := blk_frozen BK301.out 2) | (go_at_call 71; (with_reducible refine (impl_MulComplex.calls t304 a0_1 t305 _ A7.out).mono ?_); rintro e w24 ⟨rfl, hb⟩; have n0_ := Aside0.mk (blk_below (g := gb301) (o := .cells #[.complex .f32 a0_0.re a0_0.im, .complex .f32 a0_1.re a0_1.im, .complex .f32 a0_2.re a0_2.im] 80 (0, 0)) (bu BK301.out) hb); have n1_ := Aside0.mk (blk_below (g := gb302) (o := .cells #[.complex .f32 0 0, .complex .f32 0 0, .complex .f32 0 0] 39 (0, 0)) (bu BK302.out) hb); have n2_ := Aside0.mk (below_step tb hb); clear BK301; clear BK302; clear HB; have BK301 := n0_; have BK302 := n1_; have HB := n2_; clear n0_ n1_ n2_; (try clear hb); (try clear hb2); (try clear hk); (try clear hi)) | (go_at_call 71; (with_reducible refine (impl_MulComplex.calls t303 a0_2 t306 _ A10.out).mono ?_); rintro e w25 ⟨rfl, hb⟩; have n0_ := Aside0.mk (blk_below (g := gb301) (o := .cells #[.complex .f32 a0_0.re a0_0.im, .complex .f32 a0_1.re a0_1.im, .complex .f32 a0_2.re a0_2.im] 80 (0, 0)) (bu BK301.out) hb); have n1_ := Aside0.mk (blk_below (g := gb302) (o := .cells #[.complex .f32 0 0, .complex .f32 0 0, .complex .f32 0 0] 39 (0, 0)) (bu BK302.out) hb); have n2_ := Aside0.mk (below_step tb hb); clear BK301; clear BK302; clear HB; have BK301 := n0_; have BK302 := n1_; have HB := n2_; clear n0_ n1_ n2_; (try clear hb); (try clear hb2); (try clear hk); (try clear hi)) | (go_at_call 71; (with_reducible refine (impl_MulComplex.calls t303 a0_1 t307 _ A13.out).mono ?_); rintro e w26 ⟨rfl, hb⟩; have n0_ := Aside0.mk (blk_below (g := gb301) (o := .cells #[.complex .f32 a0_0.re a0_0.im, .complex .f32 a0_1.re a0_1.im, .complex .f32 a0_2.re a0_2.im] 80 (0, 0)) (bu BK301.out) hb); have n1_ := Aside0.mk (blk_below (g := gb302) (o := .cells #[.complex .f32 0 0, .complex .f32 0 0, .complex .f32 0 0] 39 (0, 0)) (bu BK302.out) hb); have n2_ := Aside0.mk (below_step tb hb); clear BK301; clear BK302; clear HB; have BK301 := n0_; have BK302 := n1_; have HB := n2_; clear n0_ n1_ n2_; (try clear hb); (try clear hb2); (try clear hk); (try clear hi)) | (go_at_call 71; (with_reducible refine (impl_MulComplex.calls t304 a0_2 t308 _ A16.out).mono ?_); rintro e w27 ⟨rfl, hb⟩; have n0_ := Aside0.mk (blk_below (g := gb301) (o := .cells #[.complex .f32 a0_0.re a0_0.im, .complex .f32 a0_1.re a0_1.im, .complex .f32 a0_2.re a0_2.im] 80 (0, 0)) (bu BK301.out) hb); have n1_ := Aside0.mk (blk_below (g := gb302) (o := .cells #[.complex .f32 0 0, .complex .f32 0 0, .complex .f32 0 0] 39 (0, 0)) (bu BK302.out) hb); have n2_ := Aside0.mk (below_step tb hb); clear BK301; clear BK302; clear HB; have BK301 := n0_; have BK302 := n1_; have HB := n2_; clear n0_ n1_ n2_; (try clear hb); (try clear hb2); (try clear hk); (try clear hi); have hcz28_0 : w27.cell? ⟨gb302, 0, none⟩ = some (.complex .f32 0 0) := (blk_cell BK302.out 0).trans rfl; have hcz28_1 : w27.cell? ⟨gb302, 1, none⟩ = some (.complex .f32 0 0) := (blk_cell BK302.out 1).trans rfl; have hcz28_2 : w27.cell? ⟨gb302, 2, none⟩ = some (.complex .f32 0 0) := (blk_cell BK302.out 2).trans rfl; have hfz28_0 := blk_frozen BK302.out 0; have hfz28_1 := blk_frozen BK302.out 1; have hfz28_2 := blk_frozen BK302.out 2)); try go_wp2_with (first | ((with_reducible refine gate_dst (N := 1) rfl ?_); refine box_event ?hg (N := 1) ?hd (cs := #[.complex .f32 a0_0.re a0_0.im, .complex .f32 a0_1.re a0_1.im, .complex .f32 a0_2.re a0_2.im]) (t := 80) ?hr ?_; (case hd => rfl); (case hg => rfl); (case hr => first | (go_simp; done) | (go_simp; rfl)); intro gb301 hg w19 hbox hb; have n0_ := Aside0.mk (below_step tb hb); have n1_ := Aside0.mk (hbox); have n2_ := Aside0.mk ((by rw [hg]; exact (below_size tb) : w.heap.size ≤ gb301)); have n3_ := Aside0.mk ((by rw [hg]; exact (below_size tb) : w.heap.size ≤ gb301)); clear HB; have HB := n0_; have BK301 := n1_; have GW301 := n2_; have GE301 := n3_; clear n0_ n1_ n2_ n3_; clear hb hbox hg) | ((with_reducible refine gate_dst (N := 2) rfl ?_); refine box_event ?hg (N := 2) ?hd (cs := #[.complex .f32 0 0, .complex .f32 0 0, .complex .f32 0 0]) (t := 39) ?hr ?_; (case hd => rfl); (case hg => rfl); (case hr => first | (go_simp; done) | (go_simp; rfl)); intro gb302 hg w20 hbox hb; have n0_ := Aside0.mk (blk_below (g := gb301) (o := .cells #[.complex .f32 a0_0.re a0_0.im, .complex .f32 a0_1.re a0_1.im, .complex .f32 a0_2.re a0_2.im] 80 (0, 0)) (bu BK301.out) hb); have n1_ := Aside0.mk (below_step tb hb); have n2_ := Aside0.mk (hbox); have n3_ := Aside0.mk ((by rw [hg]; exact (below_size tb) : w.heap.size ≤ gb302)); have n4_ := Aside0.mk ((by rw [hg]; exact (below_size tb) : w.heap.size ≤ gb302)); have n5_ := Aside0.mk ((by rw [hg]; exact Nat.ne_of_lt (blk_lt (g := gb301) (o := .cells #[.complex .f32 a0_0.re a0_0.im, .complex .f32 a0_1.re a0_1.im, .complex .f32 a0_2.re a0_2.im] 80 (0, 0)) (bu BK301.out)) : gb301 ≠ gb302)); have n6_ := Aside0.mk ((by rw [hg]; exact Nat.ne_of_gt (blk_lt (g := gb301) (o := .cells #[.complex .f32 a0_0.re a0_0.im, .complex .f32 a0_1.re a0_1.im, .complex .f32 a0_2.re a0_2.im] 80 (0, 0)) (bu BK301.out)) : gb302 ≠ gb301)); clear BK301; clear HB; have BK301 := n0_; have HB := n1_; have BK302 := n2_; have GW302 := n3_; have GE302 := n4_; have NB301_302 := n5_; have NB302_301 := n6_; clear n0_ n1_ n2_ n3_ n4_ n5_ n6_; clear hb hbox hg) | (go_at_call 104; (with_reducible refine (impl_turns.calls k  t303 t304 _ A2.out).mono ?_); rintro e w21 ⟨rfl, hb⟩; have n0_ := Aside0.mk (blk_below (g := gb301) (o := .cells #[.complex .f32 a0_0.re a0_0.im, .complex .f32 a0_1.re a0_1.im, .complex .f32 a0_2.re a0_2.im] 80 (0, 0)) (bu BK301.out) hb); have n1_ := Aside0.mk (blk_below (g := gb302) (o := .cells #[.complex .f32 0 0, .complex .f32 0 0, .complex .f32 0 0] 39 (0, 0)) (bu BK302.out) hb); have n2_ := Aside0.mk (below_step tb hb); clear BK301; clear BK302; clear HB; have BK301 := n0_; have BK302 := n1_; have HB := n2_; clear n0_ n1_ n2_; (try clear hb); (try clear hb2); (try clear hk); (try clear hi); have hnb22 := NB301_302.out; have hnc22 := NB302_301.out; have hcz23_0 : w21.cell? ⟨gb301, 0, none⟩ = some (.complex .f32 a0_0.re a0_0.im) := (blk_cell BK301.out 0).trans rfl; have hcz23_1 : w21.cell? ⟨gb301, 1, none⟩ = some (.complex .f32 a0_1.re a0_1.im) := (blk_cell BK301.out 1).trans rfl; have hcz23_2 : w21.cell? ⟨gb301, 2, none⟩ = some (.complex .f32 a0_2.re a0_2.im) := (blk_cell BK301.out 2).trans rfl; have hfz23_0 := blk_frozen BK301.out 0; have hfz23_1 := blk_frozen BK301.out 1; have hfz23_2 := blk_frozen BK301.out 2) | (go_at_call 71; (with_reducible refine (impl_MulComplex.calls t304 a0_1 t305 _ A7.out).mono ?_); rintro e w24 ⟨rfl, hb⟩; have n0_ := Aside0.mk (blk_below (g := gb301) (o := .cells #[.complex .f32 a0_0.re a0_0.im, .complex .f32 a0_1.re a0_1.im, .complex .f32 a0_2.re a0_2.im] 80 (0, 0)) (bu BK301.out) hb); have n1_ := Aside0.mk (blk_below (g := gb302) (o := .cells #[.complex .f32 0 0, .complex .f32 0 0, .complex .f32 0 0] 39 (0, 0)) (bu BK302.out) hb); have n2_ := Aside0.mk (below_step tb hb); clear BK301; clear BK302; clear HB; have BK301 := n0_; have BK302 := n1_; have HB := n2_; clear n0_ n1_ n2_; (try clear hb); (try clear hb2); (try clear hk); (try clear hi)) | (go_at_call 71; (with_reducible refine (impl_MulComplex.calls t303 a0_2 t306 _ A10.out).mono ?_); rintro e w25 ⟨rfl, hb⟩; have n0_ := Aside0.mk (blk_below (g := gb301) (o := .cells #[.complex .f32 a0_0.re a0_0.im, .complex .f32 a0_1.re a0_1.im, .complex .f32 a0_2.re a0_2.im] 80 (0, 0)) (bu BK301.out) hb); have n1_ := Aside0.mk (blk_below (g := gb302) (o := .cells #[.complex .f32 0 0, .complex .f32 0 0, .complex .f32 0 0] 39 (0, 0)) (bu BK302.out) hb); have n2_ := Aside0.mk (below_step tb hb); clear BK301; clear BK302; clear HB; have BK301 := n0_; have BK302 := n1_; have HB := n2_; clear n0_ n1_ n2_; (try clear hb); (try clear hb2); (try clear hk); (try clear hi)) | (go_at_call 71; (with_reducible refine (impl_MulComplex.calls t303 a0_1 t307 _ A13.out).mono ?_); rintro e w26 ⟨rfl, hb⟩; have n0_ := Aside0.mk (blk_below (g := gb301) (o := .cells #[.complex .f32 a0_0.re a0_0.im, .complex .f32 a0_1.re a0_1.im, .complex .f32 a0_2.re a0_2.im] 80 (0, 0)) (bu BK301.out) hb); have n1_ := Aside0.mk (blk_below (g := gb302) (o := .cells #[.complex .f32 0 0, .complex .f32 0 0, .complex .f32 0 0] 39 (0, 0)) (bu BK302.out) hb); have n2_ := Aside0.mk (below_step tb hb); clear BK301; clear BK302; clear HB; have BK301 := n0_; have BK302 := n1_; have HB := n2_; clear n0_ n1_ n2_; (try clear hb); (try clear hb2); (try clear hk); (try clear hi)) | (go_at_call 71; (with_reducible refine (impl_MulComplex.calls t304 a0_2 t308 _ A16.out).mono ?_); rintro e w27 ⟨rfl, hb⟩; have n0_ := Aside0.mk (blk_below (g := gb301) (o := .cells #[.complex .f32 a0_0.re a0_0.im, .complex .f32 a0_1.re a0_1.im, .complex .f32 a0_2.re a0_2.im] 80 (0, 0)) (bu BK301.out) hb); have n1_ := Aside0.mk (blk_below (g := gb302) (o := .cells #[.complex .f32 0 0, .complex .f32 0 0, .complex .f32 0 0] 39 (0, 0)) (bu BK302.out) hb); have n2_ := Aside0.mk (below_step tb hb); clear BK301; clear BK302; clear HB; have BK301 := n0_; have BK302 := n1_; have HB := n2_; clear n0_ n1_ n2_; (try clear hb); (try clear hb2); (try clear hk); (try clear hi); have hcz28_0 : w27.cell? ⟨gb302, 0, none⟩ = some (.complex .f32 0 0) := (blk_cell BK302.out 0).trans rfl; have hcz28_1 : w27.cell? ⟨gb302, 1, none⟩ = some (.complex .f32 0 0) := (blk_cell BK302.out 1).trans rfl; have hcz28_2 : w27.cell? ⟨gb302, 2, none⟩ = some (.complex .f32 0 0) := (blk_cell BK302.out 2).trans rfl; have hfz28_0 := blk_frozen BK302.out 0; have hfz28_1 := blk_frozen BK302.out 1; have hfz28_2 := blk_frozen BK302.out 2)))
             refine bodyPost_ret (results_cell_row rfl _ _ gb302 39 #[.complex .f32 (fv .add .f32 (fv .add .f32 a0_0.re a0_1.re) a0_2.re) (fv .add .f32 (fv .add .f32 a0_0.im a0_1.im) a0_2.im), .complex .f32 (fv .add .f32 (fv .add .f32 a0_0.re t305.re) t306.re) (fv .add .f32 (fv .add .f32 a0_0.im t305.im) t306.im), .complex .f32 (fv .add .f32 (fv .add .f32 a0_0.re t307.re) t308.re) (fv .add .f32 (fv .add .f32 a0_0.im t307.im) t308.im)] (0, 0) _ rfl (by refine bu ?_; refine blk_put (cs := #[.complex .f32 (fv .add .f32 (fv .add .f32 a0_0.re a0_1.re) a0_2.re) (fv .add .f32 (fv .add .f32 a0_0.im a0_1.im) a0_2.im), .complex .f32 (fv .add .f32 (fv .add .f32 a0_0.re t305.re) t306.re) (fv .add .f32 (fv .add .f32 a0_0.im t305.im) t306.im), .complex .f32 0 0]) ?_ 2 _ rfl; refine bu ?_; refine blk_put (cs := #[.complex .f32 (fv .add .f32 (fv .add .f32 a0_0.re a0_1.re) a0_2.re) (fv .add .f32 (fv .add .f32 a0_0.im a0_1.im) a0_2.im), .complex .f32 0 0, .complex .f32 0 0]) ?_ 1 _ rfl; refine bu ?_; refine blk_put (cs := #[.complex .f32 0 0, .complex .f32 0 0, .complex .f32 0 0]) ?_ 0 _ rfl; refine bu ?_; exact BK302.out) Try.underlying39 rfl (by kernel_rfl)) rfl ?_
             exact ⟨re_, tb⟩
            ·rw [if_neg c18] at H
             exact absurd H (by simp)
           ·rw [if_neg c17] at H
            exact absurd H (by simp)
          ·rw [if_neg c15] at H
           exact absurd H (by simp)
         ·rw [if_neg c14] at H
          exact absurd H (by simp)
        ·rw [if_neg c12] at H
         exact absurd H (by simp)
       ·rw [if_neg c11] at H
        exact absurd H (by simp)
      ·rw [if_neg c9] at H
       exact absurd H (by simp)
     ·rw [if_neg c8] at H
      exact absurd H (by simp)
    ·rw [if_neg c6] at H
     exact absurd H (by simp)
   ·rw [if_neg c5] at H
    exact absurd H (by simp)
  ·rw [if_neg c4] at H
   exact absurd H (by simp)
 ·rw [if_neg c3] at H
  exact absurd H (by simp)

end Go.Proofs.Ytcgpomicgbmdlaa.PFnCommon
namespace Go.Proofs.Ytcgpomicgbmdlaa.PFnCommon
open Go.RowKit Go.Proofs.YtcgpomicgbmdlaaW.PrintWords Go.Proofs.YtcgpomicgbmdlaaW.PrintLast Go.Proofs.YtcgpomicgbmdlaaW.PrintMore
attribute [local go_sem] max2_int min2_int max_two min_two max_three min_three max_four min_four   -- for this text's walks alone
set_option linter.unusedVariables false
set_option linter.unusedSimpArgs false

/-! ### impl_ScaleComplex: function 105 -/
def impl_ScaleComplex.f (a0 : Cx) (a1 : Nat) : Option (Cx) := if fok .mul .f32 a0.re a1 = true then (if fok .mul .f32 a0.im a1 = true then (some (⟨fv .mul .f32 a0.re a1, fv .mul .f32 a0.im a1⟩ : Cx)) else (none)) else (none)
set_option maxHeartbeats 8000000 in
set_option maxRecDepth 100000 in
theorem impl_ScaleComplex.calls (a0 : Cx) (a1 : Nat) (r : Cx) (w : World) (h : impl_ScaleComplex.f a0 a1 = some r) :
  Calls Try.prog 105 #[.complex .f32 a0.re a0.im, .float .f32 a1] w fun e w' => e = .returned (.complex .f32 r.re r.im) ∧ Below w.heap.size w w' := by
 have HB := Aside0.mk (Below.refl w.heap.size w)
 have H : (if fok .mul .f32 a0.re a1 = true then (if fok .mul .f32 a0.im a1 = true then (some (⟨fv .mul .f32 a0.re a1, fv .mul .f32 a0.im a1⟩ : Cx)) else (none)) else (none)) = some r := h
 clear h
 by_cases c3 : fok .mul .f32 a0.re a1 = true
 ·rw [if_pos c3] at H
  have c3b0 := eq_true c3
  have c3b1 : decide (fok .mul .f32 a0.re a1 = true) = true := decide_eq_true c3
  clear c3
  by_cases c4 : fok .mul .f32 a0.im a1 = true
  ·rw [if_pos c4] at H
   have c4b0 := eq_true c4
   have c4b1 : decide (fok .mul .f32 a0.im a1 = true) = true := decide_eq_true c4
   clear c4
   obtain rfl := Option.some.inj H
   go_enter Try.func105, Try.ntmps105
   go_wp2
   go_ret
   exact ⟨re_, tb⟩
  ·rw [if_neg c4] at H
   exact absurd H (by simp)
 ·rw [if_neg c3] at H
  exact absurd H (by simp)

end Go.Proofs.Ytcgpomicgbmdlaa.PFnCommon
namespace Go.Proofs.Ytcgpomicgbmdlaa.PFnCommon
open Go.RowKit Go.Proofs.YtcgpomicgbmdlaaW.PrintWords Go.Proofs.YtcgpomicgbmdlaaW.PrintLast Go.Proofs.YtcgpomicgbmdlaaW.PrintMore
attribute [local go_sem] max2_int min2_int max_two min_two max_three min_three max_four min_four   -- for this text's walks alone
set_option linter.unusedVariables false
set_option linter.unusedSimpArgs false

/-! ### impl_PartsOf: function 45 -/
def impl_PartsOf.f (k : Nat) (a0_0 : Cx) (a0_1 : Cx) (a0_2 : Cx) : Option (Cx × Cx × Cx) := (impl_turns.f k).bind fun bt311 => (if fok .add .f32 a0_0.re a0_1.re = true then (if fok .add .f32 a0_0.im a0_1.im = true then (if fok .add .f32 (fv .add .f32 a0_0.re a0_1.re) a0_2.re = true then (if fok .add .f32 (fv .add .f32 a0_0.im a0_1.im) a0_2.im = true then ((impl_ScaleComplex.f (⟨fv .add .f32 (fv .add .f32 a0_0.re a0_1.re) a0_2.re, fv .add .f32 (fv .add .f32 a0_0.im a0_1.im) a0_2.im⟩ : Cx) 1051372203).bind fun t313 => ((impl_MulComplex.f bt311.1 a0_1).bind fun t314 => (if fok .add .f32 a0_0.re t314.re = true then (if fok .add .f32 a0_0.im t314.im = true then ((impl_MulComplex.f bt311.2 a0_2).bind fun t315 => (if fok .add .f32 (fv .add .f32 a0_0.re t314.re) t315.re = true then (if fok .add .f32 (fv .add .f32 a0_0.im t314.im) t315.im = true then ((impl_ScaleComplex.f (⟨fv .add .f32 (fv .add .f32 a0_0.re t314.re) t315.re, fv .add .f32 (fv .add .f32 a0_0.im t314.im) t315.im⟩ : Cx) 1051372203).bind fun t316 => ((impl_MulComplex.f bt311.2 a0_1).bind fun t317 => (if fok .add .f32 a0_0.re t317.re = true then (if fok .add .f32 a0_0.im t317.im = true then ((impl_MulComplex.f bt311.1 a0_2).bind fun t318 => (if fok .add .f32 (fv .add .f32 a0_0.re t317.re) t318.re = true then (if fok .add .f32 (fv .add .f32 a0_0.im t317.im) t318.im = true then ((impl_ScaleComplex.f (⟨fv .add .f32 (fv .add .f32 a0_0.re t317.re) t318.re, fv .add .f32 (fv .add .f32 a0_0.im t317.im) t318.im⟩ : Cx) 1051372203).bind fun t319 => (some (t313, t316, t319))) else (none)) else (none))) else (none)) else (none)))) else (none)) else (none))) else (none)) else (none)))) else (none)) else (none)) else (none)) else (none))
theorem impl_PartsOf.mono : ∀ a0 a1 a2 k, LeO (impl_PartsOf.f k a0 a1 a2) (impl_PartsOf.f (k + 1) a0 a1 a2) := by
 intro a0 a1 a2 k
 unfold impl_PartsOf.f
 repeat' first
   | (with_reducible exact impl_turns.mono _)
   | (with_reducible exact LeO.refl _)
   | (with_reducible exact LeO.none _)
   | (with_reducible refine LeO.ite ?_ ?_)
   | (with_reducible refine LeO.bind ?_ (fun _ => ?_))
   | exact impl_turns.mono _
   | exact LeO.none _
   | refine LeO.ite ?_ ?_
   | refine LeO.bind ?_ (fun _ => ?_)
def impl_PartsOf.T2 : Bool × List (List Nat × List Nat) := (true, [([], []), ([0], [0]), ([], []), ([2], [2]), ([1, 3], [1, 3]), ([], []), ([5], [5]), ([4, 6], [4, 6]), ([7], [7]), ([], []), ([9], [9]), ([], []), ([], []), ([12], [12]), ([11, 13, 8], [11, 13]), ([10, 14], [10, 14]), ([], []), ([], []), ([17], [17]), ([16, 18, 14], [16, 18]), ([15, 19], [15, 19]), ([20, 19], [20]), ([], []), ([22], [22]), ([], []), ([], []), ([25], [25]), ([24, 26, 21], [24, 26]), ([23, 27], [23, 27]), ([], []), ([], []), ([30], [30]), ([29, 31, 27], [29, 31]), ([28, 32], [28, 32]), ([33, 32], [33]), ([8, 21, 34], [8, 21, 34]), ([35, 34, 0, 1, 2, 3, 4, 5, 6, 7, 8, 9, 10, 11, 12, 13, 14, 15, 16, 17, 18, 19, 20, 21, 22, 23, 24, 25, 26, 27, 28, 29, 30, 31, 32, 33, 34, 35], [35])])
def impl_PartsOf.B2 : List Nat := [0, 1, 0, 4, 15, 0, 32, 127, 255, 0, 512, 0, 0, 4096, 14847, 32767, 0, 0, 131072, 489983, 1048575, 2097151, 0, 4194304, 0, 0, 33554432, 121634815, 268435455, 0, 0, 1073741824, 4013948927, 8589934591, 17179869183, 34359738367, 68719476735]
theorem impl_PartsOf.tab2 : rtab .any (opsOf Try.f45 2) = impl_PartsOf.T2 := by kernel_rfl
theorem impl_PartsOf.bits2 : waitsOk impl_PartsOf.T2.2 impl_PartsOf.B2 = true := by kernel_rfl
set_option maxHeartbeats 8000000 in
set_option maxRecDepth 100000 in
theorem impl_PartsOf.calls (k : Nat) (a0_0 : Cx) (a0_1 : Cx) (a0_2 : Cx) (r1 : Cx) (r2 : Cx) (r3 : Cx) (w : World) (h : impl_PartsOf.f k a0_0 a0_1 a0_2 = some (r1, r2, r3)) :
  Calls Try.prog 45 #[.agg #[.complex .f32 a0_0.re a0_0.im, .complex .f32 a0_1.re a0_1.im, .complex .f32 a0_2.re a0_2.im]] w fun e w' => e = .returned (.agg #[.complex .f32 r1.re r1.im, .complex .f32 r2.re r2.im, .complex .f32 r3.re r3.im]) ∧ Below w.heap.size w w' := by
 have hu39 := Try.underlying39
 have hu80 := Try.underlying80
 have HB := Aside0.mk (Below.refl w.heap.size w)
 have H : ((impl_turns.f k).bind fun bt311 => (if fok .add .f32 a0_0.re a0_1.re = true then (if fok .add .f32 a0_0.im a0_1.im = true then (if fok .add .f32 (fv .add .f32 a0_0.re a0_1.re) a0_2.re = true then (if fok .add .f32 (fv .add .f32 a0_0.im a0_1.im) a0_2.im = true then ((impl_ScaleComplex.f (⟨fv .add .f32 (fv .add .f32 a0_0.re a0_1.re) a0_2.re, fv .add .f32 (fv .add .f32 a0_0.im a0_1.im) a0_2.im⟩ : Cx) 1051372203).bind fun t313 => ((impl_MulComplex.f bt311.1 a0_1).bind fun t314 => (if fok .add .f32 a0_0.re t314.re = true then (if fok .add .f32 a0_0.im t314.im = true then ((impl_MulComplex.f bt311.2 a0_2).bind fun t315 => (if fok .add .f32 (fv .add .f32 a0_0.re t314.re) t315.re = true then (if fok .add .f32 (fv .add .f32 a0_0.im t314.im) t315.im = true then ((impl_ScaleComplex.f (⟨fv .add .f32 (fv .add .f32 a0_0.re t314.re) t315.re, fv .add .f32 (fv .add .f32 a0_0.im t314.im) t315.im⟩ : Cx) 1051372203).bind fun t316 => ((impl_MulComplex.f bt311.2 a0_1).bind fun t317 => (if fok .add .f32 a0_0.re t317.re = true then (if fok .add .f32 a0_0.im t317.im = true then ((impl_MulComplex.f bt311.1 a0_2).bind fun t318 => (if fok .add .f32 (fv .add .f32 a0_0.re t317.re) t318.re = true then (if fok .add .f32 (fv .add .f32 a0_0.im t317.im) t318.im = true then ((impl_ScaleComplex.f (⟨fv .add .f32 (fv .add .f32 a0_0.re t317.re) t318.re, fv .add .f32 (fv .add .f32 a0_0.im t317.im) t318.im⟩ : Cx) 1051372203).bind fun t319 => (some (t313, t316, t319))) else (none)) else (none))) else (none)) else (none)))) else (none)) else (none))) else (none)) else (none)))) else (none)) else (none)) else (none)) else (none))) = some (r1, r2, r3) := h
 clear h
 replace H := Option.bind_eq_some_iff.mp H
 obtain ⟨⟨t311, t312⟩, A20, H⟩ := H
 try dsimp only at H
 have A2 := Aside0.mk A20
 clear A20
 by_cases c3 : fok .add .f32 a0_0.re a0_1.re = true
 ·rw [if_pos c3] at H
  have c3b0 := eq_true c3
  have c3b1 : decide (fok .add .f32 a0_0.re a0_1.re = true) = true := decide_eq_true c3
  clear c3
  by_cases c4 : fok .add .f32 a0_0.im a0_1.im = true
  ·rw [if_pos c4] at H
   have c4b0 := eq_true c4
   have c4b1 : decide (fok .add .f32 a0_0.im a0_1.im = true) = true := decide_eq_true c4
   clear c4
   by_cases c5 : fok .add .f32 (fv .add .f32 a0_0.re a0_1.re) a0_2.re = true
   ·rw [if_pos c5] at H
    have c5b0 := eq_true c5
    have c5b1 : decide (fok .add .f32 (fv .add .f32 a0_0.re a0_1.re) a0_2.re = true) = true := decide_eq_true c5
    clear c5
    by_cases c6 : fok .add .f32 (fv .add .f32 a0_0.im a0_1.im) a0_2.im = true
    ·rw [if_pos c6] at H
     have c6b0 := eq_true c6
     have c6b1 : decide (fok .add .f32 (fv .add .f32 a0_0.im a0_1.im) a0_2.im = true) = true := decide_eq_true c6
     clear c6
     replace H := Option.bind_eq_some_iff.mp H
     obtain ⟨t313, A70, H⟩ := H
     try dsimp only at H
     have A7 := Aside0.mk A70
     clear A70
     replace H := Option.bind_eq_some_iff.mp H
     obtain ⟨t314, A80, H⟩ := H
     try dsimp only at H
     have A8 := Aside0.mk A80
     clear A80
     by_cases c9 : fok .add .f32 a0_0.re t314.re = true
     ·rw [if_pos c9] at H
      have c9b0 := eq_true c9
      have c9b1 : decide (fok .add .f32 a0_0.re t314.re = true) = true := decide_eq_true c9
      clear c9
      by_cases c10 : fok .add .f32 a0_0.im t314.im = true
      ·rw [if_pos c10] at H
       have c10b0 := eq_true c10
       have c10b1 : decide (fok .add .f32 a0_0.im t314.im = true) = true := decide_eq_true c10
       clear c10
       replace H := Option.bind_eq_some_iff.mp H
       obtain ⟨t315, A110, H⟩ := H
       try dsimp only at H
       have A11 := Aside0.mk A110
       clear A110
       by_cases c12 : fok .add .f32 (fv .add .f32 a0_0.re t314.re) t315.re = true
       ·rw [if_pos c12] at H
        have c12b0 := eq_true c12
        have c12b1 : decide (fok .add .f32 (fv .add .f32 a0_0.re t314.re) t315.re = true) = true := decide_eq_true c12
        clear c12
        by_cases c13 : fok .add .f32 (fv .add .f32 a0_0.im t314.im) t315.im = true
        ·rw [if_pos c13] at H
         have c13b0 := eq_true c13
         have c13b1 : decide (fok .add .f32 (fv .add .f32 a0_0.im t314.im) t315.im = true) = true := decide_eq_true c13
         clear c13
         replace H := Option.bind_eq_some_iff.mp H
         obtain ⟨t316, A140, H⟩ := H
         try dsimp only at H
         have A14 := Aside0.mk A140
         clear A140
         replace H := Option.bind_eq_some_iff.mp H
         obtain ⟨t317, A150, H⟩ := H
         try dsimp only at H
         have A15 := Aside0.mk A150
         clear A150
         by_cases c16 : fok .add .f32 a0_0.re t317.re = true
         ·rw [if_pos c16] at H
          have c16b0 := eq_true c16
          have c16b1 : decide (fok .add .f32 a0_0.re t317.re = true) = true := decide_eq_true c16
          clear c16
          by_cases c17 : fok .add .f32 a0_0.im t317.im = true
          ·rw [if_pos c17] at H
           have c17b0 := eq_true c17
           have c17b1 : decide (fok .add .f32 a0_0.im t317.im = true) = true := decide_eq_true c17
           clear c17
           replace H := Option.bind_eq_some_iff.mp H
           obtain ⟨t318, A180, H⟩ := H
           try dsimp only at H
           have A18 := Aside0.mk A180
           clear A180
           by_cases c19 : fok .add .f32 (fv .add .f32 a0_0.re t317.re) t318.re = true
           ·rw [if_pos c19] at H
            have c19b0 := eq_true c19
            have c19b1 : decide (fok .add .f32 (fv .add .f32 a0_0.re t317.re) t318.re = true) = true := decide_eq_true c19
            clear c19
            by_cases c20 : fok .add .f32 (fv .add .f32 a0_0.im t317.im) t318.im = true
            ·rw [if_pos c20] at H
             have c20b0 := eq_true c20
             have c20b1 : decide (fok .add .f32 (fv .add .f32 a0_0.im t317.im) t318.im = true) = true := decide_eq_true c20
             clear c20
             replace H := Option.bind_eq_some_iff.mp H
             obtain ⟨t319, A210, H⟩ := H
             try dsimp only at H
             have A21 := Aside0.mk A210
             clear A210
             simp only [Option.some.injEq, Prod.mk.injEq] at H
             obtain ⟨rfl, rfl, rfl⟩ := H
             go_enter Try.func45, Try.ntmps45
             try go_wp2_with (first | ((with_reducible refine gate_dst (N := 1) rfl ?_); refine box_event ?hg (N := 1) ?hd (cs := #[.complex .f32 a0_0.re a0_0.im, .complex .f32 a0_1.re a0_1.im, .complex .f32 a0_2.re a0_2.im]) (t := 39) ?hr ?_; (case hd => rfl); (case hg => rfl); (case hr => first | (go_simp; done) | (go_simp; rfl)); intro gb309 hg w22 hbox hb; have n0_ := Aside0.mk (below_step tb hb); have n1_ := Aside0.mk (hbox); have n2_ := Aside0.mk ((by rw [hg]; exact (below_size tb) : w.heap.size ≤ gb309)); have n3_ := Aside0.mk ((by rw [hg]; exact (below_size tb) : w.heap.size ≤ gb309)); clear HB; have HB := n0_; have BK309 := n1_; have GW309 := n2_; have GE309 := n3_; clear n0_ n1_ n2_ n3_; clear hb hbox hg) | ((with_reducible refine gate_dst (N := 2) rfl ?_); refine box_event ?hg (N := 2) ?hd (cs := #[.complex .f32 0 0, .complex .f32 0 0, .complex .f32 0 0]) (t := 80) ?hr ?_; (case hd => rfl); (case hg => rfl); (case hr => first | (go_simp; done) | (go_simp; rfl)); intro gb310 hg w23 hbox hb; have n0_ := Aside0.mk (blk_below (g := gb309) (o := .cells #[.complex .f32 a0_0.re a0_0.im, .complex .f32 a0_1.re a0_1.im, .complex .f32 a0_2.re a0_2.im] 39 (0, 0)) (bu BK309.out) hb); have n1_ := Aside0.mk (below_step tb hb); have n2_ := Aside0.mk (hbox); have n3_ := Aside0.mk ((by rw [hg]; exact (below_size tb) : w.heap.size ≤ gb310)); have n4_ := Aside0.mk ((by rw [hg]; exact (below_size tb) : w.heap.size ≤ gb310)); have n5_ := Aside0.mk ((by rw [hg]; exact Nat.ne_of_lt (blk_lt (g := gb309) (o := .cells #[.complex .f32 a0_0.re a0_0.im, .complex .f32 a0_1.re a0_1.im, .complex .f32 a0_2.re a0_2.im] 39 (0, 0)) (bu BK309.out)) : gb309 ≠ gb310)); have n6_ := Aside0.mk ((by rw [hg]; exact Nat.ne_of_gt (blk_lt (g := gb309) (o := .cells #[.complex .f32 a0_0.re a0_0.im, .complex .f32 a0_1.re a0_1.im, .complex .f32 a0_2.re a0_2.im] 39 (0, 0)) (bu BK309.out)) : gb310 ≠ gb309)); clear BK309; clear HB; have BK309 := n0_; have HB := n1_; have BK310 := n2_; have GW310 := n3_; have GE310 := n4_; have NB309_310 := n5_; have NB310_309 := n6_; clear n0_ n1_ n2_ n3_ n4_ n5_ n6_; clear hb hbox hg) | ((with_reducible refine gate_callee (f := 104) rfl ?_); refine gx_ (some 6) Try.func104 #[] ?_; (with_reducible refine (impl_turns.calls k  t311 t312 _ A2.out).mono ?_); rintro e w24 ⟨rfl, hb⟩; refine ⟨_, rfl, ?_⟩; have n0_ := Aside0.mk (blk_below (g := gb309) (o := .cells #[.complex .f32 a0_0.re a0_0.im, .complex .f32 a0_1.re a0_1.im, .complex .f32 a0_2.re a0_2.im] 39 (0, 0)) (bu BK309.out) hb); have n1_ := Aside0.mk (blk_below (g := gb310) (o := .cells #[.complex .f32 0 0, .complex .f32 0 0, .complex .f32 0 0] 80 (0, 0)) (bu BK310.out) hb); have n2_ := Aside0.mk (below_step tb hb); clear BK309; clear BK310; clear HB; have BK309 := n0_; have BK310 := n1_; have HB := n2_; clear n0_ n1_ n2_; (try clear hb); (try clear hb2); (try clear hk); (try clear hi)))
             have n0_ := Aside0.mk (blk_drew BK309.out)
             have n1_ := Aside0.mk (blk_drew BK310.out)
             have n2_ := Aside0.mk (below_drew1 HB.out)
             clear BK309
             clear BK310
             clear HB
             have BK309 := n0_
             have BK310 := n1_
             have HB := n2_
             clear n0_ n1_ n2_
             refine start_ (n := 37) (S := fun w' => w'.cell? ⟨gb309, 0, none⟩ = some (.complex .f32 a0_0.re a0_0.im) ∧ w'.cell? ⟨gb309, 1, none⟩ = some (.complex .f32 a0_1.re a0_1.im) ∧ w'.cell? ⟨gb309, 2, none⟩ = some (.complex .f32 a0_2.re a0_2.im)) (ds := []) #[false, false, false, false, false, false, false, false, false, false, false, false, false, false, false, false, false, false, false, false, false, false, false, false, false, false, false, false, false, false, false, false, false, false, false, false, false] (by kernel_rfl) rfl rfl ⟨(blk_cell BK309.out 0).trans rfl, (blk_cell BK309.out 1).trans rfl, (blk_cell BK309.out 2).trans rfl⟩ (fun hHeld => ?_); refine with_tabW impl_PartsOf.tab2 impl_PartsOf.bits2 (fun HT_ HW_ => ?_)
             generalize w24.drew = w25 at BK309 BK310 HB hHeld ⊢
             refine pure_ (i := 0) (N := some 9) (v := ?_) (a' := ?_) #[true, false, false, false, false, false, false, false, false, false, false, false, false, false, false, false, false, false, false, false, false, false, false, false, false, false, false, false, false, false, false, false, false, false, false, false, false] rfl rfl (any_of HT_.out (by kernel_rfl)) (fun _ _ _ h => h) (Or.inl ⟨by rfl, ?_⟩) ?_ ?_
             rotate_left
             ·intro w'
              go_simp
              with_reducible rfl
             rotate_left
             ·refine ps_ ?_
              rfl
             refine pure_ (i := 2) (N := some 11) (v := ?_) (a' := ?_) #[true, false, true, false, false, false, false, false, false, false, false, false, false, false, false, false, false, false, false, false, false, false, false, false, false, false, false, false, false, false, false, false, false, false, false, false, false] rfl rfl (any_of HT_.out (by kernel_rfl)) (fun _ _ _ h => h) (Or.inl ⟨by rfl, ?_⟩) ?_ ?_
             rotate_left
             ·intro w'
              go_simp
              with_reducible rfl
             rotate_left
             ·refine ps_ ?_
              rfl
             refine pure_ (i := 5) (N := some 14) (v := ?_) (a' := ?_) #[true, false, true, false, false, true, false, false, false, false, false, false, false, false, false, false, false, false, false, false, false, false, false, false, false, false, false, false, false, false, false, false, false, false, false, false, false] rfl rfl (any_of HT_.out (by kernel_rfl)) (fun _ _ _ h => h) (Or.inl ⟨by rfl, ?_⟩) ?_ ?_
             rotate_left
             ·intro w'
              go_simp
              with_reducible rfl
             rotate_left
             ·refine ps_ ?_
              rfl
             refine pure_ (i := 9) (N := some 18) (v := ?_) (a' := ?_) #[true, false, true, false, false, true, false, false, false, true, false, false, false, false, false, false, false, false, false, false, false, false, false, false, false, false, false, false, false, false, false, false, false, false, false, false, false] rfl rfl (any_of HT_.out (by kernel_rfl)) (fun _ _ _ h => h) (Or.inl ⟨by rfl, ?_⟩) ?_ ?_
             rotate_left
             ·intro w'
              go_simp
              with_reducible rfl
             rotate_left
             ·refine ps_ ?_
              rfl
             refine pure_ (i := 11) (N := some 20) (v := ?_) (a' := ?_) #[true, false, true, false, false, true, false, false, false, true, false, true, false, false, false, false, false, false, false, false, false, false, false, false, false, false, false, false, false, false, false, false, false, false, false, false, false] rfl rfl (any_of HT_.out (by kernel_rfl)) (fun _ _ _ h => h) (Or.inl ⟨by rfl, ?_⟩) ?_ ?_
             rotate_left
             ·intro w'
              go_simp
              with_reducible rfl
             rotate_left
             ·refine ps_ ?_
              rfl
             refine pure_ (i := 12) (N := some 21) (v := ?_) (a' := ?_) #[true, false, true, false, false, true, false, false, false, true, false, true, true, false, false, false, false, false, false, false, false, false, false, false, false, false, false, false, false, false, false, false, false, false, false, false, false] rfl rfl (any_of HT_.out (by kernel_rfl)) (fun _ _ _ h => h) (Or.inl ⟨by rfl, ?_⟩) ?_ ?_
             rotate_left
             ·intro w'
              go_simp
              with_reducible rfl
             rotate_left
             ·refine ps_ ?_
              rfl
             refine pure_ (i := 16) (N := some 25) (v := ?_) (a' := ?_) #[true, false, true, false, false, true, false, false, false, true, false, true, true, false, false, false, true, false, false, false, false, false, false, false, false, false, false, false, false, false, false, false, false, false, false, false, false] rfl rfl (any_of HT_.out (by kernel_rfl)) (fun _ _ _ h => h) (Or.inl ⟨by rfl, ?_⟩) ?_ ?_
             rotate_left
             ·intro w'
              go_simp
              with_reducible rfl
             rotate_left
             ·refine ps_ ?_
              rfl
             refine pure_ (i := 17) (N := some 26) (v := ?_) (a' := ?_) #[true, false, true, false, false, true, false, false, false, true, false, true, true, false, false, false, true, true, false, false, false, false, false, false, false, false, false, false, false, false, false, false, false, false, false, false, false] rfl rfl (any_of HT_.out (by kernel_rfl)) (fun _ _ _ h => h) (Or.inl ⟨by rfl, ?_⟩) ?_ ?_
             rotate_left
             ·intro w'
              go_simp
              with_reducible rfl
             rotate_left
             ·refine ps_ ?_
              rfl
             refine pure_ (i := 22) (N := some 31) (v := ?_) (a' := ?_) #[true, false, true, false, false, true, false, false, false, true, false, true, true, false, false, false, true, true, false, false, false, false, true, false, false, false, false, false, false, false, false, false, false, false, false, false, false] rfl rfl (any_of HT_.out (by kernel_rfl)) (fun _ _ _ h => h) (Or.inl ⟨by rfl, ?_⟩) ?_ ?_
             rotate_left
             ·intro w'
              go_simp
              with_reducible rfl
             rotate_left
             ·refine ps_ ?_
              rfl
             refine pure_ (i := 24) (N := some 33) (v := ?_) (a' := ?_) #[true, false, true, false, false, true, false, false, false, true, false, true, true, false, false, false, true, true, false, false, false, false, true, false, true, false, false, false, false, false, false, false, false, false, false, false, false] rfl rfl (any_of HT_.out (by kernel_rfl)) (fun _ _ _ h => h) (Or.inl ⟨by rfl, ?_⟩) ?_ ?_
             rotate_left
             ·intro w'
              go_simp
              with_reducible rfl
             rotate_left
             ·refine ps_ ?_
              rfl
             refine pure_ (i := 25) (N := some 34) (v := ?_) (a' := ?_) #[true, false, true, false, false, true, false, false, false, true, false, true, true, false, false, false, true, true, false, false, false, false, true, false, true, true, false, false, false, false, false, false, false, false, false, false, false] rfl rfl (any_of HT_.out (by kernel_rfl)) (fun _ _ _ h => h) (Or.inl ⟨by rfl, ?_⟩) ?_ ?_
             rotate_left
             ·intro w'
              go_simp
              with_reducible rfl
             rotate_left
             ·refine ps_ ?_
              rfl
             refine pure_ (i := 29) (N := some 38) (v := ?_) (a' := ?_) #[true, false, true, false, false, true, false, false, false, true, false, true, true, false, false, false, true, true, false, false, false, false, true, false, true, true, false, false, false, true, false, false, false, false, false, false, false] rfl rfl (any_of HT_.out (by kernel_rfl)) (fun _ _ _ h => h) (Or.inl ⟨by rfl, ?_⟩) ?_ ?_
             rotate_left
             ·intro w'
              go_simp
              with_reducible rfl
             rotate_left
             ·refine ps_ ?_
              rfl
             refine pure_ (i := 30) (N := some 39) (v := ?_) (a' := ?_) #[true, false, true, false, false, true, false, false, false, true, false, true, true, false, false, false, true, true, false, false, false, false, true, false, true, true, false, false, false, true, true, false, false, false, false, false, false] rfl rfl (any_of HT_.out (by kernel_rfl)) (fun _ _ _ h => h) (Or.inl ⟨by rfl, ?_⟩) ?_ ?_
             rotate_left
             ·intro w'
              go_simp
              with_reducible rfl
             rotate_left
             ·refine ps_ ?_
              rfl
             refine take_ (i := 1) (N := some 10) (v := ?_) (a' := ?_) #[true, true, true, false, false, true, false, false, false, true, false, true, true, false, false, false, true, true, false, false, false, false, true, false, true, true, false, false, false, true, true, false, false, false, false, false, false] rfl rfl (take_ofW HT_.out HW_.out (by kernel_rfl)) (fun _ _ _ h => h) (Or.inl ⟨by rfl, ?_⟩) hHeld ?_ ?_
             rotate_left
             ·rintro w' ⟨s0, s1, s2⟩
              go_simp
              with_reducible rfl
             rotate_left
             ·refine ps_ ?_
              rfl
             refine take_ (i := 3) (N := some 12) (v := ?_) (a' := ?_) #[true, true, true, true, false, true, false, false, false, true, false, true, true, false, false, false, true, true, false, false, false, false, true, false, true, true, false, false, false, true, true, false, false, false, false, false, false] rfl rfl (take_ofW HT_.out HW_.out (by kernel_rfl)) (fun _ _ _ h => h) (Or.inl ⟨by rfl, ?_⟩) hHeld ?_ ?_
             rotate_left
             ·rintro w' ⟨s0, s1, s2⟩
              go_simp
              with_reducible rfl
             rotate_left
             ·refine ps_ ?_
              rfl
             refine pure_ (i := 4) (N := some 13) (v := ?_) (a' := ?_) #[true, true, true, true, true, true, false, false, false, true, false, true, true, false, false, false, true, true, false, false, false, false, true, false, true, true, false, false, false, true, true, false, false, false, false, false, false] rfl rfl (any_of HT_.out (by kernel_rfl)) (fun _ _ _ h => h) (Or.inl ⟨by rfl, ?_⟩) ?_ ?_
             rotate_left
             ·intro w'
              go_simp
              with_reducible rfl
             rotate_left
             ·refine ps_ ?_
              rfl
             refine take_ (i := 6) (N := some 15) (v := ?_) (a' := ?_) #[true, true, true, true, true, true, true, false, false, true, false, true, true, false, false, false, true, true, false, false, false, false, true, false, true, true, false, false, false, true, true, false, false, false, false, false, false] rfl rfl (take_ofW HT_.out HW_.out (by kernel_rfl)) (fun _ _ _ h => h) (Or.inl ⟨by rfl, ?_⟩) hHeld ?_ ?_
             rotate_left
             ·rintro w' ⟨s0, s1, s2⟩
              go_simp
              with_reducible rfl
             rotate_left
             ·refine ps_ ?_
              rfl
             refine pure_ (i := 7) (N := some 16) (v := ?_) (a' := ?_) #[true, true, true, true, true, true, true, true, false, true, false, true, true, false, false, false, true, true, false, false, false, false, true, false, true, true, false, false, false, true, true, false, false, false, false, false, false] rfl rfl (any_of HT_.out (by kernel_rfl)) (fun _ _ _ h => h) (Or.inl ⟨by rfl, ?_⟩) ?_ ?_
             rotate_left
             ·intro w'
              go_simp
              with_reducible rfl
             rotate_left
             ·refine ps_ ?_
              rfl
             refine take_ (i := 10) (N := some 19) (v := ?_) (a' := ?_) #[true, true, true, true, true, true, true, true, false, true, true, true, true, false, false, false, true, true, false, false, false, false, true, false, true, true, false, false, false, true, true, false, false, false, false, false, false] rfl rfl (take_ofW HT_.out HW_.out (by kernel_rfl)) (fun _ _ _ h => h) (Or.inl ⟨by rfl, ?_⟩) hHeld ?_ ?_
             rotate_left
             ·rintro w' ⟨s0, s1, s2⟩
              go_simp
              with_reducible rfl
             rotate_left
             ·refine ps_ ?_
              rfl
             refine take_ (i := 13) (N := some 22) (v := ?_) (a' := ?_) #[true, true, true, true, true, true, true, true, false, true, true, true, true, true, false, false, true, true, false, false, false, false, true, false, true, true, false, false, false, true, true, false, false, false, false, false, false] rfl rfl (take_ofW HT_.out HW_.out (by kernel_rfl)) (fun _ _ _ h => h) (Or.inl ⟨by rfl, ?_⟩) hHeld ?_ ?_
             rotate_left
             ·rintro w' ⟨s0, s1, s2⟩
              go_simp
              with_reducible rfl
             rotate_left
             ·refine ps_ ?_
              rfl
             refine take_ (i := 18) (N := some 27) (v := ?_) (a' := ?_) #[true, true, true, true, true, true, true, true, false, true, true, true, true, true, false, false, true, true, true, false, false, false, true, false, true, true, false, false, false, true, true, false, false, false, false, false, false] rfl rfl (take_ofW HT_.out HW_.out (by kernel_rfl)) (fun _ _ _ h => h) (Or.inl ⟨by rfl, ?_⟩) hHeld ?_ ?_
             rotate_left
             ·rintro w' ⟨s0, s1, s2⟩
              go_simp
              with_reducible rfl
             rotate_left
             ·refine ps_ ?_
              rfl
             refine take_ (i := 23) (N := some 32) (v := ?_) (a' := ?_) #[true, true, true, true, true, true, true, true, false, true, true, true, true, true, false, false, true, true, true, false, false, false, true, true, true, true, false, false, false, true, true, false, false, false, false, false, false] rfl rfl (take_ofW HT_.out HW_.out (by kernel_rfl)) (fun _ _ _ h => h) (Or.inl ⟨by rfl, ?_⟩) hHeld ?_ ?_
             rotate_left
             ·rintro w' ⟨s0, s1, s2⟩
              go_simp
              with_reducible rfl
             rotate_left
             ·refine ps_ ?_
              rfl
             refine take_ (i := 26) (N := some 35) (v := ?_) (a' := ?_) #[true, true, true, true, true, true, true, true, false, true, true, true, true, true, false, false, true, true, true, false, false, false, true, true, true, true, true, false, false, true, true, false, false, false, false, false, false] rfl rfl (take_ofW HT_.out HW_.out (by kernel_rfl)) (fun _ _ _ h => h) (Or.inl ⟨by rfl, ?_⟩) hHeld ?_ ?_
             rotate_left
             ·rintro w' ⟨s0, s1, s2⟩
              go_simp
              with_reducible rfl
             rotate_left
             ·refine ps_ ?_
              rfl
             refine take_ (i := 31) (N := some 40) (v := ?_) (a' := ?_) #[true, true, true, true, true, true, true, true, false, true, true, true, true, true, false, false, true, true, true, false, false, false, true, true, true, true, true, false, false, true, true, true, false, false, false, false, false] rfl rfl (take_ofW HT_.out HW_.out (by kernel_rfl)) (fun _ _ _ h => h) (Or.inl ⟨by rfl, ?_⟩) hHeld ?_ ?_
             rotate_left
             ·rintro w' ⟨s0, s1, s2⟩
              go_simp
              with_reducible rfl
             rotate_left
             ·refine ps_ ?_
              rfl
             refine one_ (i := 8) (N := some 17) #[true, true, true, true, true, true, true, true, true, true, true, true, true, true, false, false, true, true, true, false, false, false, true, true, true, true, true, false, false, true, true, true, false, false, false, false, false] rfl rfl (one_of HT_.out (by kernel_rfl)) (by decide) (fun K hK => ?_)
             refine goes_ Try.func105 (by kernel_rfl) rfl #[.complex .f32 (fv .add .f32 (fv .add .f32 a0_0.re a0_1.re) a0_2.re) (fv .add .f32 (fv .add .f32 a0_0.im a0_1.im) a0_2.im), .float .f32 1051372203] (by rfl) rfl rfl mp_ ?_
             with_reducible refine (impl_ScaleComplex.calls (⟨fv .add .f32 (fv .add .f32 a0_0.re a0_1.re) a0_2.re, fv .add .f32 (fv .add .f32 a0_0.im a0_1.im) a0_2.im⟩ : Cx) 1051372203 t313 _ A7.out).mono ?_
             rintro e w26 ⟨rfl, hb⟩
             refine ⟨_, rfl, ?_⟩
             have n0_ := Aside0.mk (blk_below (g := gb309) (o := .cells #[.complex .f32 a0_0.re a0_0.im, .complex .f32 a0_1.re a0_1.im, .complex .f32 a0_2.re a0_2.im] 39 (0, 0)) (bu BK309.out) hb)
             have n1_ := Aside0.mk (blk_below (g := gb310) (o := .cells #[.complex .f32 0 0, .complex .f32 0 0, .complex .f32 0 0] 80 (0, 0)) (bu BK310.out) hb)
             have n2_ := Aside0.mk (below_step tb hb)
             clear BK309
             clear BK310
             clear HB
             have BK309 := n0_
             have BK310 := n1_
             have HB := n2_
             clear n0_ n1_ n2_
             (try clear hb)
             (try clear hb2)
             (try clear hk)
             (try clear hi)
             refine hK.out _ _ ⟨(blk_cell BK309.out 0).trans rfl, (blk_cell BK309.out 1).trans rfl, (blk_cell BK309.out 2).trans rfl⟩ (fun hHeld => ?_)
             clear hK K
             refine norm_ (a' := ?_) ?_ ?_
             rotate_left
             ·show Act.put _ (some 17) _ = _
              refine ps_ ?_
              rfl
             refine one_ (i := 14) (N := some 23) #[true, true, true, true, true, true, true, true, true, true, true, true, true, true, true, false, true, true, true, false, false, false, true, true, true, true, true, false, false, true, true, true, false, false, false, false, false] rfl rfl (one_of HT_.out (by kernel_rfl)) (by decide) (fun K hK => ?_)
             refine goes_ Try.func71 (by kernel_rfl) rfl #[.complex .f32 t311.re t311.im, .complex .f32 a0_1.re a0_1.im] (by rfl) rfl rfl mp_ ?_
             with_reducible refine (impl_MulComplex.calls t311 a0_1 t314 _ A8.out).mono ?_
             rintro e w27 ⟨rfl, hb⟩
             refine ⟨_, rfl, ?_⟩
             have n0_ := Aside0.mk (blk_below (g := gb309) (o := .cells #[.complex .f32 a0_0.re a0_0.im, .complex .f32 a0_1.re a0_1.im, .complex .f32 a0_2.re a0_2.im] 39 (0, 0)) (bu BK309.out) hb)
             have n1_ := Aside0.mk (blk_below (g := gb310) (o := .cells #[.complex .f32 0 0, .complex .f32 0 0, .complex .f32 0 0] 80 (0, 0)) (bu BK310.out) hb)
             have n2_ := Aside0.mk (below_step tb hb)
             clear BK309
             clear BK310
             clear HB
             have BK309 := n0_
             have BK310 := n1_
             have HB := n2_
             clear n0_ n1_ n2_
             (try clear hb)
             (try clear hb2)
             (try clear hk)
             (try clear hi)
             refine hK.out _ _ ⟨(blk_cell BK309.out 0).trans rfl, (blk_cell BK309.out 1).trans rfl, (blk_cell BK309.out 2).trans rfl⟩ (fun hHeld => ?_)
             clear hK K
             refine norm_ (a' := ?_) ?_ ?_
             rotate_left
             ·show Act.put _ (some 23) _ = _
              refine ps_ ?_
              rfl
             refine pure_ (i := 15) (N := some 24) (v := ?_) (a' := ?_) #[true, true, true, true, true, true, true, true, true, true, true, true, true, true, true, true, true, true, true, false, false, false, true, true, true, true, true, false, false, true, true, true, false, false, false, false, false] rfl rfl (any_of HT_.out (by kernel_rfl)) (fun _ _ _ h => h) (Or.inl ⟨by rfl, ?_⟩) ?_ ?_
             rotate_left
             ·intro w'
              go_simp
              with_reducible rfl
             rotate_left
             ·refine ps_ ?_
              rfl
             refine one_ (i := 19) (N := some 28) #[true, true, true, true, true, true, true, true, true, true, true, true, true, true, true, true, true, true, true, true, false, false, true, true, true, true, true, false, false, true, true, true, false, false, false, false, false] rfl rfl (one_of HT_.out (by kernel_rfl)) (by decide) (fun K hK => ?_)
             refine goes_ Try.func71 (by kernel_rfl) rfl #[.complex .f32 t312.re t312.im, .complex .f32 a0_2.re a0_2.im] (by rfl) rfl rfl mp_ ?_
             with_reducible refine (impl_MulComplex.calls t312 a0_2 t315 _ A11.out).mono ?_
             rintro e w28 ⟨rfl, hb⟩
             refine ⟨_, rfl, ?_⟩
             have n0_ := Aside0.mk (blk_below (g := gb309) (o := .cells #[.complex .f32 a0_0.re a0_0.im, .complex .f32 a0_1.re a0_1.im, .complex .f32 a0_2.re a0_2.im] 39 (0, 0)) (bu BK309.out) hb)
             have n1_ := Aside0.mk (blk_below (g := gb310) (o := .cells #[.complex .f32 0 0, .complex .f32 0 0, .complex .f32 0 0] 80 (0, 0)) (bu BK310.out) hb)
             have n2_ := Aside0.mk (below_step tb hb)
             clear BK309
             clear BK310
             clear HB
             have BK309 := n0_
             have BK310 := n1_
             have HB := n2_
             clear n0_ n1_ n2_
             (try clear hb)
             (try clear hb2)
             (try clear hk)
             (try clear hi)
             refine hK.out _ _ ⟨(blk_cell BK309.out 0).trans rfl, (blk_cell BK309.out 1).trans rfl, (blk_cell BK309.out 2).trans rfl⟩ (fun hHeld => ?_)
             clear hK K
             refine norm_ (a' := ?_) ?_ ?_
             rotate_left
             ·show Act.put _ (some 28) _ = _
              refine ps_ ?_
              rfl
             refine pure_ (i := 20) (N := some 29) (v := ?_) (a' := ?_) #[true, true, true, true, true, true, true, true, true, true, true, true, true, true, true, true, true, true, true, true, true, false, true, true, true, true, true, false, false, true, true, true, false, false, false, false, false] rfl rfl (any_of HT_.out (by kernel_rfl)) (fun _ _ _ h => h) (Or.inl ⟨by rfl, ?_⟩) ?_ ?_
             rotate_left
             ·intro w'
              go_simp
              with_reducible rfl
             rotate_left
             ·refine ps_ ?_
              rfl
             refine one_ (i := 21) (N := some 30) #[true, true, true, true, true, true, true, true, true, true, true, true, true, true, true, true, true, true, true, true, true, true, true, true, true, true, true, false, false, true, true, true, false, false, false, false, false] rfl rfl (one_of HT_.out (by kernel_rfl)) (by decide) (fun K hK => ?_)
             refine goes_ Try.func105 (by kernel_rfl) rfl #[.complex .f32 (fv .add .f32 (fv .add .f32 a0_0.re t314.re) t315.re) (fv .add .f32 (fv .add .f32 a0_0.im t314.im) t315.im), .float .f32 1051372203] (by rfl) rfl rfl mp_ ?_
             with_reducible refine (impl_ScaleComplex.calls (⟨fv .add .f32 (fv .add .f32 a0_0.re t314.re) t315.re, fv .add .f32 (fv .add .f32 a0_0.im t314.im) t315.im⟩ : Cx) 1051372203 t316 _ A14.out).mono ?_
             rintro e w29 ⟨rfl, hb⟩
             refine ⟨_, rfl, ?_⟩
             have n0_ := Aside0.mk (blk_below (g := gb309) (o := .cells #[.complex .f32 a0_0.re a0_0.im, .complex .f32 a0_1.re a0_1.im, .complex .f32 a0_2.re a0_2.im] 39 (0, 0)) (bu BK309.out) hb)
             have n1_ := Aside0.mk (blk_below (g := gb310) (o := .cells #[.complex .f32 0 0, .complex .f32 0 0, .complex .f32 0 0] 80 (0, 0)) (bu BK310.out) hb)
             have n2_ := Aside0.mk (below_step tb hb)
             clear BK309
             clear BK310
             clear HB
             have BK309 := n0_
             have BK310 := n1_
             have HB := n2_
             clear n0_ n1_ n2_
             (try clear hb)
             (try clear hb2)
             (try clear hk)
             (try clear hi)
             refine hK.out _ _ ⟨(blk_cell BK309.out 0).trans rfl, (blk_cell BK309.out 1).trans rfl, (blk_cell BK309.out 2).trans rfl⟩ (fun hHeld => ?_)
             clear hK K
             refine norm_ (a' := ?_) ?_ ?_
             rotate_left
             ·show Act.put _ (some 30) _ = _
              refine ps_ ?_
              rfl
             refine one_ (i := 27) (N := some 36) #[true, true, true, true, true, true, true, true, true, true, true, true, true, true, true, true, true, true, true, true, true, true, true, true, true, true, true, true, false, true, true, true, false, false, false, false, false] rfl rfl (one_of HT_.out (by kernel_rfl)) (by decide) (fun K hK => ?_)
             refine goes_ Try.func71 (by kernel_rfl) rfl #[.complex .f32 t312.re t312.im, .complex .f32 a0_1.re a0_1.im] (by rfl) rfl rfl mp_ ?_
             with_reducible refine (impl_MulComplex.calls t312 a0_1 t317 _ A15.out).mono ?_
             rintro e w30 ⟨rfl, hb⟩
             refine ⟨_, rfl, ?_⟩
             have n0_ := Aside0.mk (blk_below (g := gb309) (o := .cells #[.complex .f32 a0_0.re a0_0.im, .complex .f32 a0_1.re a0_1.im, .complex .f32 a0_2.re a0_2.im] 39 (0, 0)) (bu BK309.out) hb)
             have n1_ := Aside0.mk (blk_below (g := gb310) (o := .cells #[.complex .f32 0 0, .complex .f32 0 0, .complex .f32 0 0] 80 (0, 0)) (bu BK310.out) hb)
             have n2_ := Aside0.mk (below_step tb hb)
             clear BK309
             clear BK310
             clear HB
             have BK309 := n0_
             have BK310 := n1_
             have HB := n2_
             clear n0_ n1_ n2_
             (try clear hb)
             (try clear hb2)
             (try clear hk)
             (try clear hi)
             refine hK.out _ _ ⟨(blk_cell BK309.out 0).trans rfl, (blk_cell BK309.out 1).trans rfl, (blk_cell BK309.out 2).trans rfl⟩ (fun hHeld => ?_)
             clear hK K
             refine norm_ (a' := ?_) ?_ ?_
             rotate_left
             ·show Act.put _ (some 36) _ = _
              refine ps_ ?_
              rfl
             refine pure_ (i := 28) (N := some 37) (v := ?_) (a' := ?_) #[true, true, true, true, true, true, true, true, true, true, true, true, true, true, true, true, true, true, true, true, true, true, true, true, true, true, true, true, true, true, true, true, false, false, false, false, false] rfl rfl (any_of HT_.out (by kernel_rfl)) (fun _ _ _ h => h) (Or.inl ⟨by rfl, ?_⟩) ?_ ?_
             rotate_left
             ·intro w'
              go_simp
              with_reducible rfl
             rotate_left
             ·refine ps_ ?_
              rfl
             refine one_ (i := 32) (N := some 41) #[true, true, true, true, true, true, true, true, true, true, true, true, true, true, true, true, true, true, true, true, true, true, true, true, true, true, true, true, true, true, true, true, true, false, false, false, false] rfl rfl (one_of HT_.out (by kernel_rfl)) (by decide) (fun K hK => ?_)
             refine goes_ Try.func71 (by kernel_rfl) rfl #[.complex .f32 t311.re t311.im, .complex .f32 a0_2.re a0_2.im] (by rfl) rfl rfl mp_ ?_
             with_reducible refine (impl_MulComplex.calls t311 a0_2 t318 _ A18.out).mono ?_
             rintro e w31 ⟨rfl, hb⟩
             refine ⟨_, rfl, ?_⟩
             have n0_ := Aside0.mk (blk_below (g := gb309) (o := .cells #[.complex .f32 a0_0.re a0_0.im, .complex .f32 a0_1.re a0_1.im, .complex .f32 a0_2.re a0_2.im] 39 (0, 0)) (bu BK309.out) hb)
             have n1_ := Aside0.mk (blk_below (g := gb310) (o := .cells #[.complex .f32 0 0, .complex .f32 0 0, .complex .f32 0 0] 80 (0, 0)) (bu BK310.out) hb)
             have n2_ := Aside0.mk (below_step tb hb)
             clear BK309
             clear BK310
             clear HB
             have BK309 := n0_
             have BK310 := n1_
             have HB := n2_
             clear n0_ n1_ n2_
             (try clear hb)
             (try clear hb2)
             (try clear hk)
             (try clear hi)
             refine hK.out _ _ ⟨(blk_cell BK309.out 0).trans rfl, (blk_cell BK309.out 1).trans rfl, (blk_cell BK309.out 2).trans rfl⟩ (fun hHeld => ?_)
             clear hK K
             refine norm_ (a' := ?_) ?_ ?_
             rotate_left
             ·show Act.put _ (some 41) _ = _
              refine ps_ ?_
              rfl
             refine pure_ (i := 33) (N := some 42) (v := ?_) (a' := ?_) #[true, true, true, true, true, true, true, true, true, true, true, true, true, true, true, true, true, true, true, true, true, true, true, true, true, true, true, true, true, true, true, true, true, true, false, false, false] rfl rfl (any_of HT_.out (by kernel_rfl)) (fun _ _ _ h => h) (Or.inl ⟨by rfl, ?_⟩) ?_ ?_
             rotate_left
             ·intro w'
              go_simp
              with_reducible rfl
             rotate_left
             ·refine ps_ ?_
              rfl
             refine one_ (i := 34) (N := some 43) #[true, true, true, true, true, true, true, true, true, true, true, true, true, true, true, true, true, true, true, true, true, true, true, true, true, true, true, true, true, true, true, true, true, true, true, false, false] rfl rfl (one_of HT_.out (by kernel_rfl)) (by decide) (fun K hK => ?_)
             refine goes_ Try.func105 (by kernel_rfl) rfl #[.complex .f32 (fv .add .f32 (fv .add .f32 a0_0.re t317.re) t318.re) (fv .add .f32 (fv .add .f32 a0_0.im t317.im) t318.im), .float .f32 1051372203] (by rfl) rfl rfl mp_ ?_
             with_reducible refine (impl_ScaleComplex.calls (⟨fv .add .f32 (fv .add .f32 a0_0.re t317.re) t318.re, fv .add .f32 (fv .add .f32 a0_0.im t317.im) t318.im⟩ : Cx) 1051372203 t319 _ A21.out).mono ?_
             rintro e w32 ⟨rfl, hb⟩
             refine ⟨_, rfl, ?_⟩
             have n0_ := Aside0.mk (blk_below (g := gb309) (o := .cells #[.complex .f32 a0_0.re a0_0.im, .complex .f32 a0_1.re a0_1.im, .complex .f32 a0_2.re a0_2.im] 39 (0, 0)) (bu BK309.out) hb)
             have n1_ := Aside0.mk (blk_below (g := gb310) (o := .cells #[.complex .f32 0 0, .complex .f32 0 0, .complex .f32 0 0] 80 (0, 0)) (bu BK310.out) hb)
             have n2_ := Aside0.mk (below_step tb hb)
             clear BK309
             clear BK310
             clear HB
             have BK309 := n0_
             have BK310 := n1_
             have HB := n2_
             clear n0_ n1_ n2_
             (try clear hb)
             (try clear hb2)
             (try clear hk)
             (try clear hi)
             refine hK.out _ _ ⟨(blk_cell BK309.out 0).trans rfl, (blk_cell BK309.out 1).trans rfl, (blk_cell BK309.out 2).trans rfl⟩ (fun hHeld => ?_)
             clear hK K
             refine norm_ (a' := ?_) ?_ ?_
             rotate_left
             ·show Act.put _ (some 43) _ = _
              refine ps_ ?_
              rfl
             refine pure_ (i := 35) (N := some 44) (v := ?_) (a' := ?_) #[true, true, true, true, true, true, true, true, true, true, true, true, true, true, true, true, true, true, true, true, true, true, true, true, true, true, true, true, true, true, true, true, true, true, true, true, false] rfl rfl (any_of HT_.out (by kernel_rfl)) (fun _ _ _ h => h) (Or.inl ⟨by rfl, ?_⟩) ?_ ?_
             rotate_left
             ·intro w'
              go_simp
              with_reducible rfl
             rotate_left
             ·refine ps_ ?_
              rfl
             refine one_ (i := 36) (N := none) #[true, true, true, true, true, true, true, true, true, true, true, true, true, true, true, true, true, true, true, true, true, true, true, true, true, true, true, true, true, true, true, true, true, true, true, true, true] rfl rfl (one_of HT_.out (by kernel_rfl)) (by decide) (fun K hK => ?_)
             have hs33 : w32.cell? ⟨gb310, 0, none⟩ = some (.complex .f32 0 0) := (blk_cell BK310.out 0).trans rfl
             have hfs33 := blk_frozen BK310.out 0
             have hns33_0 := NB309_310.out
             have hms33_0 := NB310_309.out
             have hs34 : w32.cell? ⟨gb310, 1, none⟩ = some (.complex .f32 0 0) := (blk_cell BK310.out 1).trans rfl
             have hfs34 := blk_frozen BK310.out 1
             have hns34_0 := NB309_310.out
             have hms34_0 := NB310_309.out
             have hs35 : w32.cell? ⟨gb310, 2, none⟩ = some (.complex .f32 0 0) := (blk_cell BK310.out 2).trans rfl
             have hfs35 := blk_frozen BK310.out 2
             have hns35_0 := NB309_310.out
             have hms35_0 := NB310_309.out
             refine skip_ (w1 := ?_) (by rfl) rfl ?_ ?_
             rotate_left
             ·go_simp
              rfl
             refine hK.out _ _ ⟨((cell_far (p := ⟨gb310, _, none⟩) NB309_310.out _).trans (((cell_far (p := ⟨gb310, _, none⟩) NB309_310.out _).trans (((cell_far (p := ⟨gb310, _, none⟩) NB309_310.out _).trans (hHeld.1)))))), ((cell_far (p := ⟨gb310, _, none⟩) NB309_310.out _).trans (((cell_far (p := ⟨gb310, _, none⟩) NB309_310.out _).trans (((cell_far (p := ⟨gb310, _, none⟩) NB309_310.out _).trans (hHeld.2.1)))))), ((cell_far (p := ⟨gb310, _, none⟩) NB309_310.out _).trans (((cell_far (p := ⟨gb310, _, none⟩) NB309_310.out _).trans (((cell_far (p := ⟨gb310, _, none⟩) NB309_310.out _).trans (hHeld.2.2))))))⟩ (fun hHeld => ?_)
             clear hK K
             refine done_ (done_of HT_.out (by kernel_rfl)) ?_
             try go_wp2
             refine bodyPost_ret (results_cell_row rfl _ _ gb310 80 #[.complex .f32 t313.re t313.im, .complex .f32 t316.re t316.im, .complex .f32 t319.re t319.im] (0, 0) _ rfl (by refine bu ?_; refine blk_put (cs := #[.complex .f32 t313.re t313.im, .complex .f32 t316.re t316.im, .complex .f32 0 0]) ?_ 2 _ rfl; refine bu ?_; refine blk_put (cs := #[.complex .f32 t313.re t313.im, .complex .f32 0 0, .complex .f32 0 0]) ?_ 1 _ rfl; refine bu ?_; refine blk_put (cs := #[.complex .f32 0 0, .complex .f32 0 0, .complex .f32 0 0]) ?_ 0 _ rfl; refine bu ?_; exact BK310.out) Try.underlying80 rfl (by kernel_rfl)) rfl ?_
             exact ⟨re_, tb⟩
            ·rw [if_neg c20] at H
             exact absurd H (by simp)
           ·rw [if_neg c19] at H
            exact absurd H (by simp)
          ·rw [if_neg c17] at H
           exact absurd H (by simp)
         ·rw [if_neg c16] at H
          exact absurd H (by simp)
        ·rw [if_neg c13] at H
         exact absurd H (by simp)
       ·rw [if_neg c12] at H
        exact absurd H (by simp)
      ·rw [if_neg c10] at H
       exact absurd H (by simp)
     ·rw [if_neg c9] at H
      exact absurd H (by simp)
    ·rw [if_neg c6] at H
     exact absurd H (by simp)
   ·rw [if_neg c5] at H
    exact absurd H (by simp)
  ·rw [if_neg c4] at H
   exact absurd H (by simp)
 ·rw [if_neg c3] at H
  exact absurd H (by simp)

end Go.Proofs.Ytcgpomicgbmdlaa.PFnCommon
namespace Go.Proofs.Ytcgpomicgbmdlaa.PFnCommon
open Go.RowKit Go.Proofs.YtcgpomicgbmdlaaW.PrintWords Go.Proofs.YtcgpomicgbmdlaaW.PrintLast Go.Proofs.YtcgpomicgbmdlaaW.PrintMore
attribute [local go_sem] max2_int min2_int max_two min_two max_three min_three max_four min_four   -- for this text's walks alone
set_option linter.unusedVariables false
set_option linter.unusedSimpArgs false

/-! ### impl_SequenceOf: function 47 -/
def impl_SequenceOf.f (a0 : Cx) (a1 : Cx) : Option (Cx × Cx) := if fok .add .f32 a0.re a1.re = true then (if fok .add .f32 a0.im a1.im = true then (if fok .add .f32 (fv .add .f32 a0.re a1.re) a1.re = true then (if fok .add .f32 (fv .add .f32 a0.im a1.im) a1.im = true then (if fok .sub .f32 a0.re a1.re = true then (if fok .sub .f32 a0.im a1.im = true then (some ((⟨fv .add .f32 (fv .add .f32 a0.re a1.re) a1.re, fv .add .f32 (fv .add .f32 a0.im a1.im) a1.im⟩ : Cx), (⟨fv .sub .f32 a0.re a1.re, fv .sub .f32 a0.im a1.im⟩ : Cx))) else (none)) else (none)) else (none)) else (none)) else (none)) else (none)
set_option maxHeartbeats 8000000 in
set_option maxRecDepth 100000 in
theorem impl_SequenceOf.calls (a0 : Cx) (a1 : Cx) (r1 : Cx) (r2 : Cx) (w : World) (h : impl_SequenceOf.f a0 a1 = some (r1, r2)) :
  Calls Try.prog 47 #[.complex .f32 a0.re a0.im, .complex .f32 a1.re a1.im] w fun e w' => e = .returned (.tuple #[.complex .f32 r1.re r1.im, .complex .f32 r2.re r2.im]) ∧ Drawn0 w w' := by
 have H : (if fok .add .f32 a0.re a1.re = true then (if fok .add .f32 a0.im a1.im = true then (if fok .add .f32 (fv .add .f32 a0.re a1.re) a1.re = true then (if fok .add .f32 (fv .add .f32 a0.im a1.im) a1.im = true then (if fok .sub .f32 a0.re a1.re = true then (if fok .sub .f32 a0.im a1.im = true then (some ((⟨fv .add .f32 (fv .add .f32 a0.re a1.re) a1.re, fv .add .f32 (fv .add .f32 a0.im a1.im) a1.im⟩ : Cx), (⟨fv .sub .f32 a0.re a1.re, fv .sub .f32 a0.im a1.im⟩ : Cx))) else (none)) else (none)) else (none)) else (none)) else (none)) else (none)) = some (r1, r2) := h
 clear h
 by_cases c3 : fok .add .f32 a0.re a1.re = true
 ·rw [if_pos c3] at H
  have c3b0 := eq_true c3
  have c3b1 : decide (fok .add .f32 a0.re a1.re = true) = true := decide_eq_true c3
  clear c3
  by_cases c4 : fok .add .f32 a0.im a1.im = true
  ·rw [if_pos c4] at H
   have c4b0 := eq_true c4
   have c4b1 : decide (fok .add .f32 a0.im a1.im = true) = true := decide_eq_true c4
   clear c4
   by_cases c5 : fok .add .f32 (fv .add .f32 a0.re a1.re) a1.re = true
   ·rw [if_pos c5] at H
    have c5b0 := eq_true c5
    have c5b1 : decide (fok .add .f32 (fv .add .f32 a0.re a1.re) a1.re = true) = true := decide_eq_true c5
    clear c5
    by_cases c6 : fok .add .f32 (fv .add .f32 a0.im a1.im) a1.im = true
    ·rw [if_pos c6] at H
     have c6b0 := eq_true c6
     have c6b1 : decide (fok .add .f32 (fv .add .f32 a0.im a1.im) a1.im = true) = true := decide_eq_true c6
     clear c6
     by_cases c7 : fok .sub .f32 a0.re a1.re = true
     ·rw [if_pos c7] at H
      have c7b0 := eq_true c7
      have c7b1 : decide (fok .sub .f32 a0.re a1.re = true) = true := decide_eq_true c7
      clear c7
      by_cases c8 : fok .sub .f32 a0.im a1.im = true
      ·rw [if_pos c8] at H
       have c8b0 := eq_true c8
       have c8b1 : decide (fok .sub .f32 a0.im a1.im = true) = true := decide_eq_true c8
       clear c8
       simp only [Option.some.injEq, Prod.mk.injEq] at H
       obtain ⟨rfl, rfl⟩ := H
       go_enter Try.func47, Try.ntmps47
       go_wp2
       go_ret2
       exact ⟨rs_, dr_⟩
      ·rw [if_neg c8] at H
       exact absurd H (by simp)
     ·rw [if_neg c7] at H
      exact absurd H (by simp)
    ·rw [if_neg c6] at H
     exact absurd H (by simp)
   ·rw [if_neg c5] at H
    exact absurd H (by simp)
  ·rw [if_neg c4] at H
   exact absurd H (by simp)
 ·rw [if_neg c3] at H
  exact absurd H (by simp)

end Go.Proofs.Ytcgpomicgbmdlaa.PFnCommon
namespace Go.Proofs.Ytcgpomicgbmdlaa.PFnCommon
open Go.RowKit Go.Proofs.YtcgpomicgbmdlaaW.PrintWords Go.Proofs.YtcgpomicgbmdlaaW.PrintLast Go.Proofs.YtcgpomicgbmdlaaW.PrintMore
attribute [local go_sem] max2_int min2_int max_two min_two max_three min_three max_four min_four   -- for this text's walks alone
set_option linter.unusedVariables false
set_option linter.unusedSimpArgs false

/-! ### impl_ConjugateOf: function 72 -/
def impl_ConjugateOf.f (a0 : Cx) : Option (Cx) := some (⟨a0.re, fneg .f32 a0.im⟩ : Cx)
set_option maxHeartbeats 8000000 in
set_option maxRecDepth 100000 in
theorem impl_ConjugateOf.calls (a0 : Cx) (r : Cx) (w : World) (h : impl_ConjugateOf.f a0 = some r) :
  Calls Try.prog 72 #[.complex .f32 a0.re a0.im] w fun e w' => e = .returned (.complex .f32 r.re r.im) ∧ Below w.heap.size w w' := by
 have HB := Aside0.mk (Below.refl w.heap.size w)
 have H : (some (⟨a0.re, fneg .f32 a0.im⟩ : Cx)) = some r := h
 clear h
 obtain rfl := Option.some.inj H
 go_enter Try.func72, Try.ntmps72
 go_wp2
 go_ret
 exact ⟨re_, tb⟩

/-! ### impl_power: function 74 -/
def impl_power.f (a0 : Cx) : Option (Nat) := (impl_wide.f a0).bind fun bt320 => (if fok .mul .f64 bt320.1 bt320.1 = true then (if fok .mul .f64 bt320.2 bt320.2 = true then (if fok .add .f64 (fv .mul .f64 bt320.1 bt320.1) (fv .mul .f64 bt320.2 bt320.2) = true then (some (fv .add .f64 (fv .mul .f64 bt320.1 bt320.1) (fv .mul .f64 bt320.2 bt320.2))) else (none)) else (none)) else (none))
set_option maxHeartbeats 8000000 in
set_option maxRecDepth 100000 in
theorem impl_power.calls (a0 : Cx) (r : Nat) (w : World) (h : impl_power.f a0 = some r) :
  Calls Try.prog 74 #[.complex .f32 a0.re a0.im] w fun e w' => e = .returned (.float .f64 r) ∧ Below w.heap.size w w' := by
 have HB := Aside0.mk (Below.refl w.heap.size w)
 have H : ((impl_wide.f a0).bind fun bt320 => (if fok .mul .f64 bt320.1 bt320.1 = true then (if fok .mul .f64 bt320.2 bt320.2 = true then (if fok .add .f64 (fv .mul .f64 bt320.1 bt320.1) (fv .mul .f64 bt320.2 bt320.2) = true then (some (fv .add .f64 (fv .mul .f64 bt320.1 bt320.1) (fv .mul .f64 bt320.2 bt320.2))) else (none)) else (none)) else (none))) = some r := h
 clear h
 replace H := Option.bind_eq_some_iff.mp H
 obtain ⟨⟨t320, t321⟩, A20, H⟩ := H
 try dsimp only at H
 have A2 := Aside0.mk A20
 clear A20
 by_cases c3 : fok .mul .f64 t320 t320 = true
 ·rw [if_pos c3] at H
  have c3b0 := eq_true c3
  have c3b1 : decide (fok .mul .f64 t320 t320 = true) = true := decide_eq_true c3
  clear c3
  by_cases c4 : fok .mul .f64 t321 t321 = true
  ·rw [if_pos c4] at H
   have c4b0 := eq_true c4
   have c4b1 : decide (fok .mul .f64 t321 t321 = true) = true := decide_eq_true c4
   clear c4
   by_cases c5 : fok .add .f64 (fv .mul .f64 t320 t320) (fv .mul .f64 t321 t321) = true
   ·rw [if_pos c5] at H
    have c5b0 := eq_true c5
    have c5b1 : decide (fok .add .f64 (fv .mul .f64 t320 t320) (fv .mul .f64 t321 t321) = true) = true := decide_eq_true c5
    clear c5
    obtain rfl := Option.some.inj H
    go_enter Try.func74, Try.ntmps74
    go_wp2_with (first | ((with_reducible refine gate_callee (f := 126) rfl ?_); refine gx_ (some 7) Try.func126 #[.complex .f32 a0.re a0.im] ?_; (with_reducible refine (impl_wide.calls a0 t320 t321 _ A2.out).mono ?_); rintro e w6 ⟨rfl, hb⟩; refine ⟨_, rfl, ?_⟩; have n0_ := Aside0.mk (below_step tb hb); clear HB; have HB := n0_; clear n0_; (try clear hb); (try clear hb2); (try clear hk); (try clear hi)))
    go_ret
    exact ⟨re_, tb⟩
   ·rw [if_neg c5] at H
    exact absurd H (by simp)
  ·rw [if_neg c4] at H
   exact absurd H (by simp)
 ·rw [if_neg c3] at H
  exact absurd H (by simp)

end Go.Proofs.Ytcgpomicgbmdlaa.PFnCommon
namespace Go.Proofs.Ytcgpomicgbmdlaa.PFnCommon
open Go.RowKit Go.Proofs.YtcgpomicgbmdlaaW.PrintWords Go.Proofs.YtcgpomicgbmdlaaW.PrintLast Go.Proofs.YtcgpomicgbmdlaaW.PrintMore
attribute [local go_sem] max2_int min2_int max_two min_two max_three min_three max_four min_four   -- for this text's walks alone
set_option linter.unusedVariables false
set_option linter.unusedSimpArgs false

/-! ### impl_QuotientOf: function 95 -/
def impl_QuotientOf.f (a0 : Cx) (a1 : Cx) : Option (Cx) := (impl_wide.f a0).bind fun bt322 => ((impl_ConjugateOf.f a1).bind fun t324 => ((impl_wide.f t324).bind fun bt325 => ((impl_power.f a1).bind fun t327 => (if fok .mul .f64 bt322.1 bt325.1 = true then (if fok .mul .f64 bt322.2 bt325.2 = true then (if fok .sub .f64 (fv .mul .f64 bt322.1 bt325.1) (fv .mul .f64 bt322.2 bt325.2) = true then (if fok .mul .f64 bt322.1 bt325.2 = true then (if fok .mul .f64 bt322.2 bt325.1 = true then (if fok .add .f64 (fv .mul .f64 bt322.1 bt325.2) (fv .mul .f64 bt322.2 bt325.1) = true then (if fok .quo .f64 (fv .sub .f64 (fv .mul .f64 bt322.1 bt325.1) (fv .mul .f64 bt322.2 bt325.2)) t327 = true then (if cvok .f64 (fv .quo .f64 (fv .sub .f64 (fv .mul .f64 bt322.1 bt325.1) (fv .mul .f64 bt322.2 bt325.2)) t327) .f32 = true then (if fok .quo .f64 (fv .add .f64 (fv .mul .f64 bt322.1 bt325.2) (fv .mul .f64 bt322.2 bt325.1)) t327 = true then (if cvok .f64 (fv .quo .f64 (fv .add .f64 (fv .mul .f64 bt322.1 bt325.2) (fv .mul .f64 bt322.2 bt325.1)) t327) .f32 = true then (some (⟨cv .f64 (fv .quo .f64 (fv .sub .f64 (fv .mul .f64 bt322.1 bt325.1) (fv .mul .f64 bt322.2 bt325.2)) t327) .f32, cv .f64 (fv .quo .f64 (fv .add .f64 (fv .mul .f64 bt322.1 bt325.2) (fv .mul .f64 bt322.2 bt325.1)) t327) .f32⟩ : Cx)) else (none)) else (none)) else (none)) else (none)) else (none)) else (none)) else (none)) else (none)) else (none)) else (none)))))
set_option maxHeartbeats 8000000 in
set_option maxRecDepth 100000 in
theorem impl_QuotientOf.calls (a0 : Cx) (a1 : Cx) (r : Cx) (w : World) (h : impl_QuotientOf.f a0 a1 = some r) :
  Calls Try.prog 95 #[.complex .f32 a0.re a0.im, .complex .f32 a1.re a1.im] w fun e w' => e = .returned (.complex .f32 r.re r.im) ∧ Below w.heap.size w w' := by
 have HB := Aside0.mk (Below.refl w.heap.size w)
 have H : ((impl_wide.f a0).bind fun bt322 => ((impl_ConjugateOf.f a1).bind fun t324 => ((impl_wide.f t324).bind fun bt325 => ((impl_power.f a1).bind fun t327 => (if fok .mul .f64 bt322.1 bt325.1 = true then (if fok .mul .f64 bt322.2 bt325.2 = true then (if fok .sub .f64 (fv .mul .f64 bt322.1 bt325.1) (fv .mul .f64 bt322.2 bt325.2) = true then (if fok .mul .f64 bt322.1 bt325.2 = true then (if fok .mul .f64 bt322.2 bt325.1 = true then (if fok .add .f64 (fv .mul .f64 bt322.1 bt325.2) (fv .mul .f64 bt322.2 bt325.1) = true then (if fok .quo .f64 (fv .sub .f64 (fv .mul .f64 bt322.1 bt325.1) (fv .mul .f64 bt322.2 bt325.2)) t327 = true then (if cvok .f64 (fv .quo .f64 (fv .sub .f64 (fv .mul .f64 bt322.1 bt325.1) (fv .mul .f64 bt322.2 bt325.2)) t327) .f32 = true then (if fok .quo .f64 (fv .add .f64 (fv .mul .f64 bt322.1 bt325.2) (fv .mul .f64 bt322.2 bt325.1)) t327 = true then (if cvok .f64 (fv .quo .f64 (fv .add .f64 (fv .mul .f64 bt322.1 bt325.2) (fv .mul .f64 bt322.2 bt325.1)) t327) .f32 = true then (some (⟨cv .f64 (fv .quo .f64 (fv .sub .f64 (fv .mul .f64 bt322.1 bt325.1) (fv .mul .f64 bt322.2 bt325.2)) t327) .f32, cv .f64 (fv .quo .f64 (fv .add .f64 (fv .mul .f64 bt322.1 bt325.2) (fv .mul .f64 bt322.2 bt325.1)) t327) .f32⟩ : Cx)) else (none)) else (none)) else (none)) else (none)) else (none)) else (none)) else (none)) else (none)) else (none)) else (none)))))) = some r := h
 clear h
 replace H := Option.bind_eq_some_iff.mp H
 obtain ⟨⟨t322, t323⟩, A30, H⟩ := H
 try dsimp only at H
 have A3 := Aside0.mk A30
 clear A30
 replace H := Option.bind_eq_some_iff.mp H
 obtain ⟨t324, A40, H⟩ := H
 try dsimp only at H
 have A4 := Aside0.mk A40
 clear A40
 replace H := Option.bind_eq_some_iff.mp H
 obtain ⟨⟨t325, t326⟩, A50, H⟩ := H
 try dsimp only at H
 have A5 := Aside0.mk A50
 clear A50
 replace H := Option.bind_eq_some_iff.mp H
 obtain ⟨t327, A60, H⟩ := H
 try dsimp only at H
 have A6 := Aside0.mk A60
 clear A60
 by_cases c7 : fok .mul .f64 t322 t325 = true
 ·rw [if_pos c7] at H
  have c7b0 := eq_true c7
  have c7b1 : decide (fok .mul .f64 t322 t325 = true) = true := decide_eq_true c7
  clear c7
  by_cases c8 : fok .mul .f64 t323 t326 = true
  ·rw [if_pos c8] at H
   have c8b0 := eq_true c8
   have c8b1 : decide (fok .mul .f64 t323 t326 = true) = true := decide_eq_true c8
   clear c8
   by_cases c9 : fok .sub .f64 (fv .mul .f64 t322 t325) (fv .mul .f64 t323 t326) = true
   ·rw [if_pos c9] at H
    have c9b0 := eq_true c9
    have c9b1 : decide (fok .sub .f64 (fv .mul .f64 t322 t325) (fv .mul .f64 t323 t326) = true) = true := decide_eq_true c9
    clear c9
    by_cases c10 : fok .mul .f64 t322 t326 = true
    ·rw [if_pos c10] at H
     have c10b0 := eq_true c10
     have c10b1 : decide (fok .mul .f64 t322 t326 = true) = true := decide_eq_true c10
     clear c10
     by_cases c11 : fok .mul .f64 t323 t325 = true
     ·rw [if_pos c11] at H
      have c11b0 := eq_true c11
      have c11b1 : decide (fok .mul .f64 t323 t325 = true) = true := decide_eq_true c11
      clear c11
      by_cases c12 : fok .add .f64 (fv .mul .f64 t322 t326) (fv .mul .f64 t323 t325) = true
      ·rw [if_pos c12] at H
       have c12b0 := eq_true c12
       have c12b1 : decide (fok .add .f64 (fv .mul .f64 t322 t326) (fv .mul .f64 t323 t325) = true) = true := decide_eq_true c12
       clear c12
       by_cases c13 : fok .quo .f64 (fv .sub .f64 (fv .mul .f64 t322 t325) (fv .mul .f64 t323 t326)) t327 = true
       ·rw [if_pos c13] at H
        have c13b0 := eq_true c13
        have c13b1 : decide (fok .quo .f64 (fv .sub .f64 (fv .mul .f64 t322 t325) (fv .mul .f64 t323 t326)) t327 = true) = true := decide_eq_true c13
        clear c13
        by_cases c14 : cvok .f64 (fv .quo .f64 (fv .sub .f64 (fv .mul .f64 t322 t325) (fv .mul .f64 t323 t326)) t327) .f32 = true
        ·rw [if_pos c14] at H
         have c14b0 := eq_true c14
         have c14b1 : decide (cvok .f64 (fv .quo .f64 (fv .sub .f64 (fv .mul .f64 t322 t325) (fv .mul .f64 t323 t326)) t327) .f32 = true) = true := decide_eq_true c14
         clear c14
         by_cases c15 : fok .quo .f64 (fv .add .f64 (fv .mul .f64 t322 t326) (fv .mul .f64 t323 t325)) t327 = true
         ·rw [if_pos c15] at H
          have c15b0 := eq_true c15
          have c15b1 : decide (fok .quo .f64 (fv .add .f64 (fv .mul .f64 t322 t326) (fv .mul .f64 t323 t325)) t327 = true) = true := decide_eq_true c15
          clear c15
          by_cases c16 : cvok .f64 (fv .quo .f64 (fv .add .f64 (fv .mul .f64 t322 t326) (fv .mul .f64 t323 t325)) t327) .f32 = true
          ·rw [if_pos c16] at H
           have c16b0 := eq_true c16
           have c16b1 : decide (cvok .f64 (fv .quo .f64 (fv .add .f64 (fv .mul .f64 t322 t326) (fv .mul .f64 t323 t325)) t327) .f32 = true) = true := decide_eq_true c16
           clear c16
           obtain rfl := Option.some.inj H
           go_enter Try.func95, Try.ntmps95
           go_wp2_with (first | ((with_reducible refine gate_callee (f := 126) rfl ?_); refine gx_ (some 14) Try.func126 #[.complex .f32 a0.re a0.im] ?_; (with_reducible refine (impl_wide.calls a0 t322 t323 _ A3.out).mono ?_); rintro e w17 ⟨rfl, hb⟩; refine ⟨_, rfl, ?_⟩; have n0_ := Aside0.mk (below_step tb hb); clear HB; have HB := n0_; clear n0_; (try clear hb); (try clear hb2); (try clear hk); (try clear hi)) | ((with_reducible refine gate_callee (f := 72) rfl ?_); refine gx_ (some 19) Try.func72 #[.complex .f32 a1.re a1.im] ?_; (with_reducible refine (impl_ConjugateOf.calls a1 t324 _ A4.out).mono ?_); rintro e w18 ⟨rfl, hb⟩; refine ⟨_, rfl, ?_⟩; have n0_ := Aside0.mk (below_step tb hb); clear HB; have HB := n0_; clear n0_; (try clear hb); (try clear hb2); (try clear hk); (try clear hi)) | ((with_reducible refine gate_callee (f := 126) rfl ?_); refine gx_ (some 20) Try.func126 #[.complex .f32 t324.re t324.im] ?_; (with_reducible refine (impl_wide.calls t324 t325 t326 _ A5.out).mono ?_); rintro e w19 ⟨rfl, hb⟩; refine ⟨_, rfl, ?_⟩; have n0_ := Aside0.mk (below_step tb hb); clear HB; have HB := n0_; clear n0_; (try clear hb); (try clear hb2); (try clear hk); (try clear hi)) | ((with_reducible refine gate_callee (f := 74) rfl ?_); refine gx_ (some 24) Try.func74 #[.complex .f32 a1.re a1.im] ?_; (with_reducible refine (impl_power.calls a1 t327 _ A6.out).mono ?_); rintro e w20 ⟨rfl, hb⟩; refine ⟨_, rfl, ?_⟩; have n0_ := Aside0.mk (below_step tb hb); clear HB; have HB := n0_; clear n0_; (try clear hb); (try clear hb2); (try clear hk); (try clear hi)))
           go_ret
           exact ⟨re_, tb⟩
          ·rw [if_neg c16] at H
           exact absurd H (by simp)
         ·rw [if_neg c15] at H
          exact absurd H (by simp)
        ·rw [if_neg c14] at H
         exact absurd H (by simp)
       ·rw [if_neg c13] at H
        exact absurd H (by simp)
      ·rw [if_neg c12] at H
       exact absurd H (by simp)
     ·rw [if_neg c11] at H
      exact absurd H (by simp)
    ·rw [if_neg c10] at H
     exact absurd H (by simp)
   ·rw [if_neg c9] at H
    exact absurd H (by simp)
  ·rw [if_neg c8] at H
   exact absurd H (by simp)
 ·rw [if_neg c7] at H
  exact absurd H (by simp)

end Go.Proofs.Ytcgpomicgbmdlaa.PFnCommon
namespace Go.Proofs.Ytcgpomicgbmdlaa.PFnCommon
open Go.RowKit Go.Proofs.YtcgpomicgbmdlaaW.PrintWords Go.Proofs.YtcgpomicgbmdlaaW.PrintLast Go.Proofs.YtcgpomicgbmdlaaW.PrintMore
attribute [local go_sem] max2_int min2_int max_two min_two max_three min_three max_four min_four   -- for this text's walks alone
set_option linter.unusedVariables false
set_option linter.unusedSimpArgs false

-- NOT PRINTED: function 181 (slices_IndexFunc_float32_float32)

-- NOT PRINTED: function 165 (slices_ContainsFunc_float32_float32)

/-! ### impl_IsFinite: function 94 -/
def impl_IsFinite.f (a0 : Nat) : Option (Bool) := if fok .sub .f32 a0 a0 = true then (some (feq .f32 (fv .sub .f32 a0 a0) 0)) else (none)
set_option maxHeartbeats 8000000 in
set_option maxRecDepth 100000 in
theorem impl_IsFinite.calls (a0 : Nat) (r : Bool) (w : World) (h : impl_IsFinite.f a0 = some r) :
  Calls Try.prog 94 #[.float .f32 a0] w fun e w' => e = .returned (.bool r) ∧ Drawn0 w w' := by
 have H : (if fok .sub .f32 a0 a0 = true then (some (feq .f32 (fv .sub .f32 a0 a0) 0)) else (none)) = some r := h
 clear h
 by_cases c2 : fok .sub .f32 a0 a0 = true
 ·rw [if_pos c2] at H
  have c2b0 := eq_true c2
  have c2b1 : decide (fok .sub .f32 a0 a0 = true) = true := decide_eq_true c2
  clear c2
  obtain rfl := Option.some.inj H
  go_enter Try.func94, Try.ntmps94
  go_wp2
  go_ret
  exact ⟨rs_, dr_⟩
 ·rw [if_neg c2] at H
  exact absurd H (by simp)

/-! ### impl_finite_1: function 166 -/
def impl_finite_1.f (a0 : Nat) : Option (Bool) := (impl_IsFinite.f a0).bind fun t328 => (some (!t328))
set_option maxHeartbeats 8000000 in
set_option maxRecDepth 100000 in
theorem impl_finite_1.calls (a0 : Nat) (r : Bool) (w : World) (h : impl_finite_1.f a0 = some r) :
  Calls Try.prog 166 #[.float .f32 a0] w fun e w' => e = .returned (.bool r) ∧ Drawn0 w w' := by
 have H : ((impl_IsFinite.f a0).bind fun t328 => (some (!t328))) = some r := h
 clear h
 replace H := Option.bind_eq_some_iff.mp H
 obtain ⟨t328, A20, H⟩ := H
 try dsimp only at H
 have A2 := Aside0.mk A20
 clear A20
 obtain rfl := Option.some.inj H
 go_enter Try.func166, Try.ntmps166
 go_wp2_with (first | ((with_reducible refine gate_callee (f := 94) rfl ?_); refine gx_ (some 4) Try.func94 #[.float .f32 a0] ?_; (with_reducible refine (impl_IsFinite.calls a0 t328 _ A2.out).mono ?_); rintro e w' ⟨rfl, ⟨nd, rfl⟩⟩; refine ⟨_, rfl, ?_⟩))
 go_ret
 exact ⟨rs_, dr_⟩

end Go.Proofs.Ytcgpomicgbmdlaa.PFnCommon
namespace Go.Proofs.Ytcgpomicgbmdlaa.PFnCommon
open Go.RowKit Go.Proofs.YtcgpomicgbmdlaaW.PrintWords Go.Proofs.YtcgpomicgbmdlaaW.PrintLast Go.Proofs.YtcgpomicgbmdlaaW.PrintMore
attribute [local go_sem] max2_int min2_int max_two min_two max_three min_three max_four min_four   -- for this text's walks alone
set_option linter.unusedVariables false
set_option linter.unusedSimpArgs false

/-! ### slices_IndexFunc_float32_float32_f166: function 181 -/
def slices_IndexFunc_float32_float32_f166.l0 : Nat → List Nat → Int → Int → Option (Int)
 | 0, _, _, _ => none
 | k + 1, x0, x7, x8 => if x8 < x7 then (if 0 ≤ x8 then (if x8 < (x0.length : Int) then ((impl_finite_1.f (rdOf (0 : Nat) x0 x8)).bind fun t330 => (if t330 = true then (some x8) else (slices_IndexFunc_float32_float32_f166.l0 k x0 x7 (wrap64 (x8 + 1))))) else (none)) else (none)) else (some (-1))
def slices_IndexFunc_float32_float32_f166.f (k : Nat) (l0 : List Nat)  : Option (Int) := slices_IndexFunc_float32_float32_f166.l0 k l0 (l0.length : Int) 0
theorem slices_IndexFunc_float32_float32_f166.mono_l : ∀ k, (∀ y0 y1 y2, LeO (slices_IndexFunc_float32_float32_f166.l0 k y0 y1 y2) (slices_IndexFunc_float32_float32_f166.l0 (k + 1) y0 y1 y2))
 | 0 => fun _ _ _ r h => by simp [slices_IndexFunc_float32_float32_f166.l0] at h
 | k + 1 => by
  have ih0 := slices_IndexFunc_float32_float32_f166.mono_l k
  ·intro y0 y1 y2
   unfold slices_IndexFunc_float32_float32_f166.l0
   repeat' first
   | (with_reducible exact ih0 _ _ _)
   | (with_reducible exact LeO.refl _)
   | (with_reducible exact LeO.none _)
   | (with_reducible refine LeO.ite ?_ ?_)
   | (with_reducible refine LeO.bind ?_ (fun _ => ?_))
   | exact ih0 _ _ _
   | exact LeO.none _
   | refine LeO.ite ?_ ?_
   | refine LeO.bind ?_ (fun _ => ?_)
theorem slices_IndexFunc_float32_float32_f166.mono : ∀ a0 k, LeO (slices_IndexFunc_float32_float32_f166.f k a0) (slices_IndexFunc_float32_float32_f166.f (k + 1) a0) := by
 intro a0 k
 have ih0 := slices_IndexFunc_float32_float32_f166.mono_l k
 unfold slices_IndexFunc_float32_float32_f166.f
 repeat' first
   | (with_reducible exact ih0 _ _ _)
   | (with_reducible exact LeO.refl _)
   | (with_reducible exact LeO.none _)
   | (with_reducible refine LeO.ite ?_ ?_)
   | (with_reducible refine LeO.bind ?_ (fun _ => ?_))
   | exact ih0 _ _ _
   | exact LeO.none _
   | refine LeO.ite ?_ ?_
   | refine LeO.bind ?_ (fun _ => ?_)
set_option maxHeartbeats 8000000 in
set_option maxRecDepth 100000 in
theorem slices_IndexFunc_float32_float32_f166.calls (k : Nat) (A0 : Option Addr) (c0 : Nat) (l0 : List Nat)  (r : Int) (w : World) (hr0 : Kd.C Kd.f32 w A0 l0.length l0) (hc0 : l0.length ≤ c0) (h : slices_IndexFunc_float32_float32_f166.f k l0 = some r) :
  Calls Try.prog 181 #[.slice A0 l0.length c0, .func (.func 166) #[] #[]] w fun e w' => e = .returned (.int .i64 r) ∧ Drawn0 w w' := by
 have HR0 := Aside0.mk hr0
 have HC0 := Aside0.mk hc0
 clear hr0 hc0
 have H : (slices_IndexFunc_float32_float32_f166.l0 k l0 (l0.length : Int) 0) = some r := h
 clear h
 have H' := Aside0.mk H
 clear H
 go_enter Try.func181, Try.ntmps181
 go_wp2
 go_loopg [8] k (fun kq v8 w' => ∃ (x8_1 : Int), v8 = .int .i64 x8_1 ∧ Aside0 (slices_IndexFunc_float32_float32_f166.l0 kq l0 (l0.length : Int) x8_1 = some r) ∧ Aside0 (kq ≤ k) ∧ Drawn0 w w')
 case atStart => exact ⟨(0), rs_, H', ⟨Nat.le_refl _⟩, dr_⟩
 case round =>
  clear H'
  try clear p2
  obtain ⟨x8_1, rfl, HA, HK1, ⟨m1, rfl⟩⟩ := hrel
  cases gk with
  | zero => exact absurd HA.out (by simp [slices_IndexFunc_float32_float32_f166.l0])
  | succ k1 =>
   have H := HA.out
   clear HA
   simp only [slices_IndexFunc_float32_float32_f166.l0] at H
   by_cases c3 : x8_1 < (l0.length : Int)
   ·rw [if_pos c3] at H
    have c3b0 : decide (x8_1 < (l0.length : Int)) = true := decide_eq_true c3
    clear c3
    by_cases c4 : 0 ≤ x8_1
    ·rw [if_pos c4] at H
     have c4b0 : decide (0 ≤ x8_1) = true := decide_eq_true c4
     clear c4
     by_cases c5 : x8_1 < (l0.length : Int)
     ·rw [if_pos c5] at H
      have c5b0 : decide (x8_1 < (l0.length : Int)) = true := decide_eq_true c5
      clear c5
      replace H := Option.bind_eq_some_iff.mp H
      obtain ⟨t330, A60, H⟩ := H
      try dsimp only at H
      have A6 := Aside0.mk A60
      clear A60
      by_cases c7 : t330 = true
      ·subst c7
       rw [if_pos rfl] at H; try dsimp only at H
       obtain rfl := Option.some.inj H
       have p329 : 0 ≤ (x8_1 : Int) := of_decide_eq_true (by first | (with_reducible assumption) | assumption)
       have q329 : x8_1 < (l0.length : Int) := of_decide_eq_true (by first | (with_reducible assumption) | assumption)
       obtain ⟨ad329, e329, hx329_0⟩ := Kd.at_f32 HR0.out x8_1 p329 q329
       cases e329
       replace p329 := eq_true p329
       replace q329 := eq_true q329
       go_wp2_with (first | (go_at_call 166; (with_reducible refine (impl_finite_1.calls (rdOf (0 : Nat) l0 x8_1) true _ A6.out).mono ?_); rintro e w' ⟨rfl, ⟨nd, rfl⟩⟩))
       go_ret
       exact ⟨rs_, dr_⟩
      ·replace c7 := Bool.eq_false_iff.mpr c7
       subst c7
       have H1 : (slices_IndexFunc_float32_float32_f166.l0 k1 l0 (l0.length : Int) (wrap64 (x8_1 + 1))) = some r := by rw [if_neg (show ¬ (false = true) by decide)] at H; exact H
       clear H
       have H := H1
       clear H1
       have H' := Aside0.mk H
       clear H
       have p329 : 0 ≤ (x8_1 : Int) := of_decide_eq_true (by first | (with_reducible assumption) | assumption)
       have q329 : x8_1 < (l0.length : Int) := of_decide_eq_true (by first | (with_reducible assumption) | assumption)
       obtain ⟨ad329, e329, hx329_0⟩ := Kd.at_f32 HR0.out x8_1 p329 q329
       cases e329
       replace p329 := eq_true p329
       replace q329 := eq_true q329
       go_wp2_with (first | (go_at_call 166; (with_reducible refine (impl_finite_1.calls (rdOf (0 : Nat) l0 x8_1) false _ A6.out).mono ?_); rintro e w' ⟨rfl, ⟨nd, rfl⟩⟩))
       go_roundg k1
       case measure => have := HK1.out; omega
       case rel => exact ⟨(wrap64 (x8_1 + 1)), rs_, H', ⟨by have := HK1.out; omega⟩, dr_⟩
     ·rw [if_neg c5] at H
      exact absurd H (by simp)
    ·rw [if_neg c4] at H
     exact absurd H (by simp)
   ·rw [if_neg c3] at H
    have c3b0 : decide (x8_1 < (l0.length : Int)) = false := decide_eq_false c3
    clear c3
    obtain rfl := Option.some.inj H
    go_wp2
    go_ret
    exact ⟨rs_, dr_⟩

end Go.Proofs.Ytcgpomicgbmdlaa.PFnCommon
namespace Go.Proofs.Ytcgpomicgbmdlaa.PFnCommon
open Go.RowKit Go.Proofs.YtcgpomicgbmdlaaW.PrintWords Go.Proofs.YtcgpomicgbmdlaaW.PrintLast Go.Proofs.YtcgpomicgbmdlaaW.PrintMore
attribute [local go_sem] max2_int min2_int max_two min_two max_three min_three max_four min_four   -- for this text's walks alone
set_option linter.unusedVariables false
set_option linter.unusedSimpArgs false

/-! ### slices_ContainsFunc_float32_float32_f166: function 165 -/
def slices_ContainsFunc_float32_float32_f166.f (k : Nat) (l0 : List Nat)  : Option (Bool) := (slices_IndexFunc_float32_float32_f166.f k l0).bind fun t331 => (some (decide (t331 ≥ 0)))
theorem slices_ContainsFunc_float32_float32_f166.mono : ∀ a0 k, LeO (slices_ContainsFunc_float32_float32_f166.f k a0) (slices_ContainsFunc_float32_float32_f166.f (k + 1) a0) := by
 intro a0 k
 unfold slices_ContainsFunc_float32_float32_f166.f
 repeat' first
   | (with_reducible exact slices_IndexFunc_float32_float32_f166.mono _ _)
   | (with_reducible exact LeO.refl _)
   | (with_reducible exact LeO.none _)
   | (with_reducible refine LeO.ite ?_ ?_)
   | (with_reducible refine LeO.bind ?_ (fun _ => ?_))
   | exact slices_IndexFunc_float32_float32_f166.mono _ _
   | exact LeO.none _
   | refine LeO.ite ?_ ?_
   | refine LeO.bind ?_ (fun _ => ?_)
set_option maxHeartbeats 8000000 in
set_option maxRecDepth 100000 in
theorem slices_ContainsFunc_float32_float32_f166.calls (k : Nat) (A0 : Option Addr) (c0 : Nat) (l0 : List Nat)  (r : Bool) (w : World) (hr0 : Kd.C Kd.f32 w A0 l0.length l0) (hc0 : l0.length ≤ c0) (h : slices_ContainsFunc_float32_float32_f166.f k l0 = some r) :
  Calls Try.prog 165 #[.slice A0 l0.length c0, .func (.func 166) #[] #[]] w fun e w' => e = .returned (.bool r) ∧ Drawn0 w w' := by
 have HR0 := Aside0.mk hr0
 have HC0 := Aside0.mk hc0
 clear hr0 hc0
 have H : ((slices_IndexFunc_float32_float32_f166.f k l0).bind fun t331 => (some (decide (t331 ≥ 0)))) = some r := h
 clear h
 replace H := Option.bind_eq_some_iff.mp H
 obtain ⟨t331, A30, H⟩ := H
 try dsimp only at H
 have A3 := Aside0.mk A30
 clear A30
 obtain rfl := Option.some.inj H
 go_enter Try.func165, Try.ntmps165
 go_wp2_with (first | ((with_reducible refine gate_callee (f := 181) rfl ?_); refine gx_ (some 7) Try.func181 #[.slice A0 l0.length c0, .func (.func 166) #[] #[]] ?_; (with_reducible refine (slices_IndexFunc_float32_float32_f166.calls k _ _ l0  t331 _ ?side1 ?side2 A3.out).mono ?_); (case side1 => exact cu HR0.out); (case side2 => exact HC0.out); rintro e w' ⟨rfl, ⟨nd, rfl⟩⟩; refine ⟨_, rfl, ?_⟩))
 go_ret
 exact ⟨rs_, dr_⟩

end Go.Proofs.Ytcgpomicgbmdlaa.PFnCommon
namespace Go.Proofs.Ytcgpomicgbmdlaa.PFnCommon
open Go.RowKit Go.Proofs.YtcgpomicgbmdlaaW.PrintWords Go.Proofs.YtcgpomicgbmdlaaW.PrintLast Go.Proofs.YtcgpomicgbmdlaaW.PrintMore
attribute [local go_sem] max2_int min2_int max_two min_two max_three min_three max_four min_four   -- for this text's walks alone
set_option linter.unusedVariables false
set_option linter.unusedSimpArgs false

/-! ### impl_finite: function 145 -/
def impl_finite.f (k : Nat) (l0 : List Nat) : Option (Bool) := (slices_ContainsFunc_float32_float32_f166.f k l0).bind fun t332 => (some (!t332))
theorem impl_finite.mono : ∀ a0 k, LeO (impl_finite.f k a0) (impl_finite.f (k + 1) a0) := by
 intro a0 k
 unfold impl_finite.f
 repeat' first
   | (with_reducible exact slices_ContainsFunc_float32_float32_f166.mono _ _)
   | (with_reducible exact LeO.refl _)
   | (with_reducible exact LeO.none _)
   | (with_reducible refine LeO.ite ?_ ?_)
   | (with_reducible refine LeO.bind ?_ (fun _ => ?_))
   | exact slices_ContainsFunc_float32_float32_f166.mono _ _
   | exact LeO.none _
   | refine LeO.ite ?_ ?_
   | refine LeO.bind ?_ (fun _ => ?_)
set_option maxHeartbeats 8000000 in
set_option maxRecDepth 100000 in
theorem impl_finite.calls (k : Nat) (A0 : Option Addr) (c0 : Nat) (l0 : List Nat) (r : Bool) (w : World) (hr0 : Kd.C Kd.f32 w A0 l0.length l0) (hc0 : l0.length ≤ c0) (h : impl_finite.f k l0 = some r) :
  Calls Try.prog 145 #[.slice A0 l0.length c0] w fun e w' => e = .returned (.bool r) ∧ Drawn0 w w' := by
 have HR0 := Aside0.mk hr0
 have HC0 := Aside0.mk hc0
 clear hr0 hc0
 have H : ((slices_ContainsFunc_float32_float32_f166.f k l0).bind fun t332 => (some (!t332))) = some r := h
 clear h
 replace H := Option.bind_eq_some_iff.mp H
 obtain ⟨t332, A20, H⟩ := H
 try dsimp only at H
 have A2 := Aside0.mk A20
 clear A20
 obtain rfl := Option.some.inj H
 go_enter Try.func145, Try.ntmps145
 go_wp2_with (first | ((with_reducible refine gate_callee (f := 165) rfl ?_); refine gx_ (some 4) Try.func165 #[.slice A0 l0.length c0, .func (.func 166) #[] #[]] ?_; (with_reducible refine (slices_ContainsFunc_float32_float32_f166.calls k _ _ l0  t332 _ ?side1 ?side2 A2.out).mono ?_); (case side1 => exact cu HR0.out); (case side2 => exact HC0.out); rintro e w' ⟨rfl, ⟨nd, rfl⟩⟩; refine ⟨_, rfl, ?_⟩))
 go_ret
 exact ⟨rs_, dr_⟩

end Go.Proofs.Ytcgpomicgbmdlaa.PFnCommon
namespace Go.Proofs.Ytcgpomicgbmdlaa.PFnCommon
open Go.RowKit Go.Proofs.YtcgpomicgbmdlaaW.PrintWords Go.Proofs.YtcgpomicgbmdlaaW.PrintLast Go.Proofs.YtcgpomicgbmdlaaW.PrintMore
attribute [local go_sem] max2_int min2_int max_two min_two max_three min_three max_four min_four   -- for this text's walks alone
set_option linter.unusedVariables false
set_option linter.unusedSimpArgs false

/-! ### impl_IsFiniteComplex: function 106 -/
def impl_IsFiniteComplex.f (k : Nat) (a0 : Cx) : Option (Bool) := (impl_finite.f k (([a0.re, a0.im] : List Nat))).bind fun t336 => (some t336)
theorem impl_IsFiniteComplex.mono : ∀ a0 k, LeO (impl_IsFiniteComplex.f k a0) (impl_IsFiniteComplex.f (k + 1) a0) := by
 intro a0 k
 unfold impl_IsFiniteComplex.f
 repeat' first
   | (with_reducible exact impl_finite.mono _ _)
   | (with_reducible exact LeO.refl _)
   | (with_reducible exact LeO.none _)
   | (with_reducible refine LeO.ite ?_ ?_)
   | (with_reducible refine LeO.bind ?_ (fun _ => ?_))
   | exact impl_finite.mono _ _
   | exact LeO.none _
   | refine LeO.ite ?_ ?_
   | refine LeO.bind ?_ (fun _ => ?_)
set_option maxHeartbeats 8000000 in
set_option maxRecDepth 100000 in
theorem impl_IsFiniteComplex.calls (k : Nat) (a0 : Cx) (r : Bool) (w : World) (h : impl_IsFiniteComplex.f k a0 = some r) :
  Calls Try.prog 106 #[.complex .f32 a0.re a0.im] w fun e w' => e = .returned (.bool r) ∧ Below w.heap.size w w' := by
 have HB := Aside0.mk (Below.refl w.heap.size w)
 have H : ((impl_finite.f k (([a0.re, a0.im] : List Nat))).bind fun t336 => (some t336)) = some r := h
 clear h
 obtain ⟨y333, hy333⟩ : ∃ y_ : List Nat, y_ = (([a0.re, a0.im] : List Nat)) := ⟨_, rfl⟩
 replace H : ((impl_finite.f k y333).bind fun t336 => (some t336)) = some r := by first | (rw [hy333]; with_reducible exact H) | (have H2_ := (Option.bind_some _ _).symm.trans H; rw [hy333]; with_reducible exact H2_) | (have H2_ := (Option.bind_some _ _).symm.trans H; with_reducible exact H2_) | with_reducible exact H | (rw [hy333]; exact H) | exact H
 have Ny333 := Aside0.mk hy333
 clear hy333
 replace H := Option.bind_eq_some_iff.mp H
 obtain ⟨t336, A20, H⟩ := H
 try dsimp only at H
 have A2 := Aside0.mk A20
 clear A20
 obtain rfl := Option.some.inj H
 go_enter Try.func106, Try.ntmps106
 go_wp2_with (first | ((with_reducible refine gate_dst (N := 7) rfl ?_); refine Kd.R_lit Kd.f32 _ 34 ?hg (N := 7) ?hd (xs := ([a0.re, a0.im] : List Nat)) (inner := [.float .f32 a0.re, .float .f32 a0.im]) (ok := fun _ => True) (okp := fun _ => True) ?hr ?hp (fun _ hk => hk) trivial (Below.refl _ _) (Nat.le_refl _) (by simp) ?_; (case hd => rfl); (case hg => rfl); (case hr => first | (go_simp; done) | (go_simp; rfl)); (case hp => exact (Reps.one (show Kd.M Kd.f32 _ _ _ a0.re [.float .f32 a0.re] from rfl) (Reps.one (show Kd.M Kd.f32 _ _ _ a0.im [.float .f32 a0.im] from rfl) (Reps.none _ _)))); intro v334 w3 ho4 hb hg_ hnew_; clear hg_ hnew_; (first | rw [← Ny333.out] at ho4 | (simp only [Int.reduceToNat] at ho4; rw [← Ny333.out] at ho4)); have n0_ := Aside0.mk (Kd.R_lower ho4 (below_size tb)); have n1_ := Aside0.mk (below_step tb hb); clear HB; have HO335 := n0_; have HB := n1_; clear n0_ n1_; clear hb ho4; obtain ⟨Ao5, co5, eo5⟩ := Kd.R_slice HO335.out; subst eo5) | ((with_reducible refine gate_callee (f := 145) rfl ?_); refine gx_ (some 8) Try.func145 #[.slice Ao5 y333.length co5] ?_; (with_reducible refine (impl_finite.calls k _ _ y333 t336 _ ?side1 ?side2 A2.out).mono ?_); (case side1 => exact cu ((Kd.R_reads' HO335.out).2.2)); (case side2 => exact (Kd.R_reads' HO335.out).2.1); rintro e w' ⟨rfl, ⟨nd, rfl⟩⟩; refine ⟨_, rfl, ?_⟩))
 go_ret
 exact ⟨re_, tb⟩

end Go.Proofs.Ytcgpomicgbmdlaa.PFnCommon
