-- Words and walks of the print, as far as this claim uses them (laid by wip/mkclaim.py of this session). Lean checks it.
import Derived.Test.YtcgpomicgbmdlaaFl
import Derived.Test.YtcgpomicgbmdlaaPFnCommonm0
import Derived.Test.YtcgpomicgbmdlaaPFnCommonm4
import Derived.Test.YtcgpomicgbmdlaaPFnCommonm5
import Derived.Test.YtcgpomicgbmdlaaPFnCommonm3
namespace Go.Proofs.Ytcgpomicgbmdlaa.PFnCommon
open Go.RowKit Go.Proofs.YtcgpomicgbmdlaaW.PrintWords Go.Proofs.YtcgpomicgbmdlaaW.PrintLast Go.Proofs.YtcgpomicgbmdlaaW.PrintMore
attribute [local go_sem] max2_int min2_int max_two min_two max_three min_three max_four min_four   -- for this text's walks alone
set_option linter.unusedVariables false
set_option linter.unusedSimpArgs false

/-! ### impl_FaultParts: function 48 -/
def impl_FaultParts.j0 : Nat → Cx → Cx → Cx → Option (Cx × Cx × Cx × Bool)
 | 0, _, _, _ => none
 | k + 1, x339000, x339001, x339002 => (impl_IsFiniteComplex.f k x339000).bind fun t349 => (if t349 = true then ((impl_IsFiniteComplex.f k x339001).bind fun t350 => (if t350 = true then ((impl_IsFiniteComplex.f k x339002).bind fun t351 => (if t351 = true then (some (x339000, x339001, x339002, true)) else (some ((⟨0, 0⟩ : Cx), (⟨0, 0⟩ : Cx), (⟨0, 0⟩ : Cx), false)))) else (some ((⟨0, 0⟩ : Cx), (⟨0, 0⟩ : Cx), (⟨0, 0⟩ : Cx), false)))) else (some ((⟨0, 0⟩ : Cx), (⟨0, 0⟩ : Cx), (⟨0, 0⟩ : Cx), false)))
def impl_FaultParts.f (k : Nat) (a0 : Cx) (a1 : Cx) (a2 : Cx) (a3 : Int) (a4 : Cx) : Option (Cx × Cx × Cx × Bool) := if fok .add .f32 a4.re a4.re = true then (if fok .add .f32 a4.im a4.im = true then (if fok .add .f32 (fv .add .f32 a4.re a4.re) a4.re = true then (if fok .add .f32 (fv .add .f32 a4.im a4.im) a4.im = true then (if a3 = 0 then (if fok .add .f32 a2.re a4.re = true then (if fok .add .f32 a2.im a4.im = true then ((impl_QuotientOf.f a0 (⟨fv .add .f32 a2.re a4.re, fv .add .f32 a2.im a4.im⟩ : Cx)).bind fun t339 => (impl_FaultParts.j0 k (⟨0, 0⟩ : Cx) t339 (⟨0, 0⟩ : Cx))) else (none)) else (none)) else (if a3 = 1 then (if fok .add .f32 a1.re a2.re = true then (if fok .add .f32 a1.im a2.im = true then (if fok .add .f32 (fv .add .f32 a1.re a2.re) a2.re = true then (if fok .add .f32 (fv .add .f32 a1.im a2.im) a2.im = true then (if fok .add .f32 (fv .add .f32 (fv .add .f32 a1.re a2.re) a2.re) (fv .add .f32 (fv .add .f32 a4.re a4.re) a4.re) = true then (if fok .add .f32 (fv .add .f32 (fv .add .f32 a1.im a2.im) a2.im) (fv .add .f32 (fv .add .f32 a4.im a4.im) a4.im) = true then ((impl_QuotientOf.f a0 (⟨fv .add .f32 (fv .add .f32 (fv .add .f32 a1.re a2.re) a2.re) (fv .add .f32 (fv .add .f32 a4.re a4.re) a4.re), fv .add .f32 (fv .add .f32 (fv .add .f32 a1.im a2.im) a2.im) (fv .add .f32 (fv .add .f32 a4.im a4.im) a4.im)⟩ : Cx)).bind fun t340 => (impl_FaultParts.j0 k t340 t340 t340)) else (none)) else (none)) else (none)) else (none)) else (none)) else (none)) else (if a3 = 2 then (if fok .add .f32 a2.re a2.re = true then (if fok .add .f32 a2.im a2.im = true then (if fok .add .f32 (fv .add .f32 a2.re a2.re) a4.re = true then (if fok .add .f32 (fv .add .f32 a2.im a2.im) a4.im = true then ((impl_QuotientOf.f a0 (⟨fv .add .f32 (fv .add .f32 a2.re a2.re) a4.re, fv .add .f32 (fv .add .f32 a2.im a2.im) a4.im⟩ : Cx)).bind fun t341 => (if fok .sub .f32 0 t341.re = true then (if fok .sub .f32 0 t341.im = true then (impl_FaultParts.j0 k (⟨0, 0⟩ : Cx) t341 (⟨fv .sub .f32 0 t341.re, fv .sub .f32 0 t341.im⟩ : Cx)) else (none)) else (none))) else (none)) else (none)) else (none)) else (none)) else (if a3 = 3 then (if fok .add .f32 a1.re (fv .add .f32 (fv .add .f32 a4.re a4.re) a4.re) = true then (if fok .add .f32 a1.im (fv .add .f32 (fv .add .f32 a4.im a4.im) a4.im) = true then (if fok .add .f32 a2.re (fv .add .f32 a1.re (fv .add .f32 (fv .add .f32 a4.re a4.re) a4.re)) = true then (if fok .add .f32 a2.im (fv .add .f32 a1.im (fv .add .f32 (fv .add .f32 a4.im a4.im) a4.im)) = true then ((impl_MulComplex.f a2 (⟨fv .add .f32 a1.re (fv .add .f32 (fv .add .f32 a4.re a4.re) a4.re), fv .add .f32 a1.im (fv .add .f32 (fv .add .f32 a4.im a4.im) a4.im)⟩ : Cx)).bind fun t342 => ((impl_QuotientOf.f t342 (⟨fv .add .f32 a2.re (fv .add .f32 a1.re (fv .add .f32 (fv .add .f32 a4.re a4.re) a4.re)), fv .add .f32 a2.im (fv .add .f32 a1.im (fv .add .f32 (fv .add .f32 a4.im a4.im) a4.im))⟩ : Cx)).bind fun t343 => (if fok .add .f32 a2.re t343.re = true then (if fok .add .f32 a2.im t343.im = true then ((impl_QuotientOf.f a0 (⟨fv .add .f32 a2.re t343.re, fv .add .f32 a2.im t343.im⟩ : Cx)).bind fun t344 => ((impl_MulComplex.f t344 (⟨fv .add .f32 a1.re (fv .add .f32 (fv .add .f32 a4.re a4.re) a4.re), fv .add .f32 a1.im (fv .add .f32 (fv .add .f32 a4.im a4.im) a4.im)⟩ : Cx)).bind fun t345 => ((impl_QuotientOf.f t345 (⟨fv .add .f32 a2.re (fv .add .f32 a1.re (fv .add .f32 (fv .add .f32 a4.re a4.re) a4.re)), fv .add .f32 a2.im (fv .add .f32 a1.im (fv .add .f32 (fv .add .f32 a4.im a4.im) a4.im))⟩ : Cx)).bind fun t346 => (if fok .sub .f32 0 t346.re = true then (if fok .sub .f32 0 t346.im = true then ((impl_MulComplex.f t344 a2).bind fun t347 => ((impl_QuotientOf.f t347 (⟨fv .add .f32 a2.re (fv .add .f32 a1.re (fv .add .f32 (fv .add .f32 a4.re a4.re) a4.re)), fv .add .f32 a2.im (fv .add .f32 a1.im (fv .add .f32 (fv .add .f32 a4.im a4.im) a4.im))⟩ : Cx)).bind fun t348 => (if fok .sub .f32 0 t348.re = true then (if fok .sub .f32 0 t348.im = true then (impl_FaultParts.j0 k (⟨fv .sub .f32 0 t348.re, fv .sub .f32 0 t348.im⟩ : Cx) t344 (⟨fv .sub .f32 0 t346.re, fv .sub .f32 0 t346.im⟩ : Cx)) else (none)) else (none)))) else (none)) else (none))))) else (none)) else (none)))) else (none)) else (none)) else (none)) else (none)) else (some ((⟨0, 0⟩ : Cx), (⟨0, 0⟩ : Cx), (⟨0, 0⟩ : Cx), false)))))) else (none)) else (none)) else (none)) else (none)
theorem impl_FaultParts.mono_l : ∀ k, (∀ y0 y1 y2, LeO (impl_FaultParts.j0 k y0 y1 y2) (impl_FaultParts.j0 (k + 1) y0 y1 y2))
 | 0 => fun _ _ _ r h => by simp [impl_FaultParts.j0] at h
 | k + 1 => by
  have ih0 := impl_FaultParts.mono_l k
  ·intro y0 y1 y2
   unfold impl_FaultParts.j0
   repeat' first
   | (with_reducible exact ih0 _ _ _)
   | (with_reducible exact impl_IsFiniteComplex.mono _ _)
   | (with_reducible exact LeO.refl _)
   | (with_reducible exact LeO.none _)
   | (with_reducible refine LeO.ite ?_ ?_)
   | (with_reducible refine LeO.bind ?_ (fun _ => ?_))
   | exact ih0 _ _ _
   | exact impl_IsFiniteComplex.mono _ _
   | exact LeO.none _
   | refine LeO.ite ?_ ?_
   | refine LeO.bind ?_ (fun _ => ?_)
theorem impl_FaultParts.mono : ∀ a0 a1 a2 a3 a4 k, LeO (impl_FaultParts.f k a0 a1 a2 a3 a4) (impl_FaultParts.f (k + 1) a0 a1 a2 a3 a4) := by
 intro a0 a1 a2 a3 a4 k
 have ih0 := impl_FaultParts.mono_l k
 unfold impl_FaultParts.f
 repeat' first
   | (with_reducible exact ih0 _ _ _)
   | (with_reducible exact impl_IsFiniteComplex.mono _ _)
   | (with_reducible exact LeO.refl _)
   | (with_reducible exact LeO.none _)
   | (with_reducible refine LeO.ite ?_ ?_)
   | (with_reducible refine LeO.bind ?_ (fun _ => ?_))
   | exact ih0 _ _ _
   | exact impl_IsFiniteComplex.mono _ _
   | exact LeO.none _
   | refine LeO.ite ?_ ?_
   | refine LeO.bind ?_ (fun _ => ?_)
set_option maxHeartbeats 8000000 in
set_option maxRecDepth 100000 in
theorem impl_FaultParts.calls (k : Nat) (a0 : Cx) (a1 : Cx) (a2 : Cx) (a3 : Int) (a4 : Cx) (r1 : Cx) (r2 : Cx) (r3 : Cx) (r4 : Bool) (w : World) (h : impl_FaultParts.f k a0 a1 a2 a3 a4 = some (r1, r2, r3, r4)) :
  Calls Try.prog 48 #[.complex .f32 a0.re a0.im, .complex .f32 a1.re a1.im, .complex .f32 a2.re a2.im, .int .i64 a3, .complex .f32 a4.re a4.im] w fun e w' => e = .returned (.tuple #[.agg #[.complex .f32 r1.re r1.im, .complex .f32 r2.re r2.im, .complex .f32 r3.re r3.im], .bool r4]) ∧ Below w.heap.size w w' := by
 have hu80 := Try.underlying80
 have HB := Aside0.mk (Below.refl w.heap.size w)
 have H : (if fok .add .f32 a4.re a4.re = true then (if fok .add .f32 a4.im a4.im = true then (if fok .add .f32 (fv .add .f32 a4.re a4.re) a4.re = true then (if fok .add .f32 (fv .add .f32 a4.im a4.im) a4.im = true then (if a3 = 0 then (if fok .add .f32 a2.re a4.re = true then (if fok .add .f32 a2.im a4.im = true then ((impl_QuotientOf.f a0 (⟨fv .add .f32 a2.re a4.re, fv .add .f32 a2.im a4.im⟩ : Cx)).bind fun t339 => (impl_FaultParts.j0 k (⟨0, 0⟩ : Cx) t339 (⟨0, 0⟩ : Cx))) else (none)) else (none)) else (if a3 = 1 then (if fok .add .f32 a1.re a2.re = true then (if fok .add .f32 a1.im a2.im = true then (if fok .add .f32 (fv .add .f32 a1.re a2.re) a2.re = true then (if fok .add .f32 (fv .add .f32 a1.im a2.im) a2.im = true then (if fok .add .f32 (fv .add .f32 (fv .add .f32 a1.re a2.re) a2.re) (fv .add .f32 (fv .add .f32 a4.re a4.re) a4.re) = true then (if fok .add .f32 (fv .add .f32 (fv .add .f32 a1.im a2.im) a2.im) (fv .add .f32 (fv .add .f32 a4.im a4.im) a4.im) = true then ((impl_QuotientOf.f a0 (⟨fv .add .f32 (fv .add .f32 (fv .add .f32 a1.re a2.re) a2.re) (fv .add .f32 (fv .add .f32 a4.re a4.re) a4.re), fv .add .f32 (fv .add .f32 (fv .add .f32 a1.im a2.im) a2.im) (fv .add .f32 (fv .add .f32 a4.im a4.im) a4.im)⟩ : Cx)).bind fun t340 => (impl_FaultParts.j0 k t340 t340 t340)) else (none)) else (none)) else (none)) else (none)) else (none)) else (none)) else (if a3 = 2 then (if fok .add .f32 a2.re a2.re = true then (if fok .add .f32 a2.im a2.im = true then (if fok .add .f32 (fv .add .f32 a2.re a2.re) a4.re = true then (if fok .add .f32 (fv .add .f32 a2.im a2.im) a4.im = true then ((impl_QuotientOf.f a0 (⟨fv .add .f32 (fv .add .f32 a2.re a2.re) a4.re, fv .add .f32 (fv .add .f32 a2.im a2.im) a4.im⟩ : Cx)).bind fun t341 => (if fok .sub .f32 0 t341.re = true then (if fok .sub .f32 0 t341.im = true then (impl_FaultParts.j0 k (⟨0, 0⟩ : Cx) t341 (⟨fv .sub .f32 0 t341.re, fv .sub .f32 0 t341.im⟩ : Cx)) else (none)) else (none))) else (none)) else (none)) else (none)) else (none)) else (if a3 = 3 then (if fok .add .f32 a1.re (fv .add .f32 (fv .add .f32 a4.re a4.re) a4.re) = true then (if fok .add .f32 a1.im (fv .add .f32 (fv .add .f32 a4.im a4.im) a4.im) = true then (if fok .add .f32 a2.re (fv .add .f32 a1.re (fv .add .f32 (fv .add .f32 a4.re a4.re) a4.re)) = true then (if fok .add .f32 a2.im (fv .add .f32 a1.im (fv .add .f32 (fv .add .f32 a4.im a4.im) a4.im)) = true then ((impl_MulComplex.f a2 (⟨fv .add .f32 a1.re (fv .add .f32 (fv .add .f32 a4.re a4.re) a4.re), fv .add .f32 a1.im (fv .add .f32 (fv .add .f32 a4.im a4.im) a4.im)⟩ : Cx)).bind fun t342 => ((impl_QuotientOf.f t342 (⟨fv .add .f32 a2.re (fv .add .f32 a1.re (fv .add .f32 (fv .add .f32 a4.re a4.re) a4.re)), fv .add .f32 a2.im (fv .add .f32 a1.im (fv .add .f32 (fv .add .f32 a4.im a4.im) a4.im))⟩ : Cx)).bind fun t343 => (if fok .add .f32 a2.re t343.re = true then (if fok .add .f32 a2.im t343.im = true then ((impl_QuotientOf.f a0 (⟨fv .add .f32 a2.re t343.re, fv .add .f32 a2.im t343.im⟩ : Cx)).bind fun t344 => ((impl_MulComplex.f t344 (⟨fv .add .f32 a1.re (fv .add .f32 (fv .add .f32 a4.re a4.re) a4.re), fv .add .f32 a1.im (fv .add .f32 (fv .add .f32 a4.im a4.im) a4.im)⟩ : Cx)).bind fun t345 => ((impl_QuotientOf.f t345 (⟨fv .add .f32 a2.re (fv .add .f32 a1.re (fv .add .f32 (fv .add .f32 a4.re a4.re) a4.re)), fv .add .f32 a2.im (fv .add .f32 a1.im (fv .add .f32 (fv .add .f32 a4.im a4.im) a4.im))⟩ : Cx)).bind fun t346 => (if fok .sub .f32 0 t346.re = true then (if fok .sub .f32 0 t346.im = true then ((impl_MulComplex.f t344 a2).bind fun t347 => ((impl_QuotientOf.f t347 (⟨fv .add .f32 a2.re (fv .add .f32 a1.re (fv .add .f32 (fv .add .f32 a4.re a4.re) a4.re)), fv .add .f32 a2.im (fv .add .f32 a1.im (fv .add .f32 (fv .add .f32 a4.im a4.im) a4.im))⟩ : Cx)).bind fun t348 => (if fok .sub .f32 0 t348.re = true then (if fok .sub .f32 0 t348.im = true then (impl_FaultParts.j0 k (⟨fv .sub .f32 0 t348.re, fv .sub .f32 0 t348.im⟩ : Cx) t344 (⟨fv .sub .f32 0 t346.re, fv .sub .f32 0 t346.im⟩ : Cx)) else (none)) else (none)))) else (none)) else (none))))) else (none)) else (none)))) else (none)) else (none)) else (none)) else (none)) else (some ((⟨0, 0⟩ : Cx), (⟨0, 0⟩ : Cx), (⟨0, 0⟩ : Cx), false)))))) else (none)) else (none)) else (none)) else (none)) = some (r1, r2, r3, r4) := h
 clear h
 by_cases c6 : fok .add .f32 a4.re a4.re = true
 ·rw [if_pos c6] at H
  have c6b0 := eq_true c6
  have c6b1 : decide (fok .add .f32 a4.re a4.re = true) = true := decide_eq_true c6
  clear c6
  by_cases c7 : fok .add .f32 a4.im a4.im = true
  ·rw [if_pos c7] at H
   have c7b0 := eq_true c7
   have c7b1 : decide (fok .add .f32 a4.im a4.im = true) = true := decide_eq_true c7
   clear c7
   by_cases c8 : fok .add .f32 (fv .add .f32 a4.re a4.re) a4.re = true
   ·rw [if_pos c8] at H
    have c8b0 := eq_true c8
    have c8b1 : decide (fok .add .f32 (fv .add .f32 a4.re a4.re) a4.re = true) = true := decide_eq_true c8
    clear c8
    by_cases c9 : fok .add .f32 (fv .add .f32 a4.im a4.im) a4.im = true
    ·rw [if_pos c9] at H
     have c9b0 := eq_true c9
     have c9b1 : decide (fok .add .f32 (fv .add .f32 a4.im a4.im) a4.im = true) = true := decide_eq_true c9
     clear c9
     have HC10 := Aside0.mk H
     clear H
     go_enter Try.func48, Try.ntmps48
     go_upto_block 0 with (first | ((with_reducible refine gate_dst (N := 10) rfl ?_); refine box_event ?hg (N := 10) ?hd (cs := #[.complex .f32 0 0, .complex .f32 0 0, .complex .f32 0 0]) (t := 80) ?hr ?_; (case hd => rfl); (case hg => rfl); (case hr => first | (go_simp; done) | (go_simp; rfl)); intro gb337 hg w11 hbox hb; have n0_ := Aside0.mk (below_step tb hb); have n1_ := Aside0.mk (hbox); have n2_ := Aside0.mk ((by rw [hg]; exact (below_size tb) : w.heap.size ≤ gb337)); have n3_ := Aside0.mk ((by rw [hg]; exact (below_size tb) : w.heap.size ≤ gb337)); clear HB; have HB := n0_; have BK337 := n1_; have GW337 := n2_; have GE337 := n3_; clear n0_ n1_ n2_ n3_; clear hb hbox hg) | ((with_reducible refine gate_dst (N := 13) rfl ?_); refine box_event ?hg (N := 13) ?hd (cs := #[.complex .f32 0 0, .complex .f32 0 0, .complex .f32 0 0]) (t := 80) ?hr ?_; (case hd => rfl); (case hg => rfl); (case hr => first | (go_simp; done) | (go_simp; rfl)); intro gb338 hg w12 hbox hb; have n0_ := Aside0.mk (blk_below (g := gb337) (o := .cells #[.complex .f32 0 0, .complex .f32 0 0, .complex .f32 0 0] 80 (0, 0)) (bu BK337.out) hb); have n1_ := Aside0.mk (below_step tb hb); have n2_ := Aside0.mk (hbox); have n3_ := Aside0.mk ((by rw [hg]; exact (below_size tb) : w.heap.size ≤ gb338)); have n4_ := Aside0.mk ((by rw [hg]; exact (below_size tb) : w.heap.size ≤ gb338)); have n5_ := Aside0.mk ((by rw [hg]; exact Nat.ne_of_lt (blk_lt (g := gb337) (o := .cells #[.complex .f32 0 0, .complex .f32 0 0, .complex .f32 0 0] 80 (0, 0)) (bu BK337.out)) : gb337 ≠ gb338)); have n6_ := Aside0.mk ((by rw [hg]; exact Nat.ne_of_gt (blk_lt (g := gb337) (o := .cells #[.complex .f32 0 0, .complex .f32 0 0, .complex .f32 0 0] 80 (0, 0)) (bu BK337.out)) : gb338 ≠ gb337)); clear BK337; clear HB; have BK337 := n0_; have HB := n1_; have BK338 := n2_; have GW338 := n3_; have GE338 := n4_; have NB337_338 := n5_; have NB338_337 := n6_; clear n0_ n1_ n2_ n3_ n4_ n5_ n6_; clear hb hbox hg; have hnb13 := NB338_337.out; have hnc13 := NB337_338.out; have hcz14_0 : w12.cell? ⟨gb338, 0, none⟩ = some (.complex .f32 0 0) := (blk_cell BK338.out 0).trans rfl; have hcz14_1 : w12.cell? ⟨gb338, 1, none⟩ = some (.complex .f32 0 0) := (blk_cell BK338.out 1).trans rfl; have hcz14_2 : w12.cell? ⟨gb338, 2, none⟩ = some (.complex .f32 0 0) := (blk_cell BK338.out 2).trans rfl; have hfz14_0 := blk_frozen BK338.out 0; have hfz14_1 := blk_frozen BK338.out 1; have hfz14_2 := blk_frozen BK338.out 2))
     try refine pt_ ?_
     go_cut [] (fun wc => ∃ (kq : Nat) (x338000_9 : Cx) (x338001_9 : Cx) (x338002_9 : Cx) (x339000_9 : Cx) (x339001_9 : Cx) (x339002_9 : Cx), Aside0 (impl_FaultParts.j0 kq x339000_9 x339001_9 x339002_9 = some (r1, r2, r3, r4)) ∧ Aside0 (kq ≤ k) ∧ Aside0 (wc.heap[gb337]? = some (.cells #[.complex .f32 x338000_9.re x338000_9.im, .complex .f32 x338001_9.re x338001_9.im, .complex .f32 x338002_9.re x338002_9.im] 80 (0, 0))) ∧ Aside0 (wc.heap[gb338]? = some (.cells #[.complex .f32 x339000_9.re x339000_9.im, .complex .f32 x339001_9.re x339001_9.im, .complex .f32 x339002_9.re x339002_9.im] 80 (0, 0))) ∧ Aside0 (Below w.heap.size w wc))
     case first =>
      have H := HC10.out
      clear HC10
      by_cases c15 : a3 = 0
      ·rw [if_pos c15] at H
       have c15b0 : (a3 == 0) = true := beq_iff_eq.mpr c15
       have c15b1 : (a3 != 0) = false := bne_eq_false_iff_eq.mpr c15
       clear c15
       (first | rw [c15b0] | (simp only [i64_w, i32_w]; rw [c15b0]) | skip)
       by_cases c16 : fok .add .f32 a2.re a4.re = true
       ·rw [if_pos c16] at H
        have c16b0 := eq_true c16
        have c16b1 : decide (fok .add .f32 a2.re a4.re = true) = true := decide_eq_true c16
        clear c16
        by_cases c17 : fok .add .f32 a2.im a4.im = true
        ·rw [if_pos c17] at H
         have c17b0 := eq_true c17
         have c17b1 : decide (fok .add .f32 a2.im a4.im = true) = true := decide_eq_true c17
         clear c17
         replace H := Option.bind_eq_some_iff.mp H
         obtain ⟨t339, A180, H⟩ := H
         try dsimp only at H
         have A18 := Aside0.mk A180
         clear A180
         have H' := Aside0.mk H
         clear H
         go_wp2_with (first | ((with_reducible refine gate_callee (f := 95) rfl ?_); refine gx_ (some 30) Try.func95 #[.complex .f32 a0.re a0.im, .complex .f32 (fv .add .f32 a2.re a4.re) (fv .add .f32 a2.im a4.im)] ?_; (with_reducible refine (impl_QuotientOf.calls a0 (⟨fv .add .f32 a2.re a4.re, fv .add .f32 a2.im a4.im⟩ : Cx) t339 _ A18.out).mono ?_); rintro e w19 ⟨rfl, hb⟩; refine ⟨_, rfl, ?_⟩; have n0_ := Aside0.mk (blk_below (g := gb337) (o := .cells #[.complex .f32 0 0, .complex .f32 0 0, .complex .f32 0 0] 80 (0, 0)) (bv BK337.out) hb); have n1_ := Aside0.mk (blk_below (g := gb338) (o := .cells #[.complex .f32 0 0, .complex .f32 0 0, .complex .f32 0 0] 80 (0, 0)) (by refine bu ?_; refine blk_put (cs := #[.complex .f32 0 0, .complex .f32 0 0, .complex .f32 0 0]) ?_ 2 _ rfl; refine bu ?_; refine blk_put (cs := #[.complex .f32 0 0, .complex .f32 0 0, .complex .f32 0 0]) ?_ 1 _ rfl; refine bu ?_; refine blk_put (cs := #[.complex .f32 0 0, .complex .f32 0 0, .complex .f32 0 0]) ?_ 0 _ rfl; refine bu ?_; exact BK338.out) hb); have n2_ := Aside0.mk (below_step tb hb); clear BK337; clear BK338; clear HB; have BK337 := n0_; have BK338 := n1_; have HB := n2_; clear n0_ n1_ n2_; (try clear hb); (try clear hb2); (try clear hk); (try clear hi); have hnb20 := NB338_337.out; have hnc20 := NB337_338.out; have hcz21_0 : w19.cell? ⟨gb338, 0, none⟩ = some (.complex .f32 0 0) := (blk_cell BK338.out 0).trans rfl; have hcz21_1 : w19.cell? ⟨gb338, 1, none⟩ = some (.complex .f32 0 0) := (blk_cell BK338.out 1).trans rfl; have hcz21_2 : w19.cell? ⟨gb338, 2, none⟩ = some (.complex .f32 0 0) := (blk_cell BK338.out 2).trans rfl; have hfz21_0 := blk_frozen BK338.out 0; have hfz21_1 := blk_frozen BK338.out 1; have hfz21_2 := blk_frozen BK338.out 2))
         go_meet
         case rel => exact ⟨_, ((⟨0, 0⟩ : Cx)), ((⟨0, 0⟩ : Cx)), ((⟨0, 0⟩ : Cx)), ((⟨0, 0⟩ : Cx)), (t339), ((⟨0, 0⟩ : Cx)), H', ⟨by exact om_⟩, ⟨by refine bv ?_; exact BK337.out⟩, ⟨by refine bu ?_; refine blk_put (cs := #[.complex .f32 0 0, .complex .f32 0 0, .complex .f32 0 0]) ?_ 1 _ rfl; refine bu ?_; exact BK338.out⟩, ⟨tb⟩⟩
        ·rw [if_neg c17] at H
         exact absurd H (by simp)
       ·rw [if_neg c16] at H
        exact absurd H (by simp)
      ·rw [if_neg c15] at H
       have c15b0 : (a3 == 0) = false := beq_eq_false_iff_ne.mpr c15
       have c15b1 : (a3 != 0) = true := bne_iff_ne.mpr c15
       (first | rw [c15b0] | (simp only [i64_w, i32_w]; rw [c15b0]) | skip)
       by_cases c22 : a3 = 1
       ·rw [if_pos c22] at H
        have c22b0 : (a3 == 1) = true := beq_iff_eq.mpr c22
        have c22b1 : (a3 != 1) = false := bne_eq_false_iff_eq.mpr c22
        clear c22
        by_cases c23 : fok .add .f32 a1.re a2.re = true
        ·rw [if_pos c23] at H
         have c23b0 := eq_true c23
         have c23b1 : decide (fok .add .f32 a1.re a2.re = true) = true := decide_eq_true c23
         clear c23
         by_cases c24 : fok .add .f32 a1.im a2.im = true
         ·rw [if_pos c24] at H
          have c24b0 := eq_true c24
          have c24b1 : decide (fok .add .f32 a1.im a2.im = true) = true := decide_eq_true c24
          clear c24
          by_cases c25 : fok .add .f32 (fv .add .f32 a1.re a2.re) a2.re = true
          ·rw [if_pos c25] at H
           have c25b0 := eq_true c25
           have c25b1 : decide (fok .add .f32 (fv .add .f32 a1.re a2.re) a2.re = true) = true := decide_eq_true c25
           clear c25
           by_cases c26 : fok .add .f32 (fv .add .f32 a1.im a2.im) a2.im = true
           ·rw [if_pos c26] at H
            have c26b0 := eq_true c26
            have c26b1 : decide (fok .add .f32 (fv .add .f32 a1.im a2.im) a2.im = true) = true := decide_eq_true c26
            clear c26
            by_cases c27 : fok .add .f32 (fv .add .f32 (fv .add .f32 a1.re a2.re) a2.re) (fv .add .f32 (fv .add .f32 a4.re a4.re) a4.re) = true
            ·rw [if_pos c27] at H
             have c27b0 := eq_true c27
             have c27b1 : decide (fok .add .f32 (fv .add .f32 (fv .add .f32 a1.re a2.re) a2.re) (fv .add .f32 (fv .add .f32 a4.re a4.re) a4.re) = true) = true := decide_eq_true c27
             clear c27
             by_cases c28 : fok .add .f32 (fv .add .f32 (fv .add .f32 a1.im a2.im) a2.im) (fv .add .f32 (fv .add .f32 a4.im a4.im) a4.im) = true
             ·rw [if_pos c28] at H
              have c28b0 := eq_true c28
              have c28b1 : decide (fok .add .f32 (fv .add .f32 (fv .add .f32 a1.im a2.im) a2.im) (fv .add .f32 (fv .add .f32 a4.im a4.im) a4.im) = true) = true := decide_eq_true c28
              clear c28
              replace H := Option.bind_eq_some_iff.mp H
              obtain ⟨t340, A290, H⟩ := H
              try dsimp only at H
              have A29 := Aside0.mk A290
              clear A290
              have H' := Aside0.mk H
              clear H
              go_wp2_with (first | ((with_reducible refine gate_callee (f := 95) rfl ?_); refine gx_ (some 42) Try.func95 #[.complex .f32 a0.re a0.im, .complex .f32 (fv .add .f32 (fv .add .f32 (fv .add .f32 a1.re a2.re) a2.re) (fv .add .f32 (fv .add .f32 a4.re a4.re) a4.re)) (fv .add .f32 (fv .add .f32 (fv .add .f32 a1.im a2.im) a2.im) (fv .add .f32 (fv .add .f32 a4.im a4.im) a4.im))] ?_; (with_reducible refine (impl_QuotientOf.calls a0 (⟨fv .add .f32 (fv .add .f32 (fv .add .f32 a1.re a2.re) a2.re) (fv .add .f32 (fv .add .f32 a4.re a4.re) a4.re), fv .add .f32 (fv .add .f32 (fv .add .f32 a1.im a2.im) a2.im) (fv .add .f32 (fv .add .f32 a4.im a4.im) a4.im)⟩ : Cx) t340 _ A29.out).mono ?_); rintro e w30 ⟨rfl, hb⟩; refine ⟨_, rfl, ?_⟩; have n0_ := Aside0.mk (blk_below (g := gb337) (o := .cells #[.complex .f32 0 0, .complex .f32 0 0, .complex .f32 0 0] 80 (0, 0)) (bv BK337.out) hb); have n1_ := Aside0.mk (blk_below (g := gb338) (o := .cells #[.complex .f32 0 0, .complex .f32 0 0, .complex .f32 0 0] 80 (0, 0)) (by refine bu ?_; refine blk_put (cs := #[.complex .f32 0 0, .complex .f32 0 0, .complex .f32 0 0]) ?_ 2 _ rfl; refine bu ?_; refine blk_put (cs := #[.complex .f32 0 0, .complex .f32 0 0, .complex .f32 0 0]) ?_ 1 _ rfl; refine bu ?_; refine blk_put (cs := #[.complex .f32 0 0, .complex .f32 0 0, .complex .f32 0 0]) ?_ 0 _ rfl; refine bu ?_; exact BK338.out) hb); have n2_ := Aside0.mk (below_step tb hb); clear BK337; clear BK338; clear HB; have BK337 := n0_; have BK338 := n1_; have HB := n2_; clear n0_ n1_ n2_; (try clear hb); (try clear hb2); (try clear hk); (try clear hi); have hnb31 := NB338_337.out; have hnc31 := NB337_338.out; have hcz32_0 : w30.cell? ⟨gb338, 0, none⟩ = some (.complex .f32 0 0) := (blk_cell BK338.out 0).trans rfl; have hcz32_1 : w30.cell? ⟨gb338, 1, none⟩ = some (.complex .f32 0 0) := (blk_cell BK338.out 1).trans rfl; have hcz32_2 : w30.cell? ⟨gb338, 2, none⟩ = some (.complex .f32 0 0) := (blk_cell BK338.out 2).trans rfl; have hfz32_0 := blk_frozen BK338.out 0; have hfz32_1 := blk_frozen BK338.out 1; have hfz32_2 := blk_frozen BK338.out 2))
              go_meet
              case rel => exact ⟨_, ((⟨0, 0⟩ : Cx)), ((⟨0, 0⟩ : Cx)), ((⟨0, 0⟩ : Cx)), (t340), (t340), (t340), H', ⟨by exact om_⟩, ⟨by refine bv ?_; exact BK337.out⟩, ⟨by refine bu ?_; refine blk_put (cs := #[.complex .f32 t340.re t340.im, .complex .f32 t340.re t340.im, .complex .f32 0 0]) ?_ 2 _ rfl; refine bu ?_; refine blk_put (cs := #[.complex .f32 0 0, .complex .f32 t340.re t340.im, .complex .f32 0 0]) ?_ 0 _ rfl; refine bu ?_; refine blk_put (cs := #[.complex .f32 0 0, .complex .f32 0 0, .complex .f32 0 0]) ?_ 1 _ rfl; refine bu ?_; exact BK338.out⟩, ⟨tb⟩⟩
             ·rw [if_neg c28] at H
              exact absurd H (by simp)
            ·rw [if_neg c27] at H
             exact absurd H (by simp)
           ·rw [if_neg c26] at H
            exact absurd H (by simp)
          ·rw [if_neg c25] at H
           exact absurd H (by simp)
         ·rw [if_neg c24] at H
          exact absurd H (by simp)
        ·rw [if_neg c23] at H
         exact absurd H (by simp)
       ·rw [if_neg c22] at H
        have c22b0 : (a3 == 1) = false := beq_eq_false_iff_ne.mpr c22
        have c22b1 : (a3 != 1) = true := bne_iff_ne.mpr c22
        by_cases c33 : a3 = 2
        ·rw [if_pos c33] at H
         have c33b0 : (a3 == 2) = true := beq_iff_eq.mpr c33
         have c33b1 : (a3 != 2) = false := bne_eq_false_iff_eq.mpr c33
         clear c33
         by_cases c34 : fok .add .f32 a2.re a2.re = true
         ·rw [if_pos c34] at H
          have c34b0 := eq_true c34
          have c34b1 : decide (fok .add .f32 a2.re a2.re = true) = true := decide_eq_true c34
          clear c34
          by_cases c35 : fok .add .f32 a2.im a2.im = true
          ·rw [if_pos c35] at H
           have c35b0 := eq_true c35
           have c35b1 : decide (fok .add .f32 a2.im a2.im = true) = true := decide_eq_true c35
           clear c35
           by_cases c36 : fok .add .f32 (fv .add .f32 a2.re a2.re) a4.re = true
           ·rw [if_pos c36] at H
            have c36b0 := eq_true c36
            have c36b1 : decide (fok .add .f32 (fv .add .f32 a2.re a2.re) a4.re = true) = true := decide_eq_true c36
            clear c36
            by_cases c37 : fok .add .f32 (fv .add .f32 a2.im a2.im) a4.im = true
            ·rw [if_pos c37] at H
             have c37b0 := eq_true c37
             have c37b1 : decide (fok .add .f32 (fv .add .f32 a2.im a2.im) a4.im = true) = true := decide_eq_true c37
             clear c37
             replace H := Option.bind_eq_some_iff.mp H
             obtain ⟨t341, A380, H⟩ := H
             try dsimp only at H
             have A38 := Aside0.mk A380
             clear A380
             by_cases c39 : fok .sub .f32 0 t341.re = true
             ·rw [if_pos c39] at H
              have c39b0 := eq_true c39
              have c39b1 : decide (fok .sub .f32 0 t341.re = true) = true := decide_eq_true c39
              clear c39
              by_cases c40 : fok .sub .f32 0 t341.im = true
              ·rw [if_pos c40] at H
               have c40b0 := eq_true c40
               have c40b1 : decide (fok .sub .f32 0 t341.im = true) = true := decide_eq_true c40
               clear c40
               have H' := Aside0.mk H
               clear H
               go_wp2_with (first | ((with_reducible refine gate_callee (f := 95) rfl ?_); refine gx_ (some 58) Try.func95 #[.complex .f32 a0.re a0.im, .complex .f32 (fv .add .f32 (fv .add .f32 a2.re a2.re) a4.re) (fv .add .f32 (fv .add .f32 a2.im a2.im) a4.im)] ?_; (with_reducible refine (impl_QuotientOf.calls a0 (⟨fv .add .f32 (fv .add .f32 a2.re a2.re) a4.re, fv .add .f32 (fv .add .f32 a2.im a2.im) a4.im⟩ : Cx) t341 _ A38.out).mono ?_); rintro e w41 ⟨rfl, hb⟩; refine ⟨_, rfl, ?_⟩; have n0_ := Aside0.mk (blk_below (g := gb337) (o := .cells #[.complex .f32 0 0, .complex .f32 0 0, .complex .f32 0 0] 80 (0, 0)) (bv BK337.out) hb); have n1_ := Aside0.mk (blk_below (g := gb338) (o := .cells #[.complex .f32 0 0, .complex .f32 0 0, .complex .f32 0 0] 80 (0, 0)) (by refine bu ?_; refine blk_put (cs := #[.complex .f32 0 0, .complex .f32 0 0, .complex .f32 0 0]) ?_ 2 _ rfl; refine bu ?_; refine blk_put (cs := #[.complex .f32 0 0, .complex .f32 0 0, .complex .f32 0 0]) ?_ 1 _ rfl; refine bu ?_; refine blk_put (cs := #[.complex .f32 0 0, .complex .f32 0 0, .complex .f32 0 0]) ?_ 0 _ rfl; refine bu ?_; exact BK338.out) hb); have n2_ := Aside0.mk (below_step tb hb); clear BK337; clear BK338; clear HB; have BK337 := n0_; have BK338 := n1_; have HB := n2_; clear n0_ n1_ n2_; (try clear hb); (try clear hb2); (try clear hk); (try clear hi); have hnb42 := NB338_337.out; have hnc42 := NB337_338.out; have hcz43_0 : w41.cell? ⟨gb338, 0, none⟩ = some (.complex .f32 0 0) := (blk_cell BK338.out 0).trans rfl; have hcz43_1 : w41.cell? ⟨gb338, 1, none⟩ = some (.complex .f32 0 0) := (blk_cell BK338.out 1).trans rfl; have hcz43_2 : w41.cell? ⟨gb338, 2, none⟩ = some (.complex .f32 0 0) := (blk_cell BK338.out 2).trans rfl; have hfz43_0 := blk_frozen BK338.out 0; have hfz43_1 := blk_frozen BK338.out 1; have hfz43_2 := blk_frozen BK338.out 2))
               go_meet
               case rel => exact ⟨_, ((⟨0, 0⟩ : Cx)), ((⟨0, 0⟩ : Cx)), ((⟨0, 0⟩ : Cx)), ((⟨0, 0⟩ : Cx)), (t341), ((⟨fv .sub .f32 0 t341.re, fv .sub .f32 0 t341.im⟩ : Cx)), H', ⟨by exact om_⟩, ⟨by refine bv ?_; exact BK337.out⟩, ⟨by refine bu ?_; refine blk_put (cs := #[.complex .f32 0 0, .complex .f32 t341.re t341.im, .complex .f32 0 0]) ?_ 2 _ rfl; refine bu ?_; refine blk_put (cs := #[.complex .f32 0 0, .complex .f32 0 0, .complex .f32 0 0]) ?_ 1 _ rfl; refine bu ?_; exact BK338.out⟩, ⟨tb⟩⟩
              ·rw [if_neg c40] at H
               exact absurd H (by simp)
             ·rw [if_neg c39] at H
              exact absurd H (by simp)
            ·rw [if_neg c37] at H
             exact absurd H (by simp)
           ·rw [if_neg c36] at H
            exact absurd H (by simp)
          ·rw [if_neg c35] at H
           exact absurd H (by simp)
         ·rw [if_neg c34] at H
          exact absurd H (by simp)
        ·rw [if_neg c33] at H
         have c33b0 : (a3 == 2) = false := beq_eq_false_iff_ne.mpr c33
         have c33b1 : (a3 != 2) = true := bne_iff_ne.mpr c33
         by_cases c44 : a3 = 3
         ·rw [if_pos c44] at H
          have c44b0 : (a3 == 3) = true := beq_iff_eq.mpr c44
          have c44b1 : (a3 != 3) = false := bne_eq_false_iff_eq.mpr c44
          clear c44
          by_cases c45 : fok .add .f32 a1.re (fv .add .f32 (fv .add .f32 a4.re a4.re) a4.re) = true
          ·rw [if_pos c45] at H
           have c45b0 := eq_true c45
           have c45b1 : decide (fok .add .f32 a1.re (fv .add .f32 (fv .add .f32 a4.re a4.re) a4.re) = true) = true := decide_eq_true c45
           clear c45
           by_cases c46 : fok .add .f32 a1.im (fv .add .f32 (fv .add .f32 a4.im a4.im) a4.im) = true
           ·rw [if_pos c46] at H
            have c46b0 := eq_true c46
            have c46b1 : decide (fok .add .f32 a1.im (fv .add .f32 (fv .add .f32 a4.im a4.im) a4.im) = true) = true := decide_eq_true c46
            clear c46
            by_cases c47 : fok .add .f32 a2.re (fv .add .f32 a1.re (fv .add .f32 (fv .add .f32 a4.re a4.re) a4.re)) = true
            ·rw [if_pos c47] at H
             have c47b0 := eq_true c47
             have c47b1 : decide (fok .add .f32 a2.re (fv .add .f32 a1.re (fv .add .f32 (fv .add .f32 a4.re a4.re) a4.re)) = true) = true := decide_eq_true c47
             clear c47
             by_cases c48 : fok .add .f32 a2.im (fv .add .f32 a1.im (fv .add .f32 (fv .add .f32 a4.im a4.im) a4.im)) = true
             ·rw [if_pos c48] at H
              have c48b0 := eq_true c48
              have c48b1 : decide (fok .add .f32 a2.im (fv .add .f32 a1.im (fv .add .f32 (fv .add .f32 a4.im a4.im) a4.im)) = true) = true := decide_eq_true c48
              clear c48
              replace H := Option.bind_eq_some_iff.mp H
              obtain ⟨t342, A490, H⟩ := H
              try dsimp only at H
              have A49 := Aside0.mk A490
              clear A490
              replace H := Option.bind_eq_some_iff.mp H
              obtain ⟨t343, A500, H⟩ := H
              try dsimp only at H
              have A50 := Aside0.mk A500
              clear A500
              by_cases c51 : fok .add .f32 a2.re t343.re = true
              ·rw [if_pos c51] at H
               have c51b0 := eq_true c51
               have c51b1 : decide (fok .add .f32 a2.re t343.re = true) = true := decide_eq_true c51
               clear c51
               by_cases c52 : fok .add .f32 a2.im t343.im = true
               ·rw [if_pos c52] at H
                have c52b0 := eq_true c52
                have c52b1 : decide (fok .add .f32 a2.im t343.im = true) = true := decide_eq_true c52
                clear c52
                replace H := Option.bind_eq_some_iff.mp H
                obtain ⟨t344, A530, H⟩ := H
                try dsimp only at H
                have A53 := Aside0.mk A530
                clear A530
                replace H := Option.bind_eq_some_iff.mp H
                obtain ⟨t345, A540, H⟩ := H
                try dsimp only at H
                have A54 := Aside0.mk A540
                clear A540
                replace H := Option.bind_eq_some_iff.mp H
                obtain ⟨t346, A550, H⟩ := H
                try dsimp only at H
                have A55 := Aside0.mk A550
                clear A550
                by_cases c56 : fok .sub .f32 0 t346.re = true
                ·rw [if_pos c56] at H
                 have c56b0 := eq_true c56
                 have c56b1 : decide (fok .sub .f32 0 t346.re = true) = true := decide_eq_true c56
                 clear c56
                 by_cases c57 : fok .sub .f32 0 t346.im = true
                 ·rw [if_pos c57] at H
                  have c57b0 := eq_true c57
                  have c57b1 : decide (fok .sub .f32 0 t346.im = true) = true := decide_eq_true c57
                  clear c57
                  replace H := Option.bind_eq_some_iff.mp H
                  obtain ⟨t347, A580, H⟩ := H
                  try dsimp only at H
                  have A58 := Aside0.mk A580
                  clear A580
                  replace H := Option.bind_eq_some_iff.mp H
                  obtain ⟨t348, A590, H⟩ := H
                  try dsimp only at H
                  have A59 := Aside0.mk A590
                  clear A590
                  by_cases c60 : fok .sub .f32 0 t348.re = true
                  ·rw [if_pos c60] at H
                   have c60b0 := eq_true c60
                   have c60b1 : decide (fok .sub .f32 0 t348.re = true) = true := decide_eq_true c60
                   clear c60
                   by_cases c61 : fok .sub .f32 0 t348.im = true
                   ·rw [if_pos c61] at H
                    have c61b0 := eq_true c61
                    have c61b1 : decide (fok .sub .f32 0 t348.im = true) = true := decide_eq_true c61
                    clear c61
                    have H' := Aside0.mk H
                    clear H
                    go_wp2_with (first | ((with_reducible refine gate_callee (f := 71) rfl ?_); refine gx_ (some 76) Try.func71 #[.complex .f32 a2.re a2.im, .complex .f32 (fv .add .f32 a1.re (fv .add .f32 (fv .add .f32 a4.re a4.re) a4.re)) (fv .add .f32 a1.im (fv .add .f32 (fv .add .f32 a4.im a4.im) a4.im))] ?_; (with_reducible refine (impl_MulComplex.calls a2 (⟨fv .add .f32 a1.re (fv .add .f32 (fv .add .f32 a4.re a4.re) a4.re), fv .add .f32 a1.im (fv .add .f32 (fv .add .f32 a4.im a4.im) a4.im)⟩ : Cx) t342 _ A49.out).mono ?_); rintro e w62 ⟨rfl, hb⟩; refine ⟨_, rfl, ?_⟩; have n0_ := Aside0.mk (blk_below (g := gb337) (o := .cells #[.complex .f32 0 0, .complex .f32 0 0, .complex .f32 0 0] 80 (0, 0)) (bv BK337.out) hb); have n1_ := Aside0.mk (blk_below (g := gb338) (o := .cells #[.complex .f32 0 0, .complex .f32 0 0, .complex .f32 0 0] 80 (0, 0)) (by refine bu ?_; refine blk_put (cs := #[.complex .f32 0 0, .complex .f32 0 0, .complex .f32 0 0]) ?_ 2 _ rfl; refine bu ?_; refine blk_put (cs := #[.complex .f32 0 0, .complex .f32 0 0, .complex .f32 0 0]) ?_ 1 _ rfl; refine bu ?_; refine blk_put (cs := #[.complex .f32 0 0, .complex .f32 0 0, .complex .f32 0 0]) ?_ 0 _ rfl; refine bu ?_; exact BK338.out) hb); have n2_ := Aside0.mk (below_step tb hb); clear BK337; clear BK338; clear HB; have BK337 := n0_; have BK338 := n1_; have HB := n2_; clear n0_ n1_ n2_; (try clear hb); (try clear hb2); (try clear hk); (try clear hi)) | ((with_reducible refine gate_callee (f := 95) rfl ?_); refine gx_ (some 78) Try.func95 #[.complex .f32 t342.re t342.im, .complex .f32 (fv .add .f32 a2.re (fv .add .f32 a1.re (fv .add .f32 (fv .add .f32 a4.re a4.re) a4.re))) (fv .add .f32 a2.im (fv .add .f32 a1.im (fv .add .f32 (fv .add .f32 a4.im a4.im) a4.im)))] ?_; (with_reducible refine (impl_QuotientOf.calls t342 (⟨fv .add .f32 a2.re (fv .add .f32 a1.re (fv .add .f32 (fv .add .f32 a4.re a4.re) a4.re)), fv .add .f32 a2.im (fv .add .f32 a1.im (fv .add .f32 (fv .add .f32 a4.im a4.im) a4.im))⟩ : Cx) t343 _ A50.out).mono ?_); rintro e w63 ⟨rfl, hb⟩; refine ⟨_, rfl, ?_⟩; have n0_ := Aside0.mk (blk_below (g := gb337) (o := .cells #[.complex .f32 0 0, .complex .f32 0 0, .complex .f32 0 0] 80 (0, 0)) (bu BK337.out) hb); have n1_ := Aside0.mk (blk_below (g := gb338) (o := .cells #[.complex .f32 0 0, .complex .f32 0 0, .complex .f32 0 0] 80 (0, 0)) (bu BK338.out) hb); have n2_ := Aside0.mk (below_step tb hb); clear BK337; clear BK338; clear HB; have BK337 := n0_; have BK338 := n1_; have HB := n2_; clear n0_ n1_ n2_; (try clear hb); (try clear hb2); (try clear hk); (try clear hi)) | ((with_reducible refine gate_callee (f := 95) rfl ?_); refine gx_ (some 80) Try.func95 #[.complex .f32 a0.re a0.im, .complex .f32 (fv .add .f32 a2.re t343.re) (fv .add .f32 a2.im t343.im)] ?_; (with_reducible refine (impl_QuotientOf.calls a0 (⟨fv .add .f32 a2.re t343.re, fv .add .f32 a2.im t343.im⟩ : Cx) t344 _ A53.out).mono ?_); rintro e w64 ⟨rfl, hb⟩; refine ⟨_, rfl, ?_⟩; have n0_ := Aside0.mk (blk_below (g := gb337) (o := .cells #[.complex .f32 0 0, .complex .f32 0 0, .complex .f32 0 0] 80 (0, 0)) (bu BK337.out) hb); have n1_ := Aside0.mk (blk_below (g := gb338) (o := .cells #[.complex .f32 0 0, .complex .f32 0 0, .complex .f32 0 0] 80 (0, 0)) (bu BK338.out) hb); have n2_ := Aside0.mk (below_step tb hb); clear BK337; clear BK338; clear HB; have BK337 := n0_; have BK338 := n1_; have HB := n2_; clear n0_ n1_ n2_; (try clear hb); (try clear hb2); (try clear hk); (try clear hi); have hnb65 := NB338_337.out; have hnc65 := NB337_338.out; have hcz66_0 : w64.cell? ⟨gb338, 0, none⟩ = some (.complex .f32 0 0) := (blk_cell BK338.out 0).trans rfl; have hcz66_1 : w64.cell? ⟨gb338, 1, none⟩ = some (.complex .f32 0 0) := (blk_cell BK338.out 1).trans rfl; have hcz66_2 : w64.cell? ⟨gb338, 2, none⟩ = some (.complex .f32 0 0) := (blk_cell BK338.out 2).trans rfl; have hfz66_0 := blk_frozen BK338.out 0; have hfz66_1 := blk_frozen BK338.out 1; have hfz66_2 := blk_frozen BK338.out 2) | ((with_reducible refine gate_callee (f := 71) rfl ?_); refine gx_ (some 85) Try.func71 #[.complex .f32 t344.re t344.im, .complex .f32 (fv .add .f32 a1.re (fv .add .f32 (fv .add .f32 a4.re a4.re) a4.re)) (fv .add .f32 a1.im (fv .add .f32 (fv .add .f32 a4.im a4.im) a4.im))] ?_; (with_reducible refine (impl_MulComplex.calls t344 (⟨fv .add .f32 a1.re (fv .add .f32 (fv .add .f32 a4.re a4.re) a4.re), fv .add .f32 a1.im (fv .add .f32 (fv .add .f32 a4.im a4.im) a4.im)⟩ : Cx) t345 _ A54.out).mono ?_); rintro e w67 ⟨rfl, hb⟩; refine ⟨_, rfl, ?_⟩; have n0_ := Aside0.mk (blk_below (g := gb337) (o := .cells #[.complex .f32 0 0, .complex .f32 0 0, .complex .f32 0 0] 80 (0, 0)) (bv BK337.out) hb); have n1_ := Aside0.mk (blk_below (g := gb338) (o := .cells #[.complex .f32 0 0, .complex .f32 t344.re t344.im, .complex .f32 0 0] 80 (0, 0)) (by refine bu ?_; refine blk_put (cs := #[.complex .f32 0 0, .complex .f32 0 0, .complex .f32 0 0]) ?_ 1 _ rfl; refine bu ?_; exact BK338.out) hb); have n2_ := Aside0.mk (below_step tb hb); clear BK337; clear BK338; clear HB; have BK337 := n0_; have BK338 := n1_; have HB := n2_; clear n0_ n1_ n2_; (try clear hb); (try clear hb2); (try clear hk); (try clear hi)) | ((with_reducible refine gate_callee (f := 95) rfl ?_); refine gx_ (some 87) Try.func95 #[.complex .f32 t345.re t345.im, .complex .f32 (fv .add .f32 a2.re (fv .add .f32 a1.re (fv .add .f32 (fv .add .f32 a4.re a4.re) a4.re))) (fv .add .f32 a2.im (fv .add .f32 a1.im (fv .add .f32 (fv .add .f32 a4.im a4.im) a4.im)))] ?_; (with_reducible refine (impl_QuotientOf.calls t345 (⟨fv .add .f32 a2.re (fv .add .f32 a1.re (fv .add .f32 (fv .add .f32 a4.re a4.re) a4.re)), fv .add .f32 a2.im (fv .add .f32 a1.im (fv .add .f32 (fv .add .f32 a4.im a4.im) a4.im))⟩ : Cx) t346 _ A55.out).mono ?_); rintro e w68 ⟨rfl, hb⟩; refine ⟨_, rfl, ?_⟩; have n0_ := Aside0.mk (blk_below (g := gb337) (o := .cells #[.complex .f32 0 0, .complex .f32 0 0, .complex .f32 0 0] 80 (0, 0)) (bu BK337.out) hb); have n1_ := Aside0.mk (blk_below (g := gb338) (o := .cells #[.complex .f32 0 0, .complex .f32 t344.re t344.im, .complex .f32 0 0] 80 (0, 0)) (bu BK338.out) hb); have n2_ := Aside0.mk (below_step tb hb); clear BK337; clear BK338; clear HB; have BK337 := n0_; have BK338 := n1_; have HB := n2_; clear n0_ n1_ n2_; (try clear hb); (try clear hb2); (try clear hk); (try clear hi); have hcz69_0 : w68.cell? ⟨gb338, 0, none⟩ = some (.complex .f32 0 0) := (blk_cell BK338.out 0).trans rfl; have hcz69_1 : w68.cell? ⟨gb338, 1, none⟩ = some (.complex .f32 t344.re t344.im) := (blk_cell BK338.out 1).trans rfl; have hcz69_2 : w68.cell? ⟨gb338, 2, none⟩ = some (.complex .f32 0 0) := (blk_cell BK338.out 2).trans rfl; have hfz69_0 := blk_frozen BK338.out 0; have hfz69_1 := blk_frozen BK338.out 1; have hfz69_2 := blk_frozen BK338.out 2) | ((with_reducible refine gate_callee (f := 71) rfl ?_); refine gx_ (some 93) Try.func71 #[.complex .f32 t344.re t344.im, .complex .f32 a2.re a2.im] ?_; (with_reducible refine (impl_MulComplex.calls t344 a2 t347 _ A58.out).mono ?_); rintro e w70 ⟨rfl, hb⟩; refine ⟨_, rfl, ?_⟩; have n0_ := Aside0.mk (blk_below (g := gb337) (o := .cells #[.complex .f32 0 0, .complex .f32 0 0, .complex .f32 0 0] 80 (0, 0)) (bv BK337.out) hb); have n1_ := Aside0.mk (blk_below (g := gb338) (o := .cells #[.complex .f32 0 0, .complex .f32 t344.re t344.im, .complex .f32 (fv .sub .f32 0 t346.re) (fv .sub .f32 0 t346.im)] 80 (0, 0)) (by refine bu ?_; refine blk_put (cs := #[.complex .f32 0 0, .complex .f32 t344.re t344.im, .complex .f32 0 0]) ?_ 2 _ rfl; refine bu ?_; exact BK338.out) hb); have n2_ := Aside0.mk (below_step tb hb); clear BK337; clear BK338; clear HB; have BK337 := n0_; have BK338 := n1_; have HB := n2_; clear n0_ n1_ n2_; (try clear hb); (try clear hb2); (try clear hk); (try clear hi)) | ((with_reducible refine gate_callee (f := 95) rfl ?_); refine gx_ (some 95) Try.func95 #[.complex .f32 t347.re t347.im, .complex .f32 (fv .add .f32 a2.re (fv .add .f32 a1.re (fv .add .f32 (fv .add .f32 a4.re a4.re) a4.re))) (fv .add .f32 a2.im (fv .add .f32 a1.im (fv .add .f32 (fv .add .f32 a4.im a4.im) a4.im)))] ?_; (with_reducible refine (impl_QuotientOf.calls t347 (⟨fv .add .f32 a2.re (fv .add .f32 a1.re (fv .add .f32 (fv .add .f32 a4.re a4.re) a4.re)), fv .add .f32 a2.im (fv .add .f32 a1.im (fv .add .f32 (fv .add .f32 a4.im a4.im) a4.im))⟩ : Cx) t348 _ A59.out).mono ?_); rintro e w71 ⟨rfl, hb⟩; refine ⟨_, rfl, ?_⟩; have n0_ := Aside0.mk (blk_below (g := gb337) (o := .cells #[.complex .f32 0 0, .complex .f32 0 0, .complex .f32 0 0] 80 (0, 0)) (bu BK337.out) hb); have n1_ := Aside0.mk (blk_below (g := gb338) (o := .cells #[.complex .f32 0 0, .complex .f32 t344.re t344.im, .complex .f32 (fv .sub .f32 0 t346.re) (fv .sub .f32 0 t346.im)] 80 (0, 0)) (bu BK338.out) hb); have n2_ := Aside0.mk (below_step tb hb); clear BK337; clear BK338; clear HB; have BK337 := n0_; have BK338 := n1_; have HB := n2_; clear n0_ n1_ n2_; (try clear hb); (try clear hb2); (try clear hk); (try clear hi); have hcz72_0 : w71.cell? ⟨gb338, 0, none⟩ = some (.complex .f32 0 0) := (blk_cell BK338.out 0).trans rfl; have hcz72_1 : w71.cell? ⟨gb338, 1, none⟩ = some (.complex .f32 t344.re t344.im) := (blk_cell BK338.out 1).trans rfl; have hcz72_2 : w71.cell? ⟨gb338, 2, none⟩ = some (.complex .f32 (fv .sub .f32 0 t346.re) (fv .sub .f32 0 t346.im)) := (blk_cell BK338.out 2).trans rfl; have hfz72_0 := blk_frozen BK338.out 0; have hfz72_1 := blk_frozen BK338.out 1; have hfz72_2 := blk_frozen BK338.out 2))
                    go_meet
                    case rel => exact ⟨_, ((⟨0, 0⟩ : Cx)), ((⟨0, 0⟩ : Cx)), ((⟨0, 0⟩ : Cx)), ((⟨fv .sub .f32 0 t348.re, fv .sub .f32 0 t348.im⟩ : Cx)), (t344), ((⟨fv .sub .f32 0 t346.re, fv .sub .f32 0 t346.im⟩ : Cx)), H', ⟨by exact om_⟩, ⟨by refine bv ?_; exact BK337.out⟩, ⟨by refine bu ?_; refine blk_put (cs := #[.complex .f32 0 0, .complex .f32 t344.re t344.im, .complex .f32 (fv .sub .f32 0 t346.re) (fv .sub .f32 0 t346.im)]) ?_ 0 _ rfl; refine bu ?_; exact BK338.out⟩, ⟨tb⟩⟩
                   ·rw [if_neg c61] at H
                    exact absurd H (by simp)
                  ·rw [if_neg c60] at H
                   exact absurd H (by simp)
                 ·rw [if_neg c57] at H
                  exact absurd H (by simp)
                ·rw [if_neg c56] at H
                 exact absurd H (by simp)
               ·rw [if_neg c52] at H
                exact absurd H (by simp)
              ·rw [if_neg c51] at H
               exact absurd H (by simp)
             ·rw [if_neg c48] at H
              exact absurd H (by simp)
            ·rw [if_neg c47] at H
             exact absurd H (by simp)
           ·rw [if_neg c46] at H
            exact absurd H (by simp)
          ·rw [if_neg c45] at H
           exact absurd H (by simp)
         ·rw [if_neg c44] at H
          have c44b0 : (a3 == 3) = false := beq_eq_false_iff_ne.mpr c44
          have c44b1 : (a3 != 3) = true := bne_iff_ne.mpr c44
          simp only [Option.some.injEq, Prod.mk.injEq] at H
          obtain ⟨rfl, rfl, rfl, rfl⟩ := H
          have hnb73 := NB337_338.out
          have hnc73 := NB338_337.out
          have hcz74_0 : w12.cell? ⟨gb337, 0, none⟩ = some (.complex .f32 0 0) := (blk_cell BK337.out 0).trans rfl
          have hcz74_1 : w12.cell? ⟨gb337, 1, none⟩ = some (.complex .f32 0 0) := (blk_cell BK337.out 1).trans rfl
          have hcz74_2 : w12.cell? ⟨gb337, 2, none⟩ = some (.complex .f32 0 0) := (blk_cell BK337.out 2).trans rfl
          have hfz74_0 := blk_frozen BK337.out 0
          have hfz74_1 := blk_frozen BK337.out 1
          have hfz74_2 := blk_frozen BK337.out 2
          go_wp2
          refine bodyPost_ret (results_ct rfl _ _ gb337 80 #[.complex .f32 0 0, .complex .f32 0 0, .complex .f32 0 0] (0, 0) _ rfl (by refine bu ?_; refine blk_put (cs := #[.complex .f32 0 0, .complex .f32 0 0, .complex .f32 0 0]) ?_ 2 _ rfl; refine bu ?_; refine blk_put (cs := #[.complex .f32 0 0, .complex .f32 0 0, .complex .f32 0 0]) ?_ 1 _ rfl; refine bu ?_; refine blk_put (cs := #[.complex .f32 0 0, .complex .f32 0 0, .complex .f32 0 0]) ?_ 0 _ rfl; refine bv ?_; exact BK337.out) Try.underlying80 rfl (by kernel_rfl)) rfl ?_
          exact ⟨re_, tb⟩
     case rest =>
      clear HC10
      try clear c1
      try clear c2
      try clear p2
      try clear c3
      try clear c4
      try clear c5
      try clear c6
      try clear c6b0
      try clear c6b1
      try clear c7
      try clear c7b0
      try clear c7b1
      try clear c8
      try clear c8b0
      try clear c8b1
      try clear c9
      try clear c9b0
      try clear c9b1
      try clear c13
      try clear c15
      try clear c15b0
      try clear c15b1
      try clear c16
      try clear c16b0
      try clear c16b1
      try clear c17
      try clear c17b0
      try clear c17b1
      try clear c20
      try clear c22
      try clear c22b0
      try clear c22b1
      try clear c23
      try clear c23b0
      try clear c23b1
      try clear c24
      try clear c24b0
      try clear c24b1
      try clear c25
      try clear c25b0
      try clear c25b1
      try clear c26
      try clear c26b0
      try clear c26b1
      try clear c27
      try clear c27b0
      try clear c27b1
      try clear c28
      try clear c28b0
      try clear c28b1
      try clear c31
      try clear c33
      try clear c33b0
      try clear c33b1
      try clear c34
      try clear c34b0
      try clear c34b1
      try clear c35
      try clear c35b0
      try clear c35b1
      try clear c36
      try clear c36b0
      try clear c36b1
      try clear c37
      try clear c37b0
      try clear c37b1
      try clear c39
      try clear c39b0
      try clear c39b1
      try clear c40
      try clear c40b0
      try clear c40b1
      try clear c42
      try clear c44
      try clear c44b0
      try clear c44b1
      try clear c45
      try clear c45b0
      try clear c45b1
      try clear c46
      try clear c46b0
      try clear c46b1
      try clear c47
      try clear c47b0
      try clear c47b1
      try clear c48
      try clear c48b0
      try clear c48b1
      try clear c51
      try clear c51b0
      try clear c51b1
      try clear c52
      try clear c52b0
      try clear c52b1
      try clear c56
      try clear c56b0
      try clear c56b1
      try clear c57
      try clear c57b0
      try clear c57b1
      try clear c60
      try clear c60b0
      try clear c60b1
      try clear c61
      try clear c61b0
      try clear c61b1
      try clear c65
      try clear c71
      try clear c73
      try clear hcz14_0
      try clear hcz14_1
      try clear hcz14_2
      try clear hcz21_0
      try clear hcz21_1
      try clear hcz21_2
      try clear hcz32_0
      try clear hcz32_1
      try clear hcz32_2
      try clear hcz43_0
      try clear hcz43_1
      try clear hcz43_2
      try clear hcz66_0
      try clear hcz66_1
      try clear hcz66_2
      try clear hcz69_0
      try clear hcz69_1
      try clear hcz69_2
      try clear hcz72_0
      try clear hcz72_1
      try clear hcz72_2
      try clear hcz74_0
      try clear hcz74_1
      try clear hcz74_2
      try clear hfz14_0
      try clear hfz14_1
      try clear hfz14_2
      try clear hfz21_0
      try clear hfz21_1
      try clear hfz21_2
      try clear hfz32_0
      try clear hfz32_1
      try clear hfz32_2
      try clear hfz43_0
      try clear hfz43_1
      try clear hfz43_2
      try clear hfz66_0
      try clear hfz66_1
      try clear hfz66_2
      try clear hfz69_0
      try clear hfz69_1
      try clear hfz69_2
      try clear hfz72_0
      try clear hfz72_1
      try clear hfz72_2
      try clear hfz74_0
      try clear hfz74_1
      try clear hfz74_2
      obtain ⟨kq, x338000_9, x338001_9, x338002_9, x339000_9, x339001_9, x339002_9, HA, HJ9, BK337, BK338, HB⟩ := hcut
      cases kq with
      | zero => exact absurd HA.out (by simp [impl_FaultParts.j0])
      | succ kj9 =>
       have H := HA.out
       clear HA
       simp only [impl_FaultParts.j0] at H
       replace H := Option.bind_eq_some_iff.mp H
       obtain ⟨t349, A750, H⟩ := H
       try dsimp only at H
       have A75 := Aside0.mk A750
       clear A750
       by_cases c76 : t349 = true
       ·subst c76
        rw [if_pos rfl] at H; try dsimp only at H
        replace H := Option.bind_eq_some_iff.mp H
        obtain ⟨t350, A770, H⟩ := H
        try dsimp only at H
        have A77 := Aside0.mk A770
        clear A770
        by_cases c78 : t350 = true
        ·subst c78
         rw [if_pos rfl] at H; try dsimp only at H
         replace H := Option.bind_eq_some_iff.mp H
         obtain ⟨t351, A790, H⟩ := H
         try dsimp only at H
         have A79 := Aside0.mk A790
         clear A790
         by_cases c80 : t351 = true
         ·subst c80
          rw [if_pos rfl] at H; try dsimp only at H
          simp only [Option.some.injEq, Prod.mk.injEq] at H
          obtain ⟨rfl, rfl, rfl, rfl⟩ := H
          have hnb81 := NB338_337.out
          have hnc81 := NB337_338.out
          have hcz82_0 : wc.cell? ⟨gb338, 0, none⟩ = some (.complex .f32 x339000_9.re x339000_9.im) := (blk_cell BK338.out 0).trans rfl
          have hcz82_1 : wc.cell? ⟨gb338, 1, none⟩ = some (.complex .f32 x339001_9.re x339001_9.im) := (blk_cell BK338.out 1).trans rfl
          have hcz82_2 : wc.cell? ⟨gb338, 2, none⟩ = some (.complex .f32 x339002_9.re x339002_9.im) := (blk_cell BK338.out 2).trans rfl
          have hfz82_0 := blk_frozen BK338.out 0
          have hfz82_1 := blk_frozen BK338.out 1
          have hfz82_2 := blk_frozen BK338.out 2
          go_wp2_with (first | ((with_reducible refine gate_callee (f := 106) rfl ?_); refine gx_ (some 100) Try.func106 #[.complex .f32 x339000_9.re x339000_9.im] ?_; (with_reducible refine (impl_IsFiniteComplex.calls kj9 x339000_9 true _ A75.out).mono ?_); rintro e w83 ⟨rfl, hb⟩; refine ⟨_, rfl, ?_⟩; have n0_ := Aside0.mk (blk_below (g := gb337) (o := .cells #[.complex .f32 x338000_9.re x338000_9.im, .complex .f32 x338001_9.re x338001_9.im, .complex .f32 x338002_9.re x338002_9.im] 80 (0, 0)) (bu BK337.out) hb); have n1_ := Aside0.mk (blk_below (g := gb338) (o := .cells #[.complex .f32 x339000_9.re x339000_9.im, .complex .f32 x339001_9.re x339001_9.im, .complex .f32 x339002_9.re x339002_9.im] 80 (0, 0)) (bu BK338.out) hb); have n2_ := Aside0.mk (below_step tb hb); clear BK337; clear BK338; clear HB; have BK337 := n0_; have BK338 := n1_; have HB := n2_; clear n0_ n1_ n2_; (try clear hb); (try clear hb2); (try clear hk); (try clear hi); have hcz84_0 : w83.cell? ⟨gb338, 0, none⟩ = some (.complex .f32 x339000_9.re x339000_9.im) := (blk_cell BK338.out 0).trans rfl; have hcz84_1 : w83.cell? ⟨gb338, 1, none⟩ = some (.complex .f32 x339001_9.re x339001_9.im) := (blk_cell BK338.out 1).trans rfl; have hcz84_2 : w83.cell? ⟨gb338, 2, none⟩ = some (.complex .f32 x339002_9.re x339002_9.im) := (blk_cell BK338.out 2).trans rfl; have hfz84_0 := blk_frozen BK338.out 0; have hfz84_1 := blk_frozen BK338.out 1; have hfz84_2 := blk_frozen BK338.out 2) | (go_at_call 106; (with_reducible refine (impl_IsFiniteComplex.calls kj9 x339001_9 true _ A77.out).mono ?_); rintro e w85 ⟨rfl, hb⟩; have n0_ := Aside0.mk (blk_below (g := gb337) (o := .cells #[.complex .f32 x338000_9.re x338000_9.im, .complex .f32 x338001_9.re x338001_9.im, .complex .f32 x338002_9.re x338002_9.im] 80 (0, 0)) (bu BK337.out) hb); have n1_ := Aside0.mk (blk_below (g := gb338) (o := .cells #[.complex .f32 x339000_9.re x339000_9.im, .complex .f32 x339001_9.re x339001_9.im, .complex .f32 x339002_9.re x339002_9.im] 80 (0, 0)) (bu BK338.out) hb); have n2_ := Aside0.mk (below_step tb hb); clear BK337; clear BK338; clear HB; have BK337 := n0_; have BK338 := n1_; have HB := n2_; clear n0_ n1_ n2_; (try clear hb); (try clear hb2); (try clear hk); (try clear hi); have hcz86_0 : w85.cell? ⟨gb338, 0, none⟩ = some (.complex .f32 x339000_9.re x339000_9.im) := (blk_cell BK338.out 0).trans rfl; have hcz86_1 : w85.cell? ⟨gb338, 1, none⟩ = some (.complex .f32 x339001_9.re x339001_9.im) := (blk_cell BK338.out 1).trans rfl; have hcz86_2 : w85.cell? ⟨gb338, 2, none⟩ = some (.complex .f32 x339002_9.re x339002_9.im) := (blk_cell BK338.out 2).trans rfl; have hfz86_0 := blk_frozen BK338.out 0; have hfz86_1 := blk_frozen BK338.out 1; have hfz86_2 := blk_frozen BK338.out 2) | (go_at_call 106; (with_reducible refine (impl_IsFiniteComplex.calls kj9 x339002_9 true _ A79.out).mono ?_); rintro e w87 ⟨rfl, hb⟩; have n0_ := Aside0.mk (blk_below (g := gb337) (o := .cells #[.complex .f32 x338000_9.re x338000_9.im, .complex .f32 x338001_9.re x338001_9.im, .complex .f32 x338002_9.re x338002_9.im] 80 (0, 0)) (bu BK337.out) hb); have n1_ := Aside0.mk (blk_below (g := gb338) (o := .cells #[.complex .f32 x339000_9.re x339000_9.im, .complex .f32 x339001_9.re x339001_9.im, .complex .f32 x339002_9.re x339002_9.im] 80 (0, 0)) (bu BK338.out) hb); have n2_ := Aside0.mk (below_step tb hb); clear BK337; clear BK338; clear HB; have BK337 := n0_; have BK338 := n1_; have HB := n2_; clear n0_ n1_ n2_; (try clear hb); (try clear hb2); (try clear hk); (try clear hi); have hcz88_0 : w87.cell? ⟨gb338, 0, none⟩ = some (.complex .f32 x339000_9.re x339000_9.im) := (blk_cell BK338.out 0).trans rfl; have hcz88_1 : w87.cell? ⟨gb338, 1, none⟩ = some (.complex .f32 x339001_9.re x339001_9.im) := (blk_cell BK338.out 1).trans rfl; have hcz88_2 : w87.cell? ⟨gb338, 2, none⟩ = some (.complex .f32 x339002_9.re x339002_9.im) := (blk_cell BK338.out 2).trans rfl; have hfz88_0 := blk_frozen BK338.out 0; have hfz88_1 := blk_frozen BK338.out 1; have hfz88_2 := blk_frozen BK338.out 2; have hcz89_0 : w87.cell? ⟨gb337, 0, none⟩ = some (.complex .f32 x338000_9.re x338000_9.im) := (blk_cell BK337.out 0).trans rfl; have hcz89_1 : w87.cell? ⟨gb337, 1, none⟩ = some (.complex .f32 x338001_9.re x338001_9.im) := (blk_cell BK337.out 1).trans rfl; have hcz89_2 : w87.cell? ⟨gb337, 2, none⟩ = some (.complex .f32 x338002_9.re x338002_9.im) := (blk_cell BK337.out 2).trans rfl; have hfz89_0 := blk_frozen BK337.out 0; have hfz89_1 := blk_frozen BK337.out 1; have hfz89_2 := blk_frozen BK337.out 2))
          refine bodyPost_ret (results_ct rfl _ _ gb337 80 #[.complex .f32 x339000_9.re x339000_9.im, .complex .f32 x339001_9.re x339001_9.im, .complex .f32 x339002_9.re x339002_9.im] (0, 0) _ rfl (by refine bu ?_; refine blk_put (cs := #[.complex .f32 x339000_9.re x339000_9.im, .complex .f32 x339001_9.re x339001_9.im, .complex .f32 x338002_9.re x338002_9.im]) ?_ 2 _ rfl; refine bu ?_; refine blk_put (cs := #[.complex .f32 x339000_9.re x339000_9.im, .complex .f32 x338001_9.re x338001_9.im, .complex .f32 x338002_9.re x338002_9.im]) ?_ 1 _ rfl; refine bu ?_; refine blk_put (cs := #[.complex .f32 x338000_9.re x338000_9.im, .complex .f32 x338001_9.re x338001_9.im, .complex .f32 x338002_9.re x338002_9.im]) ?_ 0 _ rfl; refine bu ?_; exact BK337.out) Try.underlying80 rfl (by kernel_rfl)) rfl ?_
          exact ⟨re_, tb⟩
         ·replace c80 := Bool.eq_false_iff.mpr c80
          subst c80
          have H1 : (some ((⟨0, 0⟩ : Cx), (⟨0, 0⟩ : Cx), (⟨0, 0⟩ : Cx), false)) = some (r1, r2, r3, r4) := by rw [if_neg (show ¬ (false = true) by decide)] at H; exact H
          clear H
          have H := H1
          clear H1
          simp only [Option.some.injEq, Prod.mk.injEq] at H
          obtain ⟨rfl, rfl, rfl, rfl⟩ := H
          have hnb90 := NB338_337.out
          have hnc90 := NB337_338.out
          have hcz91_0 : wc.cell? ⟨gb338, 0, none⟩ = some (.complex .f32 x339000_9.re x339000_9.im) := (blk_cell BK338.out 0).trans rfl
          have hcz91_1 : wc.cell? ⟨gb338, 1, none⟩ = some (.complex .f32 x339001_9.re x339001_9.im) := (blk_cell BK338.out 1).trans rfl
          have hcz91_2 : wc.cell? ⟨gb338, 2, none⟩ = some (.complex .f32 x339002_9.re x339002_9.im) := (blk_cell BK338.out 2).trans rfl
          have hfz91_0 := blk_frozen BK338.out 0
          have hfz91_1 := blk_frozen BK338.out 1
          have hfz91_2 := blk_frozen BK338.out 2
          go_wp2_with (first | ((with_reducible refine gate_callee (f := 106) rfl ?_); refine gx_ (some 100) Try.func106 #[.complex .f32 x339000_9.re x339000_9.im] ?_; (with_reducible refine (impl_IsFiniteComplex.calls kj9 x339000_9 true _ A75.out).mono ?_); rintro e w92 ⟨rfl, hb⟩; refine ⟨_, rfl, ?_⟩; have n0_ := Aside0.mk (blk_below (g := gb337) (o := .cells #[.complex .f32 x338000_9.re x338000_9.im, .complex .f32 x338001_9.re x338001_9.im, .complex .f32 x338002_9.re x338002_9.im] 80 (0, 0)) (bu BK337.out) hb); have n1_ := Aside0.mk (blk_below (g := gb338) (o := .cells #[.complex .f32 x339000_9.re x339000_9.im, .complex .f32 x339001_9.re x339001_9.im, .complex .f32 x339002_9.re x339002_9.im] 80 (0, 0)) (bu BK338.out) hb); have n2_ := Aside0.mk (below_step tb hb); clear BK337; clear BK338; clear HB; have BK337 := n0_; have BK338 := n1_; have HB := n2_; clear n0_ n1_ n2_; (try clear hb); (try clear hb2); (try clear hk); (try clear hi); have hcz93_0 : w92.cell? ⟨gb338, 0, none⟩ = some (.complex .f32 x339000_9.re x339000_9.im) := (blk_cell BK338.out 0).trans rfl; have hcz93_1 : w92.cell? ⟨gb338, 1, none⟩ = some (.complex .f32 x339001_9.re x339001_9.im) := (blk_cell BK338.out 1).trans rfl; have hcz93_2 : w92.cell? ⟨gb338, 2, none⟩ = some (.complex .f32 x339002_9.re x339002_9.im) := (blk_cell BK338.out 2).trans rfl; have hfz93_0 := blk_frozen BK338.out 0; have hfz93_1 := blk_frozen BK338.out 1; have hfz93_2 := blk_frozen BK338.out 2) | (go_at_call 106; (with_reducible refine (impl_IsFiniteComplex.calls kj9 x339001_9 true _ A77.out).mono ?_); rintro e w94 ⟨rfl, hb⟩; have n0_ := Aside0.mk (blk_below (g := gb337) (o := .cells #[.complex .f32 x338000_9.re x338000_9.im, .complex .f32 x338001_9.re x338001_9.im, .complex .f32 x338002_9.re x338002_9.im] 80 (0, 0)) (bu BK337.out) hb); have n1_ := Aside0.mk (blk_below (g := gb338) (o := .cells #[.complex .f32 x339000_9.re x339000_9.im, .complex .f32 x339001_9.re x339001_9.im, .complex .f32 x339002_9.re x339002_9.im] 80 (0, 0)) (bu BK338.out) hb); have n2_ := Aside0.mk (below_step tb hb); clear BK337; clear BK338; clear HB; have BK337 := n0_; have BK338 := n1_; have HB := n2_; clear n0_ n1_ n2_; (try clear hb); (try clear hb2); (try clear hk); (try clear hi); have hcz95_0 : w94.cell? ⟨gb338, 0, none⟩ = some (.complex .f32 x339000_9.re x339000_9.im) := (blk_cell BK338.out 0).trans rfl; have hcz95_1 : w94.cell? ⟨gb338, 1, none⟩ = some (.complex .f32 x339001_9.re x339001_9.im) := (blk_cell BK338.out 1).trans rfl; have hcz95_2 : w94.cell? ⟨gb338, 2, none⟩ = some (.complex .f32 x339002_9.re x339002_9.im) := (blk_cell BK338.out 2).trans rfl; have hfz95_0 := blk_frozen BK338.out 0; have hfz95_1 := blk_frozen BK338.out 1; have hfz95_2 := blk_frozen BK338.out 2) | (go_at_call 106; (with_reducible refine (impl_IsFiniteComplex.calls kj9 x339002_9 false _ A79.out).mono ?_); rintro e w96 ⟨rfl, hb⟩; have n0_ := Aside0.mk (blk_below (g := gb337) (o := .cells #[.complex .f32 x338000_9.re x338000_9.im, .complex .f32 x338001_9.re x338001_9.im, .complex .f32 x338002_9.re x338002_9.im] 80 (0, 0)) (bu BK337.out) hb); have n1_ := Aside0.mk (blk_below (g := gb338) (o := .cells #[.complex .f32 x339000_9.re x339000_9.im, .complex .f32 x339001_9.re x339001_9.im, .complex .f32 x339002_9.re x339002_9.im] 80 (0, 0)) (bu BK338.out) hb); have n2_ := Aside0.mk (below_step tb hb); clear BK337; clear BK338; clear HB; have BK337 := n0_; have BK338 := n1_; have HB := n2_; clear n0_ n1_ n2_; (try clear hb); (try clear hb2); (try clear hk); (try clear hi); have hcz97_0 : w96.cell? ⟨gb337, 0, none⟩ = some (.complex .f32 x338000_9.re x338000_9.im) := (blk_cell BK337.out 0).trans rfl; have hcz97_1 : w96.cell? ⟨gb337, 1, none⟩ = some (.complex .f32 x338001_9.re x338001_9.im) := (blk_cell BK337.out 1).trans rfl; have hcz97_2 : w96.cell? ⟨gb337, 2, none⟩ = some (.complex .f32 x338002_9.re x338002_9.im) := (blk_cell BK337.out 2).trans rfl; have hfz97_0 := blk_frozen BK337.out 0; have hfz97_1 := blk_frozen BK337.out 1; have hfz97_2 := blk_frozen BK337.out 2))
          refine bodyPost_ret (results_ct rfl _ _ gb337 80 #[.complex .f32 0 0, .complex .f32 0 0, .complex .f32 0 0] (0, 0) _ rfl (by refine bu ?_; refine blk_put (cs := #[.complex .f32 0 0, .complex .f32 0 0, .complex .f32 x338002_9.re x338002_9.im]) ?_ 2 _ rfl; refine bu ?_; refine blk_put (cs := #[.complex .f32 0 0, .complex .f32 x338001_9.re x338001_9.im, .complex .f32 x338002_9.re x338002_9.im]) ?_ 1 _ rfl; refine bu ?_; refine blk_put (cs := #[.complex .f32 x338000_9.re x338000_9.im, .complex .f32 x338001_9.re x338001_9.im, .complex .f32 x338002_9.re x338002_9.im]) ?_ 0 _ rfl; refine bu ?_; exact BK337.out) Try.underlying80 rfl (by kernel_rfl)) rfl ?_
          exact ⟨re_, tb⟩
        ·replace c78 := Bool.eq_false_iff.mpr c78
         subst c78
         have H1 : (some ((⟨0, 0⟩ : Cx), (⟨0, 0⟩ : Cx), (⟨0, 0⟩ : Cx), false)) = some (r1, r2, r3, r4) := by rw [if_neg (show ¬ (false = true) by decide)] at H; exact H
         clear H
         have H := H1
         clear H1
         simp only [Option.some.injEq, Prod.mk.injEq] at H
         obtain ⟨rfl, rfl, rfl, rfl⟩ := H
         have hnb98 := NB338_337.out
         have hnc98 := NB337_338.out
         have hcz99_0 : wc.cell? ⟨gb338, 0, none⟩ = some (.complex .f32 x339000_9.re x339000_9.im) := (blk_cell BK338.out 0).trans rfl
         have hcz99_1 : wc.cell? ⟨gb338, 1, none⟩ = some (.complex .f32 x339001_9.re x339001_9.im) := (blk_cell BK338.out 1).trans rfl
         have hcz99_2 : wc.cell? ⟨gb338, 2, none⟩ = some (.complex .f32 x339002_9.re x339002_9.im) := (blk_cell BK338.out 2).trans rfl
         have hfz99_0 := blk_frozen BK338.out 0
         have hfz99_1 := blk_frozen BK338.out 1
         have hfz99_2 := blk_frozen BK338.out 2
         go_wp2_with (first | ((with_reducible refine gate_callee (f := 106) rfl ?_); refine gx_ (some 100) Try.func106 #[.complex .f32 x339000_9.re x339000_9.im] ?_; (with_reducible refine (impl_IsFiniteComplex.calls kj9 x339000_9 true _ A75.out).mono ?_); rintro e w100 ⟨rfl, hb⟩; refine ⟨_, rfl, ?_⟩; have n0_ := Aside0.mk (blk_below (g := gb337) (o := .cells #[.complex .f32 x338000_9.re x338000_9.im, .complex .f32 x338001_9.re x338001_9.im, .complex .f32 x338002_9.re x338002_9.im] 80 (0, 0)) (bu BK337.out) hb); have n1_ := Aside0.mk (blk_below (g := gb338) (o := .cells #[.complex .f32 x339000_9.re x339000_9.im, .complex .f32 x339001_9.re x339001_9.im, .complex .f32 x339002_9.re x339002_9.im] 80 (0, 0)) (bu BK338.out) hb); have n2_ := Aside0.mk (below_step tb hb); clear BK337; clear BK338; clear HB; have BK337 := n0_; have BK338 := n1_; have HB := n2_; clear n0_ n1_ n2_; (try clear hb); (try clear hb2); (try clear hk); (try clear hi); have hcz101_0 : w100.cell? ⟨gb338, 0, none⟩ = some (.complex .f32 x339000_9.re x339000_9.im) := (blk_cell BK338.out 0).trans rfl; have hcz101_1 : w100.cell? ⟨gb338, 1, none⟩ = some (.complex .f32 x339001_9.re x339001_9.im) := (blk_cell BK338.out 1).trans rfl; have hcz101_2 : w100.cell? ⟨gb338, 2, none⟩ = some (.complex .f32 x339002_9.re x339002_9.im) := (blk_cell BK338.out 2).trans rfl; have hfz101_0 := blk_frozen BK338.out 0; have hfz101_1 := blk_frozen BK338.out 1; have hfz101_2 := blk_frozen BK338.out 2) | (go_at_call 106; (with_reducible refine (impl_IsFiniteComplex.calls kj9 x339001_9 false _ A77.out).mono ?_); rintro e w102 ⟨rfl, hb⟩; have n0_ := Aside0.mk (blk_below (g := gb337) (o := .cells #[.complex .f32 x338000_9.re x338000_9.im, .complex .f32 x338001_9.re x338001_9.im, .complex .f32 x338002_9.re x338002_9.im] 80 (0, 0)) (bu BK337.out) hb); have n1_ := Aside0.mk (blk_below (g := gb338) (o := .cells #[.complex .f32 x339000_9.re x339000_9.im, .complex .f32 x339001_9.re x339001_9.im, .complex .f32 x339002_9.re x339002_9.im] 80 (0, 0)) (bu BK338.out) hb); have n2_ := Aside0.mk (below_step tb hb); clear BK337; clear BK338; clear HB; have BK337 := n0_; have BK338 := n1_; have HB := n2_; clear n0_ n1_ n2_; (try clear hb); (try clear hb2); (try clear hk); (try clear hi); have hcz103_0 : w102.cell? ⟨gb337, 0, none⟩ = some (.complex .f32 x338000_9.re x338000_9.im) := (blk_cell BK337.out 0).trans rfl; have hcz103_1 : w102.cell? ⟨gb337, 1, none⟩ = some (.complex .f32 x338001_9.re x338001_9.im) := (blk_cell BK337.out 1).trans rfl; have hcz103_2 : w102.cell? ⟨gb337, 2, none⟩ = some (.complex .f32 x338002_9.re x338002_9.im) := (blk_cell BK337.out 2).trans rfl; have hfz103_0 := blk_frozen BK337.out 0; have hfz103_1 := blk_frozen BK337.out 1; have hfz103_2 := blk_frozen BK337.out 2))
         refine bodyPost_ret (results_ct rfl _ _ gb337 80 #[.complex .f32 0 0, .complex .f32 0 0, .complex .f32 0 0] (0, 0) _ rfl (by refine bu ?_; refine blk_put (cs := #[.complex .f32 0 0, .complex .f32 0 0, .complex .f32 x338002_9.re x338002_9.im]) ?_ 2 _ rfl; refine bu ?_; refine blk_put (cs := #[.complex .f32 0 0, .complex .f32 x338001_9.re x338001_9.im, .complex .f32 x338002_9.re x338002_9.im]) ?_ 1 _ rfl; refine bu ?_; refine blk_put (cs := #[.complex .f32 x338000_9.re x338000_9.im, .complex .f32 x338001_9.re x338001_9.im, .complex .f32 x338002_9.re x338002_9.im]) ?_ 0 _ rfl; refine bu ?_; exact BK337.out) Try.underlying80 rfl (by kernel_rfl)) rfl ?_
         exact ⟨re_, tb⟩
       ·replace c76 := Bool.eq_false_iff.mpr c76
        subst c76
        have H1 : (some ((⟨0, 0⟩ : Cx), (⟨0, 0⟩ : Cx), (⟨0, 0⟩ : Cx), false)) = some (r1, r2, r3, r4) := by rw [if_neg (show ¬ (false = true) by decide)] at H; exact H
        clear H
        have H := H1
        clear H1
        simp only [Option.some.injEq, Prod.mk.injEq] at H
        obtain ⟨rfl, rfl, rfl, rfl⟩ := H
        have hnb104 := NB338_337.out
        have hnc104 := NB337_338.out
        have hcz105_0 : wc.cell? ⟨gb338, 0, none⟩ = some (.complex .f32 x339000_9.re x339000_9.im) := (blk_cell BK338.out 0).trans rfl
        have hcz105_1 : wc.cell? ⟨gb338, 1, none⟩ = some (.complex .f32 x339001_9.re x339001_9.im) := (blk_cell BK338.out 1).trans rfl
        have hcz105_2 : wc.cell? ⟨gb338, 2, none⟩ = some (.complex .f32 x339002_9.re x339002_9.im) := (blk_cell BK338.out 2).trans rfl
        have hfz105_0 := blk_frozen BK338.out 0
        have hfz105_1 := blk_frozen BK338.out 1
        have hfz105_2 := blk_frozen BK338.out 2
        go_wp2_with (first | ((with_reducible refine gate_callee (f := 106) rfl ?_); refine gx_ (some 100) Try.func106 #[.complex .f32 x339000_9.re x339000_9.im] ?_; (with_reducible refine (impl_IsFiniteComplex.calls kj9 x339000_9 false _ A75.out).mono ?_); rintro e w106 ⟨rfl, hb⟩; refine ⟨_, rfl, ?_⟩; have n0_ := Aside0.mk (blk_below (g := gb337) (o := .cells #[.complex .f32 x338000_9.re x338000_9.im, .complex .f32 x338001_9.re x338001_9.im, .complex .f32 x338002_9.re x338002_9.im] 80 (0, 0)) (bu BK337.out) hb); have n1_ := Aside0.mk (blk_below (g := gb338) (o := .cells #[.complex .f32 x339000_9.re x339000_9.im, .complex .f32 x339001_9.re x339001_9.im, .complex .f32 x339002_9.re x339002_9.im] 80 (0, 0)) (bu BK338.out) hb); have n2_ := Aside0.mk (below_step tb hb); clear BK337; clear BK338; clear HB; have BK337 := n0_; have BK338 := n1_; have HB := n2_; clear n0_ n1_ n2_; (try clear hb); (try clear hb2); (try clear hk); (try clear hi); have hcz107_0 : w106.cell? ⟨gb337, 0, none⟩ = some (.complex .f32 x338000_9.re x338000_9.im) := (blk_cell BK337.out 0).trans rfl; have hcz107_1 : w106.cell? ⟨gb337, 1, none⟩ = some (.complex .f32 x338001_9.re x338001_9.im) := (blk_cell BK337.out 1).trans rfl; have hcz107_2 : w106.cell? ⟨gb337, 2, none⟩ = some (.complex .f32 x338002_9.re x338002_9.im) := (blk_cell BK337.out 2).trans rfl; have hfz107_0 := blk_frozen BK337.out 0; have hfz107_1 := blk_frozen BK337.out 1; have hfz107_2 := blk_frozen BK337.out 2))
        refine bodyPost_ret (results_ct rfl _ _ gb337 80 #[.complex .f32 0 0, .complex .f32 0 0, .complex .f32 0 0] (0, 0) _ rfl (by refine bu ?_; refine blk_put (cs := #[.complex .f32 0 0, .complex .f32 0 0, .complex .f32 x338002_9.re x338002_9.im]) ?_ 2 _ rfl; refine bu ?_; refine blk_put (cs := #[.complex .f32 0 0, .complex .f32 x338001_9.re x338001_9.im, .complex .f32 x338002_9.re x338002_9.im]) ?_ 1 _ rfl; refine bu ?_; refine blk_put (cs := #[.complex .f32 x338000_9.re x338000_9.im, .complex .f32 x338001_9.re x338001_9.im, .complex .f32 x338002_9.re x338002_9.im]) ?_ 0 _ rfl; refine bu ?_; exact BK337.out) Try.underlying80 rfl (by kernel_rfl)) rfl ?_
        exact ⟨re_, tb⟩
    ·rw [if_neg c9] at H
     exact absurd H (by simp)
   ·rw [if_neg c8] at H
    exact absurd H (by simp)
  ·rw [if_neg c7] at H
   exact absurd H (by simp)
 ·rw [if_neg c6] at H
  exact absurd H (by simp)

end Go.Proofs.Ytcgpomicgbmdlaa.PFnCommon
namespace Go.Proofs.Ytcgpomicgbmdlaa.PFnCommon
open Go.RowKit Go.Proofs.YtcgpomicgbmdlaaW.PrintWords Go.Proofs.YtcgpomicgbmdlaaW.PrintLast Go.Proofs.YtcgpomicgbmdlaaW.PrintMore
attribute [local go_sem] max2_int min2_int max_two min_two max_three min_three max_four min_four   -- for this text's walks alone
set_option linter.unusedVariables false
set_option linter.unusedSimpArgs false

/-! ### impl_Feeder_impedance: function 103 -/
def impl_Feeder_impedance.l0 : Nat → Cx → Cx → List Int → Int → Int → Cx → Cx → Cx → List (S66) → Option (Cx × Cx × Cx × Cx × Cx)
 | 0, _, _, _, _, _, _, _, _, _ => none
 | k + 1, x6, x7, x10, x11, x12, x1000, x1001, x1002, x1003 => if x12 < x11 then (if 0 ≤ x12 then (if x12 < (x10.length : Int) then (if 0 ≤ (rd x10 x12) then (if (rd x10 x12) < (x1003.length : Int) then (if fok .add .f32 x6.re (((rd_T66 x1003 (rd x10 x12)).f1).re) = true then (if fok .add .f32 x6.im (((rd_T66 x1003 (rd x10 x12)).f1).im) = true then (if fok .add .f32 x7.re (((rd_T66 x1003 (rd x10 x12)).f2).re) = true then (if fok .add .f32 x7.im (((rd_T66 x1003 (rd x10 x12)).f2).im) = true then (impl_Feeder_impedance.l0 k (⟨fv .add .f32 x6.re (((rd_T66 x1003 (rd x10 x12)).f1).re), fv .add .f32 x6.im (((rd_T66 x1003 (rd x10 x12)).f1).im)⟩ : Cx) (⟨fv .add .f32 x7.re (((rd_T66 x1003 (rd x10 x12)).f2).re), fv .add .f32 x7.im (((rd_T66 x1003 (rd x10 x12)).f2).im)⟩ : Cx) x10 x11 (wrap64 (x12 + 1)) x1000 x1001 x1002 x1003) else (none)) else (none)) else (none)) else (none)) else (none)) else (none)) else (none)) else (none)) else (some (x6, x7, x1000, x1001, x1002))
def impl_Feeder_impedance.f (k : Nat) (s0_0 : Cx) (s0_1 : Cx) (s0_2 : Cx) (s0_3 : List (S66)) (l1 : List Int) : Option (Cx × Cx × Cx × Cx × Cx) := impl_Feeder_impedance.l0 k (⟨0, 0⟩ : Cx) (⟨0, 0⟩ : Cx) l1 (l1.length : Int) 0 s0_0 s0_1 s0_2 s0_3
theorem impl_Feeder_impedance.mono_l : ∀ k, (∀ y0 y1 y2 y3 y4 y5 y6 y7 y8, LeO (impl_Feeder_impedance.l0 k y0 y1 y2 y3 y4 y5 y6 y7 y8) (impl_Feeder_impedance.l0 (k + 1) y0 y1 y2 y3 y4 y5 y6 y7 y8))
 | 0 => fun _ _ _ _ _ _ _ _ _ r h => by simp [impl_Feeder_impedance.l0] at h
 | k + 1 => by
  have ih0 := impl_Feeder_impedance.mono_l k
  ·intro y0 y1 y2 y3 y4 y5 y6 y7 y8
   unfold impl_Feeder_impedance.l0
   repeat' first
   | (with_reducible exact ih0 _ _ _ _ _ _ _ _ _)
   | (with_reducible exact LeO.refl _)
   | (with_reducible exact LeO.none _)
   | (with_reducible refine LeO.ite ?_ ?_)
   | (with_reducible refine LeO.bind ?_ (fun _ => ?_))
   | exact ih0 _ _ _ _ _ _ _ _ _
   | exact LeO.none _
   | refine LeO.ite ?_ ?_
   | refine LeO.bind ?_ (fun _ => ?_)
theorem impl_Feeder_impedance.mono : ∀ a0 a1 a2 a3 a4 k, LeO (impl_Feeder_impedance.f k a0 a1 a2 a3 a4) (impl_Feeder_impedance.f (k + 1) a0 a1 a2 a3 a4) := by
 intro a0 a1 a2 a3 a4 k
 have ih0 := impl_Feeder_impedance.mono_l k
 unfold impl_Feeder_impedance.f
 repeat' first
   | (with_reducible exact ih0 _ _ _ _ _ _ _ _ _)
   | (with_reducible exact LeO.refl _)
   | (with_reducible exact LeO.none _)
   | (with_reducible refine LeO.ite ?_ ?_)
   | (with_reducible refine LeO.bind ?_ (fun _ => ?_))
   | exact ih0 _ _ _ _ _ _ _ _ _
   | exact LeO.none _
   | refine LeO.ite ?_ ?_
   | refine LeO.bind ?_ (fun _ => ?_)
set_option maxHeartbeats 8000000 in
set_option maxRecDepth 100000 in
theorem impl_Feeder_impedance.calls (k : Nat) (g : Nat) (s0_0 : Cx) (s0_1 : Cx) (s0_2 : Cx) (s0_3 : List (S66)) (A1 : Option Addr) (c1 : Nat) (l1 : List Int) (r1 : Cx) (r2 : Cx) (r3 : Cx) (r4 : Cx) (r5 : Cx) (w0 w : World) (hI : IsS42 w0 w g s0_0 s0_1 s0_2 s0_3) (hB : Below w0.heap.size w0 w) (hr1 : Kd.C (Kd.int .i64) w A1 l1.length l1) (hc1 : l1.length ≤ c1) (hf1 : ∀ ad, A1 = some ad → 0 < l1.length → ad.block ≠ g) (h : impl_Feeder_impedance.f k s0_0 s0_1 s0_2 s0_3 l1 = some (r1, r2, r3, r4, r5)) :
  Calls Try.prog 103 #[.pointer (some ⟨g, 0, none⟩), .slice A1 l1.length c1] w fun e w' => e = .returned (.tuple #[.complex .f32 r1.re r1.im, .complex .f32 r2.re r2.im]) ∧ IsS42 w0 w' g r3 r4 r5 s0_3 ∧ Below w0.heap.size w0 w' ∧ KeepBut w w' g none := by
 have HR1 := Aside0.mk hr1
 have HC1 := Aside0.mk hc1
 clear hr1 hc1
 have HI0 := Aside0.mk hI
 have HK := Aside0.mk (KeepBut.refl w g none)
 have HL := Aside0.mk hB.size
 clear hI
 have HW0 := Aside0.mk hB.size
 have HB := Aside0.mk hB
 clear hB
 have H : (impl_Feeder_impedance.l0 k (⟨0, 0⟩ : Cx) (⟨0, 0⟩ : Cx) l1 (l1.length : Int) 0 s0_0 s0_1 s0_2 s0_3) = some (r1, r2, r3, r4, r5) := h
 clear h
 have H' := Aside0.mk H
 clear H
 go_enter Try.func103, Try.ntmps103
 go_wp2
 go_loopg [6, 7, 12] k (fun kq v6 v7 v12 w' => ∃ (x6_1 : Cx) (x7_1 : Cx) (x12_1 : Int), v6 = .complex .f32 x6_1.re x6_1.im ∧ v7 = .complex .f32 x7_1.re x7_1.im ∧ v12 = .int .i64 x12_1 ∧ Aside0 (impl_Feeder_impedance.l0 kq x6_1 x7_1 l1 (l1.length : Int) x12_1 s0_0 s0_1 s0_2 s0_3 = some (r1, r2, r3, r4, r5)) ∧ Aside0 (kq ≤ k) ∧ Aside0 (IsS42 w0 w' g s0_0 s0_1 s0_2 s0_3) ∧ Aside0 (KeepBut w w' g none) ∧ Aside0 (Below w0.heap.size w0 w'))
 case atStart => exact ⟨((⟨0, 0⟩ : Cx)), ((⟨0, 0⟩ : Cx)), (0), rs_, rs_, rs_, H', ⟨Nat.le_refl _⟩, ⟨by have hi_ := HI0.out; exact IsS42.up⟩, ⟨by repeat (first | (with_reducible first | exact HK.out | apply KeepBut.set_ | apply keep_drewN | apply keep_drew | apply keep_alloc) | exact HK.out)⟩, ⟨by have ge_ := IsS42.ge HI0.out; exact tb⟩⟩
 case round =>
  clear H'
  try clear c1
  try clear p2
  obtain ⟨x6_1, x7_1, x12_1, rfl, rfl, rfl, HA, HK1, HI0, HK, HB⟩ := hrel
  cases gk with
  | zero => exact absurd HA.out (by simp [impl_Feeder_impedance.l0])
  | succ k1 =>
   have H := HA.out
   clear HA
   simp only [impl_Feeder_impedance.l0] at H
   by_cases c3 : x12_1 < (l1.length : Int)
   ·rw [if_pos c3] at H
    have c3b0 : decide (x12_1 < (l1.length : Int)) = true := decide_eq_true c3
    clear c3
    by_cases c4 : 0 ≤ x12_1
    ·rw [if_pos c4] at H
     have c4b0 : decide (0 ≤ x12_1) = true := decide_eq_true c4
     clear c4
     by_cases c5 : x12_1 < (l1.length : Int)
     ·rw [if_pos c5] at H
      have c5b0 : decide (x12_1 < (l1.length : Int)) = true := decide_eq_true c5
      clear c5
      by_cases c6 : 0 ≤ (rd l1 x12_1)
      ·rw [if_pos c6] at H
       have c6b0 : decide (0 ≤ (rd l1 x12_1)) = true := decide_eq_true c6
       clear c6
       by_cases c7 : (rd l1 x12_1) < (s0_3.length : Int)
       ·rw [if_pos c7] at H
        have c7b0 : decide ((rd l1 x12_1) < (s0_3.length : Int)) = true := decide_eq_true c7
        clear c7
        by_cases c8 : fok .add .f32 x6_1.re (((rd_T66 s0_3 (rd l1 x12_1)).f1).re) = true
        ·rw [if_pos c8] at H
         have c8b0 := eq_true c8
         have c8b1 : decide (fok .add .f32 x6_1.re (((rd_T66 s0_3 (rd l1 x12_1)).f1).re) = true) = true := decide_eq_true c8
         clear c8
         by_cases c9 : fok .add .f32 x6_1.im (((rd_T66 s0_3 (rd l1 x12_1)).f1).im) = true
         ·rw [if_pos c9] at H
          have c9b0 := eq_true c9
          have c9b1 : decide (fok .add .f32 x6_1.im (((rd_T66 s0_3 (rd l1 x12_1)).f1).im) = true) = true := decide_eq_true c9
          clear c9
          by_cases c10 : fok .add .f32 x7_1.re (((rd_T66 s0_3 (rd l1 x12_1)).f2).re) = true
          ·rw [if_pos c10] at H
           have c10b0 := eq_true c10
           have c10b1 : decide (fok .add .f32 x7_1.re (((rd_T66 s0_3 (rd l1 x12_1)).f2).re) = true) = true := decide_eq_true c10
           clear c10
           by_cases c11 : fok .add .f32 x7_1.im (((rd_T66 s0_3 (rd l1 x12_1)).f2).im) = true
           ·rw [if_pos c11] at H
            have c11b0 := eq_true c11
            have c11b1 : decide (fok .add .f32 x7_1.im (((rd_T66 s0_3 (rd l1 x12_1)).f2).im) = true) = true := decide_eq_true c11
            clear c11
            have H' := Aside0.mk H
            clear H
            have p352 : 0 ≤ (x12_1 : Int) := of_decide_eq_true (by first | (with_reducible assumption) | assumption)
            have q352 : x12_1 < (l1.length : Int) := of_decide_eq_true (by first | (with_reducible assumption) | assumption)
            obtain ⟨ad352, e352, hx352_0⟩ := Kd.at_int HR1.out x12_1 p352 q352
            cases e352
            replace hx352_0 := keep_cell HK.out hx352_0 (by first | (rw [add_block]; exact hf1 _ rfl (by omega)) | exact hf1 _ rfl (by omega) | exact hf1 ad352 rfl (by omega))
            replace p352 := eq_true p352
            replace q352 := eq_true q352
            obtain ⟨ASz12_3, cSz12_3, HGz12, hgz12, HSz12_3, HLz12_3⟩ := HI0.out
            have hcz12_0 := cellS42_0 HGz12
            have hcz12_1 := cellS42_1 HGz12
            have hcz12_2 := cellS42_2 HGz12
            have hcz12_3 := cellS42_3 HGz12
            have hfz12_0 := blk_frozen HGz12 0
            have hfz12_1 := blk_frozen HGz12 1
            have hfz12_2 := blk_frozen HGz12 2
            clear HGz12 hgz12
            have p353 : 0 ≤ ((rd l1 x12_1) : Int) := of_decide_eq_true (by first | (with_reducible assumption) | assumption)
            have q353 : (rd l1 x12_1) < (s0_3.length : Int) := of_decide_eq_true (by first | (with_reducible assumption) | assumption)
            obtain ⟨ad353, e353, hx353_0, hx353_1, hx353_2, hx353_3, hx353_4, hx353_5, hx353_6, hx353_7⟩ := at_T66 HSz12_3 (rd l1 x12_1) p353 q353
            cases e353
            replace hx353_0 := pw_cell_below HB.out hx353_0
            replace hx353_1 := pw_cell_below HB.out hx353_1
            replace hx353_2 := pw_cell_below HB.out hx353_2
            replace hx353_3 := pw_cell_below HB.out hx353_3
            replace hx353_4 := pw_cell_below HB.out hx353_4
            replace hx353_5 := pw_cell_below HB.out hx353_5
            replace hx353_6 := pw_cell_below HB.out hx353_6
            replace hx353_7 := pw_cell_below HB.out hx353_7
            replace p353 := eq_true p353
            replace q353 := eq_true q353
            have p354 : 0 ≤ ((rd l1 x12_1) : Int) := of_decide_eq_true (by first | (with_reducible assumption) | assumption)
            have q354 : (rd l1 x12_1) < (s0_3.length : Int) := of_decide_eq_true (by first | (with_reducible assumption) | assumption)
            obtain ⟨ad354, e354, hx354_0, hx354_1, hx354_2, hx354_3, hx354_4, hx354_5, hx354_6, hx354_7⟩ := at_T66 HSz12_3 (rd l1 x12_1) p354 q354
            obtain rfl : ad353 = ad354 := (by injection e354)
            replace hx354_0 := pw_cell_below HB.out hx354_0
            replace hx354_1 := pw_cell_below HB.out hx354_1
            replace hx354_2 := pw_cell_below HB.out hx354_2
            replace hx354_3 := pw_cell_below HB.out hx354_3
            replace hx354_4 := pw_cell_below HB.out hx354_4
            replace hx354_5 := pw_cell_below HB.out hx354_5
            replace hx354_6 := pw_cell_below HB.out hx354_6
            replace hx354_7 := pw_cell_below HB.out hx354_7
            replace p354 := eq_true p354
            replace q354 := eq_true q354
            go_wp2
            go_roundg k1
            case measure => have := HK1.out; omega
            case rel => exact ⟨((⟨fv .add .f32 x6_1.re (((rd_T66 s0_3 (rd l1 x12_1)).f1).re), fv .add .f32 x6_1.im (((rd_T66 s0_3 (rd l1 x12_1)).f1).im)⟩ : Cx)), ((⟨fv .add .f32 x7_1.re (((rd_T66 s0_3 (rd l1 x12_1)).f2).re), fv .add .f32 x7_1.im (((rd_T66 s0_3 (rd l1 x12_1)).f2).im)⟩ : Cx)), (wrap64 (x12_1 + 1)), rs_, rs_, rs_, H', ⟨by have := HK1.out; omega⟩, ⟨by have hi_ := HI0.out; exact IsS42.up⟩, ⟨by repeat (first | (with_reducible first | exact HK.out | apply KeepBut.set_ | apply keep_drewN | apply keep_drew | apply keep_alloc) | exact HK.out)⟩, ⟨by have ge_ := IsS42.ge HI0.out; exact tb⟩⟩
           ·rw [if_neg c11] at H
            exact absurd H (by simp)
          ·rw [if_neg c10] at H
           exact absurd H (by simp)
         ·rw [if_neg c9] at H
          exact absurd H (by simp)
        ·rw [if_neg c8] at H
         exact absurd H (by simp)
       ·rw [if_neg c7] at H
        exact absurd H (by simp)
      ·rw [if_neg c6] at H
       exact absurd H (by simp)
     ·rw [if_neg c5] at H
      exact absurd H (by simp)
    ·rw [if_neg c4] at H
     exact absurd H (by simp)
   ·rw [if_neg c3] at H
    have c3b0 : decide (x12_1 < (l1.length : Int)) = false := decide_eq_false c3
    clear c3
    simp only [Option.some.injEq, Prod.mk.injEq] at H
    obtain ⟨rfl, rfl, rfl, rfl, rfl⟩ := H
    go_wp2
    go_ret2
    exact ⟨re_, by have hi_ := HI0.out; exact IsS42.up, by have ge_ := IsS42.ge HI0.out; exact tb, by repeat (first | (with_reducible first | exact HK.out | apply KeepBut.set_ | apply keep_drewN | apply keep_drew | apply keep_alloc) | exact HK.out)⟩

end Go.Proofs.Ytcgpomicgbmdlaa.PFnCommon
namespace Go.Proofs.Ytcgpomicgbmdlaa.PFnCommon
open Go.RowKit Go.Proofs.YtcgpomicgbmdlaaW.PrintWords Go.Proofs.YtcgpomicgbmdlaaW.PrintLast Go.Proofs.YtcgpomicgbmdlaaW.PrintMore
attribute [local go_sem] max2_int min2_int max_two min_two max_three min_three max_four min_four   -- for this text's walks alone
set_option linter.unusedVariables false
set_option linter.unusedSimpArgs false

/-! ### impl_Feeder_fault: function 102 -/
def impl_Feeder_fault.f (k : Nat) (s0_0 : Cx) (s0_1 : Cx) (s0_2 : Cx) (s0_3 : List (S66)) (a1 : Int) (a2 : Int) (a3 : Cx) : Option (Cx × Cx × Cx × Bool × Cx × Cx × Cx) := (impl_Feeder_path.f k s0_0 s0_1 s0_2 s0_3 a1).bind fun bt356 => ((impl_Feeder_impedance.f k bt356.2.1 bt356.2.2.1 bt356.2.2.2 s0_3 bt356.1).bind fun bt362 => ((impl_SequenceOf.f bt362.1 bt362.2.1).bind fun bt367 => ((impl_PartsOf.f k bt362.2.2.1 bt362.2.2.2.1 bt362.2.2.2.2).bind fun bt369 => ((impl_FaultParts.f k bt369.2.1 bt367.1 bt367.2 a2 a3).bind fun bt372 => (some (bt372.1, bt372.2.1, bt372.2.2.1, bt372.2.2.2, bt362.2.2.1, bt362.2.2.2.1, bt362.2.2.2.2))))))
theorem impl_Feeder_fault.mono : ∀ a0 a1 a2 a3 a4 a5 a6 k, LeO (impl_Feeder_fault.f k a0 a1 a2 a3 a4 a5 a6) (impl_Feeder_fault.f (k + 1) a0 a1 a2 a3 a4 a5 a6) := by
 intro a0 a1 a2 a3 a4 a5 a6 k
 unfold impl_Feeder_fault.f
 repeat' first
   | (with_reducible exact impl_FaultParts.mono _ _ _ _ _ _)
   | (with_reducible exact impl_Feeder_impedance.mono _ _ _ _ _ _)
   | (with_reducible exact impl_Feeder_path.mono _ _ _ _ _ _)
   | (with_reducible exact impl_PartsOf.mono _ _ _ _)
   | (with_reducible exact LeO.refl _)
   | (with_reducible exact LeO.none _)
   | (with_reducible refine LeO.ite ?_ ?_)
   | (with_reducible refine LeO.bind ?_ (fun _ => ?_))
   | exact impl_FaultParts.mono _ _ _ _ _ _
   | exact impl_Feeder_impedance.mono _ _ _ _ _ _
   | exact impl_Feeder_path.mono _ _ _ _ _ _
   | exact impl_PartsOf.mono _ _ _ _
   | exact LeO.none _
   | refine LeO.ite ?_ ?_
   | refine LeO.bind ?_ (fun _ => ?_)
set_option maxHeartbeats 8000000 in
set_option maxRecDepth 100000 in
theorem impl_Feeder_fault.calls (k : Nat) (g : Nat) (s0_0 : Cx) (s0_1 : Cx) (s0_2 : Cx) (s0_3 : List (S66)) (a1 : Int) (a2 : Int) (a3 : Cx) (r1 : Cx) (r2 : Cx) (r3 : Cx) (r4 : Bool) (r5 : Cx) (r6 : Cx) (r7 : Cx) (w0 w : World) (hI : IsS42 w0 w g s0_0 s0_1 s0_2 s0_3) (hB : Below w0.heap.size w0 w) (h : impl_Feeder_fault.f k s0_0 s0_1 s0_2 s0_3 a1 a2 a3 = some (r1, r2, r3, r4, r5, r6, r7)) :
  Calls Try.prog 102 #[.pointer (some ⟨g, 0, none⟩), .int .i64 a1, .int .i64 a2, .complex .f32 a3.re a3.im] w fun e w' => e = .returned (.tuple #[.agg #[.complex .f32 r1.re r1.im, .complex .f32 r2.re r2.im, .complex .f32 r3.re r3.im], .bool r4]) ∧ IsS42 w0 w' g r5 r6 r7 s0_3 ∧ Below w0.heap.size w0 w' ∧ KeepBut w w' g none := by
 have hu80 := Try.underlying80
 have hu39 := Try.underlying39
 have hfd80_1 : ∀ (x0_ x1_ x2_ : Value) (W : World), (Instr.field 80 (.agg #[x0_, x1_, x2_]) 1).run Try.prog W = .ok (x1_) W := by as_aux_lemma => (intros; rfl)
 have HI0 := Aside0.mk hI
 have HK := Aside0.mk (KeepBut.refl w g none)
 have HL := Aside0.mk hB.size
 clear hI
 have HW0 := Aside0.mk hB.size
 have HB := Aside0.mk hB
 clear hB
 have H : ((impl_Feeder_path.f k s0_0 s0_1 s0_2 s0_3 a1).bind fun bt356 => ((impl_Feeder_impedance.f k bt356.2.1 bt356.2.2.1 bt356.2.2.2 s0_3 bt356.1).bind fun bt362 => ((impl_SequenceOf.f bt362.1 bt362.2.1).bind fun bt367 => ((impl_PartsOf.f k bt362.2.2.1 bt362.2.2.2.1 bt362.2.2.2.2).bind fun bt369 => ((impl_FaultParts.f k bt369.2.1 bt367.1 bt367.2 a2 a3).bind fun bt372 => (some (bt372.1, bt372.2.1, bt372.2.2.1, bt372.2.2.2, bt362.2.2.1, bt362.2.2.2.1, bt362.2.2.2.2))))))) = some (r1, r2, r3, r4, r5, r6, r7) := h
 clear h
 replace H := Option.bind_eq_some_iff.mp H
 obtain ⟨⟨t356, t359, t360, t361⟩, A50, H⟩ := H
 try dsimp only at H
 have A5 := Aside0.mk A50
 clear A50
 replace H := Option.bind_eq_some_iff.mp H
 obtain ⟨⟨t362, t363, t364, t365, t366⟩, A60, H⟩ := H
 try dsimp only at H
 have A6 := Aside0.mk A60
 clear A60
 replace H := Option.bind_eq_some_iff.mp H
 obtain ⟨⟨t367, t368⟩, A70, H⟩ := H
 try dsimp only at H
 have A7 := Aside0.mk A70
 clear A70
 replace H := Option.bind_eq_some_iff.mp H
 obtain ⟨⟨t369, t370, t371⟩, A80, H⟩ := H
 try dsimp only at H
 have A8 := Aside0.mk A80
 clear A80
 replace H := Option.bind_eq_some_iff.mp H
 obtain ⟨⟨t372, t373, t374, t375⟩, A90, H⟩ := H
 try dsimp only at H
 have A9 := Aside0.mk A90
 clear A90
 simp only [Option.some.injEq, Prod.mk.injEq] at H
 obtain ⟨rfl, rfl, rfl, rfl, rfl, rfl, rfl⟩ := H
 go_enter Try.func102, Try.ntmps102
 go_wp2_with (first | ((with_reducible refine gate_dst (N := 8) rfl ?_); refine box_event ?hg (N := 8) ?hd (cs := #[.complex .f32 0 0, .complex .f32 0 0, .complex .f32 0 0]) (t := 80) ?hr ?_; (case hd => rfl); (case hg => rfl); (case hr => first | (go_simp; done) | (go_simp; rfl)); intro gb355 hg w10 hbox hb; have n0_ := Aside0.mk (IsS42.below (by have hi_ := HI0.out; exact IsS42.up) hb); have n1_ := Aside0.mk (KeepBut.trans (by repeat (first | (with_reducible first | exact HK.out | apply KeepBut.set_ | apply keep_drewN | apply keep_drew | apply keep_alloc) | exact HK.out)) (KeepBut.of_below hb g none) (.inl rfl)); have n2_ := Aside0.mk (below_step (by have ge_ := IsS42.ge HI0.out; exact tb) hb); have n3_ := Aside0.mk (hbox); have n4_ := Aside0.mk ((by rw [hg]; exact (keep_size (w := w) (g := g) (row := none) (by repeat (first | (with_reducible first | exact HK.out | apply KeepBut.set_ | apply keep_drewN | apply keep_drew | apply keep_alloc) | exact HK.out))) : w.heap.size ≤ gb355)); have n5_ := Aside0.mk ((Nat.le_trans HW0.out (by rw [hg]; exact (keep_size (w := w) (g := g) (row := none) (by repeat (first | (with_reducible first | exact HK.out | apply KeepBut.set_ | apply keep_drewN | apply keep_drew | apply keep_alloc) | exact HK.out))) : w.heap.size ≤ gb355) : w0.heap.size ≤ gb355)); have n6_ := Aside0.mk ((by rw [hg]; exact Nat.ne_of_lt (IsS42.lt (show IsS42 w0 _ g s0_0 s0_1 s0_2 s0_3 from by have hi_ := HI0.out; exact IsS42.up)) : g ≠ gb355)); have n7_ := Aside0.mk ((by rw [hg]; exact Nat.ne_of_gt (IsS42.lt (show IsS42 w0 _ g s0_0 s0_1 s0_2 s0_3 from by have hi_ := HI0.out; exact IsS42.up)) : gb355 ≠ g)); clear HI0; clear HK; clear HB; have HI0 := n0_; have HK := n1_; have HB := n2_; have BK355 := n3_; have GW355 := n4_; have GE355 := n5_; have NB0_355 := n6_; have NB355_0 := n7_; clear n0_ n1_ n2_ n3_ n4_ n5_ n6_ n7_; clear hb hbox hg) | ((with_reducible refine gate_callee (f := 101) rfl ?_); refine gx_ (some 16) Try.func101 #[.pointer (some ⟨g, 0, none⟩), .int .i64 a1] ?_; (with_reducible refine (impl_Feeder_path.calls k g s0_0 s0_1 s0_2 s0_3 a1 t356 t359 t360 t361 w0 _ ?side1 ?side2 A5.out).mono ?_); (case side1 => have hi_ := HI0.out; exact IsS42.up); (case side2 => have ge_ := IsS42.ge HI0.out; exact tb); rintro e w11 ⟨v357, rfl, ho0, hi, hb, hk⟩; refine ⟨_, rfl, ?_⟩; have n0_ := Aside0.mk (KeepBut.blk hk (g' := gb355) (o := .cells #[.complex .f32 0 0, .complex .f32 0 0, .complex .f32 0 0] 80 (0, 0)) (bu BK355.out) NB355_0.out (by simp)); have n1_ := Aside0.mk (Kd.R_lower ho0 (keep_size (w := w) (g := g) (row := none) (by repeat (first | (with_reducible first | exact HK.out | apply KeepBut.set_ | apply keep_drewN | apply keep_drew | apply keep_alloc | refine keep_far ?_ GW355.out _) | exact HK.out)))); have n2_ := Aside0.mk (KeepBut.trans (by repeat (first | (with_reducible first | exact HK.out | apply KeepBut.set_ | apply keep_drewN | apply keep_drew | apply keep_alloc | refine keep_far ?_ GW355.out _) | exact HK.out)) hk (.inl rfl)); have n3_ := Aside0.mk (hb); have n4_ := Aside0.mk (hi); clear BK355; clear HK; clear HB; clear HI0; have BK355 := n0_; have HO358 := n1_; have HK := n2_; have HB := n3_; have HI0 := n4_; clear n0_ n1_ n2_ n3_ n4_; (try clear hb); (try clear hb2); (try clear hk); (try clear hi); (try clear ho0); obtain ⟨Ao12, co12, eo12⟩ := Kd.R_slice HO358.out; subst eo12) | ((with_reducible refine gate_callee (f := 103) rfl ?_); refine gx_ (some 17) Try.func103 #[.pointer (some ⟨g, 0, none⟩), .slice Ao12 t356.length co12] ?_; (with_reducible refine (impl_Feeder_impedance.calls k g t359 t360 t361 s0_3 _ _ t356 t362 t363 t364 t365 t366 w0 _ ?side1 ?side2 ?side3 ?side4 ?side5 A6.out).mono ?_); (case side1 => have hi_ := HI0.out; exact IsS42.up); (case side2 => have ge_ := IsS42.ge HI0.out; exact tb); (case side3 => exact cu ((Kd.R_reads' HO358.out).2.2)); (case side4 => exact (Kd.R_reads' HO358.out).2.1); (case side5 => exact far_slice (IsS42.own_ne HI0.out HO358.out (by decide))); rintro e w13 ⟨rfl, hi, hb, hk⟩; refine ⟨_, rfl, ?_⟩; have n0_ := Aside0.mk (KeepBut.blk hk (g' := gb355) (o := .cells #[.complex .f32 0 0, .complex .f32 0 0, .complex .f32 0 0] 80 (0, 0)) (bu BK355.out) NB355_0.out (by simp)); have n1_ := Aside0.mk (Kd.R_mono (Kd.R_keep (IsS42.apart (show IsS42 w0 _ g t359 t360 t361 s0_3 from by have hi_ := HI0.out; exact IsS42.up) (ru HO358.out) (by decide)) hk (fun _ h => h.2)) (fun _ h => h.1)); have n2_ := Aside0.mk (KeepBut.trans (by repeat (first | (with_reducible first | exact HK.out | apply KeepBut.set_ | apply keep_drewN | apply keep_drew | apply keep_alloc | refine keep_far ?_ GW355.out _) | exact HK.out)) hk (.inl rfl)); have n3_ := Aside0.mk (hb); have n4_ := Aside0.mk (hi); clear BK355; clear HO358; clear HK; clear HB; clear HI0; have BK355 := n0_; have HO358 := n1_; have HK := n2_; have HB := n3_; have HI0 := n4_; clear n0_ n1_ n2_ n3_ n4_; (try clear hb); (try clear hb2); (try clear hk); (try clear hi)) | ((with_reducible refine gate_callee (f := 47) rfl ?_); refine gx_ (some 20) Try.func47 #[.complex .f32 t362.re t362.im, .complex .f32 t363.re t363.im] ?_; (with_reducible refine (impl_SequenceOf.calls t362 t363 t367 t368 _ A7.out).mono ?_); rintro e w' ⟨rfl, ⟨nd, rfl⟩⟩; refine ⟨_, rfl, ?_⟩; (try (rw [drewN_self w13]; generalize hq_ : World.drewN w13 _ = w13; have n0_ : Aside0 (Kd.R (Kd.int .i64) 2 w13 w.heap.size (fun _ => True) (.slice Ao12 t356.length co12) t356) := ⟨by rw [← hq_]; exact (ru HO358.out)⟩; have n1_ : Aside0 (w13.heap[gb355]? = some (.cells #[.complex .f32 0 0, .complex .f32 0 0, .complex .f32 0 0] 80 (0, 0))) := ⟨by rw [← hq_]; exact (bu BK355.out)⟩; have n2_ : Aside0 (IsS42 w0 w13 g t364 t365 t366 s0_3) := ⟨by rw [← hq_]; exact (by have hi_ := HI0.out; exact IsS42.up)⟩; have n3_ : Aside0 (KeepBut w w13 g none) := ⟨by rw [← hq_]; exact (by repeat (first | (with_reducible first | exact HK.out | apply KeepBut.set_ | apply keep_drewN | apply keep_drew | apply keep_alloc | refine keep_far ?_ GW355.out _) | exact HK.out))⟩; have n4_ : Aside0 (Below w0.heap.size w0 w13) := ⟨by rw [← hq_]; exact (by have ge_ := IsS42.ge HI0.out; exact tb)⟩; clear HO358 BK355 HI0 HK HB hq_; have HO358 := n0_; have BK355 := n1_; have HI0 := n2_; have HK := n3_; have HB := n4_; clear n0_ n1_ n2_ n3_ n4_)); obtain ⟨ASz14_3, cSz14_3, HGz14, hgz14, HSz14_3, HLz14_3⟩ := HI0.out; have hcz14_0 := cellS42_0 HGz14; have hcz14_1 := cellS42_1 HGz14; have hcz14_2 := cellS42_2 HGz14; have hcz14_3 := cellS42_3 HGz14; have hfz14_0 := blk_frozen HGz14 0; have hfz14_1 := blk_frozen HGz14 1; have hfz14_2 := blk_frozen HGz14 2; clear HGz14 hgz14) | ((with_reducible refine gate_callee (f := 45) rfl ?_); refine gx_ (some 27) Try.func45 #[.agg #[.complex .f32 t364.re t364.im, .complex .f32 t365.re t365.im, .complex .f32 t366.re t366.im]] ?_; (with_reducible refine (impl_PartsOf.calls k t364 t365 t366 t369 t370 t371 _ A8.out).mono ?_); rintro e w15 ⟨rfl, hb⟩; refine ⟨_, rfl, ?_⟩; have n0_ := Aside0.mk (Kd.R_below (ru HO358.out) hb); have n1_ := Aside0.mk (IsS42.below (by have hi_ := HI0.out; exact IsS42.up) hb); have n2_ := Aside0.mk (blk_below (g := gb355) (o := .cells #[.complex .f32 0 0, .complex .f32 0 0, .complex .f32 0 0] 80 (0, 0)) (bu BK355.out) hb); have n3_ := Aside0.mk (KeepBut.trans (by repeat (first | (with_reducible first | exact HK.out | apply KeepBut.set_ | apply keep_drewN | apply keep_drew | apply keep_alloc | refine keep_far ?_ GW355.out _) | exact HK.out)) (KeepBut.of_below hb g none) (.inl rfl)); have n4_ := Aside0.mk (below_step (by have ge_ := IsS42.ge HI0.out; exact tb) hb); clear HO358; clear HI0; clear BK355; clear HK; clear HB; have HO358 := n0_; have HI0 := n1_; have BK355 := n2_; have HK := n3_; have HB := n4_; clear n0_ n1_ n2_ n3_ n4_; (try clear hb); (try clear hb2); (try clear hk); (try clear hi)) | ((with_reducible refine gate_callee (f := 48) rfl ?_); refine gx_ (some 33) Try.func48 #[.complex .f32 t370.re t370.im, .complex .f32 t367.re t367.im, .complex .f32 t368.re t368.im, .int .i64 a2, .complex .f32 a3.re a3.im] ?_; (with_reducible refine (impl_FaultParts.calls k t370 t367 t368 a2 a3 t372 t373 t374 t375 _ A9.out).mono ?_); rintro e w16 ⟨rfl, hb⟩; refine ⟨_, rfl, ?_⟩; have n0_ := Aside0.mk (Kd.R_below (ru HO358.out) hb); have n1_ := Aside0.mk (IsS42.below (by have hi_ := HI0.out; exact IsS42.up) hb); have n2_ := Aside0.mk (blk_below (g := gb355) (o := .cells #[.complex .f32 0 0, .complex .f32 0 0, .complex .f32 0 0] 80 (0, 0)) (bu BK355.out) hb); have n3_ := Aside0.mk (KeepBut.trans (by repeat (first | (with_reducible first | exact HK.out | apply KeepBut.set_ | apply keep_drewN | apply keep_drew | apply keep_alloc | refine keep_far ?_ GW355.out _) | exact HK.out)) (KeepBut.of_below hb g none) (.inl rfl)); have n4_ := Aside0.mk (below_step (by have ge_ := IsS42.ge HI0.out; exact tb) hb); clear HO358; clear HI0; clear BK355; clear HK; clear HB; have HO358 := n0_; have HI0 := n1_; have BK355 := n2_; have HK := n3_; have HB := n4_; clear n0_ n1_ n2_ n3_ n4_; (try clear hb); (try clear hb2); (try clear hk); (try clear hi); have hnb17 := NB355_0.out; have hnc17 := NB0_355.out; have hcz18_0 : w16.cell? ⟨gb355, 0, none⟩ = some (.complex .f32 0 0) := (blk_cell BK355.out 0).trans rfl; have hcz18_1 : w16.cell? ⟨gb355, 1, none⟩ = some (.complex .f32 0 0) := (blk_cell BK355.out 1).trans rfl; have hcz18_2 : w16.cell? ⟨gb355, 2, none⟩ = some (.complex .f32 0 0) := (blk_cell BK355.out 2).trans rfl; have hfz18_0 := blk_frozen BK355.out 0; have hfz18_1 := blk_frozen BK355.out 1; have hfz18_2 := blk_frozen BK355.out 2))
 refine bodyPost_ret (results_ct rfl _ _ gb355 80 #[.complex .f32 t372.re t372.im, .complex .f32 t373.re t373.im, .complex .f32 t374.re t374.im] (0, 0) _ rfl (by refine bu ?_; refine blk_put (cs := #[.complex .f32 t372.re t372.im, .complex .f32 t373.re t373.im, .complex .f32 0 0]) ?_ 2 _ rfl; refine bu ?_; refine blk_put (cs := #[.complex .f32 t372.re t372.im, .complex .f32 0 0, .complex .f32 0 0]) ?_ 1 _ rfl; refine bu ?_; refine blk_put (cs := #[.complex .f32 0 0, .complex .f32 0 0, .complex .f32 0 0]) ?_ 0 _ rfl; refine bu ?_; exact BK355.out) Try.underlying80 rfl (by kernel_rfl)) rfl ?_
 exact ⟨re_, by have hi_ := HI0.out; exact IsS42.up, by have ge_ := IsS42.ge HI0.out; exact tb, by repeat (first | (with_reducible first | exact HK.out | apply KeepBut.set_ | apply keep_drewN | apply keep_drew | apply keep_alloc | refine keep_far ?_ GW355.out _) | exact HK.out)⟩

end Go.Proofs.Ytcgpomicgbmdlaa.PFnCommon
