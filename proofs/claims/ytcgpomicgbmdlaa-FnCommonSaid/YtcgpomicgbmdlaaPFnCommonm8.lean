-- Words and walks of the print, as far as this claim uses them (laid by wip/mkclaim.py of this session). Lean checks it.
import Derived.Test.YtcgpomicgbmdlaaFl
import Derived.Test.YtcgpomicgbmdlaaPFnCommonm0
import Derived.Test.YtcgpomicgbmdlaaPFnCommonm7
import Derived.Test.YtcgpomicgbmdlaaPFnCommonm2
import Derived.Test.YtcgpomicgbmdlaaPFnCommonm3
import Derived.Test.YtcgpomicgbmdlaaPFnCommonm4
import Derived.Test.YtcgpomicgbmdlaaPFnCommonm5
import Derived.Test.YtcgpomicgbmdlaaPFnCommonm6
namespace Go.Proofs.Ytcgpomicgbmdlaa.PFnCommon
open Go.RowKit Go.Proofs.YtcgpomicgbmdlaaW.PrintWords Go.Proofs.YtcgpomicgbmdlaaW.PrintLast Go.Proofs.YtcgpomicgbmdlaaW.PrintMore
attribute [local go_sem] max2_int min2_int max_two min_two max_three min_three max_four min_four   -- for this text's walks alone
set_option linter.unusedVariables false
set_option linter.unusedSimpArgs false

/-! ### impl_SamePhases: function 51 -/
def impl_SamePhases.f (k : Nat) (a0_0 : Cx) (a0_1 : Cx) (a0_2 : Cx) (a1_0 : Cx) (a1_1 : Cx) (a1_2 : Cx) : Option (Bool) := (impl_SameComplex.f k a0_0 a1_0).bind fun t460 => (if t460 = true then ((impl_SameComplex.f k a0_1 a1_1).bind fun t461 => (if t461 = true then ((impl_SameComplex.f k a0_2 a1_2).bind fun t462 => (some t462)) else (some false))) else (some false))
theorem impl_SamePhases.mono : ∀ a0 a1 a2 a3 a4 a5 k, LeO (impl_SamePhases.f k a0 a1 a2 a3 a4 a5) (impl_SamePhases.f (k + 1) a0 a1 a2 a3 a4 a5) := by
 intro a0 a1 a2 a3 a4 a5 k
 unfold impl_SamePhases.f
 repeat' first
   | (with_reducible exact impl_SameComplex.mono _ _ _)
   | (with_reducible exact LeO.refl _)
   | (with_reducible exact LeO.none _)
   | (with_reducible refine LeO.ite ?_ ?_)
   | (with_reducible refine LeO.bind ?_ (fun _ => ?_))
   | exact impl_SameComplex.mono _ _ _
   | exact LeO.none _
   | refine LeO.ite ?_ ?_
   | refine LeO.bind ?_ (fun _ => ?_)
set_option maxHeartbeats 8000000 in
set_option maxRecDepth 100000 in
theorem impl_SamePhases.calls (k : Nat) (a0_0 : Cx) (a0_1 : Cx) (a0_2 : Cx) (a1_0 : Cx) (a1_1 : Cx) (a1_2 : Cx) (r : Bool) (w : World) (h : impl_SamePhases.f k a0_0 a0_1 a0_2 a1_0 a1_1 a1_2 = some r) :
  Calls Try.prog 51 #[.agg #[.complex .f32 a0_0.re a0_0.im, .complex .f32 a0_1.re a0_1.im, .complex .f32 a0_2.re a0_2.im], .agg #[.complex .f32 a1_0.re a1_0.im, .complex .f32 a1_1.re a1_1.im, .complex .f32 a1_2.re a1_2.im]] w fun e w' => e = .returned (.bool r) ∧ Below w.heap.size w w' := by
 have hu39 := Try.underlying39
 have HB := Aside0.mk (Below.refl w.heap.size w)
 have H : ((impl_SameComplex.f k a0_0 a1_0).bind fun t460 => (if t460 = true then ((impl_SameComplex.f k a0_1 a1_1).bind fun t461 => (if t461 = true then ((impl_SameComplex.f k a0_2 a1_2).bind fun t462 => (some t462)) else (some false))) else (some false))) = some r := h
 clear h
 replace H := Option.bind_eq_some_iff.mp H
 obtain ⟨t460, A30, H⟩ := H
 try dsimp only at H
 have A3 := Aside0.mk A30
 clear A30
 by_cases c4 : t460 = true
 ·subst c4
  rw [if_pos rfl] at H; try dsimp only at H
  replace H := Option.bind_eq_some_iff.mp H
  obtain ⟨t461, A50, H⟩ := H
  try dsimp only at H
  have A5 := Aside0.mk A50
  clear A50
  by_cases c6 : t461 = true
  ·subst c6
   rw [if_pos rfl] at H; try dsimp only at H
   replace H := Option.bind_eq_some_iff.mp H
   obtain ⟨t462, A70, H⟩ := H
   try dsimp only at H
   have A7 := Aside0.mk A70
   clear A70
   obtain rfl := Option.some.inj H
   go_enter Try.func51, Try.ntmps51
   go_wp2_with (first | ((with_reducible refine gate_dst (N := 2) rfl ?_); refine box_event ?hg (N := 2) ?hd (cs := #[.complex .f32 a0_0.re a0_0.im, .complex .f32 a0_1.re a0_1.im, .complex .f32 a0_2.re a0_2.im]) (t := 39) ?hr ?_; (case hd => rfl); (case hg => rfl); (case hr => first | (go_simp; done) | (go_simp; rfl)); intro gb458 hg w8 hbox hb; have n0_ := Aside0.mk (below_step tb hb); have n1_ := Aside0.mk (hbox); have n2_ := Aside0.mk ((by rw [hg]; exact (below_size tb) : w.heap.size ≤ gb458)); have n3_ := Aside0.mk ((by rw [hg]; exact (below_size tb) : w.heap.size ≤ gb458)); clear HB; have HB := n0_; have BK458 := n1_; have GW458 := n2_; have GE458 := n3_; clear n0_ n1_ n2_ n3_; clear hb hbox hg) | ((with_reducible refine gate_dst (N := 3) rfl ?_); refine box_event ?hg (N := 3) ?hd (cs := #[.complex .f32 a1_0.re a1_0.im, .complex .f32 a1_1.re a1_1.im, .complex .f32 a1_2.re a1_2.im]) (t := 39) ?hr ?_; (case hd => rfl); (case hg => rfl); (case hr => first | (go_simp; done) | (go_simp; rfl)); intro gb459 hg w9 hbox hb; have n0_ := Aside0.mk (blk_below (g := gb458) (o := .cells #[.complex .f32 a0_0.re a0_0.im, .complex .f32 a0_1.re a0_1.im, .complex .f32 a0_2.re a0_2.im] 39 (0, 0)) (bu BK458.out) hb); have n1_ := Aside0.mk (below_step tb hb); have n2_ := Aside0.mk (hbox); have n3_ := Aside0.mk ((by rw [hg]; exact (below_size tb) : w.heap.size ≤ gb459)); have n4_ := Aside0.mk ((by rw [hg]; exact (below_size tb) : w.heap.size ≤ gb459)); have n5_ := Aside0.mk ((by rw [hg]; exact Nat.ne_of_lt (blk_lt (g := gb458) (o := .cells #[.complex .f32 a0_0.re a0_0.im, .complex .f32 a0_1.re a0_1.im, .complex .f32 a0_2.re a0_2.im] 39 (0, 0)) (bu BK458.out)) : gb458 ≠ gb459)); have n6_ := Aside0.mk ((by rw [hg]; exact Nat.ne_of_gt (blk_lt (g := gb458) (o := .cells #[.complex .f32 a0_0.re a0_0.im, .complex .f32 a0_1.re a0_1.im, .complex .f32 a0_2.re a0_2.im] 39 (0, 0)) (bu BK458.out)) : gb459 ≠ gb458)); clear BK458; clear HB; have BK458 := n0_; have HB := n1_; have BK459 := n2_; have GW459 := n3_; have GE459 := n4_; have NB458_459 := n5_; have NB459_458 := n6_; clear n0_ n1_ n2_ n3_ n4_ n5_ n6_; clear hb hbox hg; have hnb10 := NB458_459.out; have hnc10 := NB459_458.out; have hcz11_0 : w9.cell? ⟨gb458, 0, none⟩ = some (.complex .f32 a0_0.re a0_0.im) := (blk_cell BK458.out 0).trans rfl; have hcz11_1 : w9.cell? ⟨gb458, 1, none⟩ = some (.complex .f32 a0_1.re a0_1.im) := (blk_cell BK458.out 1).trans rfl; have hcz11_2 : w9.cell? ⟨gb458, 2, none⟩ = some (.complex .f32 a0_2.re a0_2.im) := (blk_cell BK458.out 2).trans rfl; have hfz11_0 := blk_frozen BK458.out 0; have hfz11_1 := blk_frozen BK458.out 1; have hfz11_2 := blk_frozen BK458.out 2; have hcz12_0 : w9.cell? ⟨gb459, 0, none⟩ = some (.complex .f32 a1_0.re a1_0.im) := (blk_cell BK459.out 0).trans rfl; have hcz12_1 : w9.cell? ⟨gb459, 1, none⟩ = some (.complex .f32 a1_1.re a1_1.im) := (blk_cell BK459.out 1).trans rfl; have hcz12_2 : w9.cell? ⟨gb459, 2, none⟩ = some (.complex .f32 a1_2.re a1_2.im) := (blk_cell BK459.out 2).trans rfl; have hfz12_0 := blk_frozen BK459.out 0; have hfz12_1 := blk_frozen BK459.out 1; have hfz12_2 := blk_frozen BK459.out 2) | ((with_reducible refine gate_callee (f := 108) rfl ?_); refine gx_ (some 9) Try.func108 #[.complex .f32 a0_0.re a0_0.im, .complex .f32 a1_0.re a1_0.im] ?_; (with_reducible refine (impl_SameComplex.calls k a0_0 a1_0 true _ A3.out).mono ?_); rintro e w13 ⟨rfl, hb⟩; refine ⟨_, rfl, ?_⟩; have n0_ := Aside0.mk (blk_below (g := gb458) (o := .cells #[.complex .f32 a0_0.re a0_0.im, .complex .f32 a0_1.re a0_1.im, .complex .f32 a0_2.re a0_2.im] 39 (0, 0)) (bu BK458.out) hb); have n1_ := Aside0.mk (blk_below (g := gb459) (o := .cells #[.complex .f32 a1_0.re a1_0.im, .complex .f32 a1_1.re a1_1.im, .complex .f32 a1_2.re a1_2.im] 39 (0, 0)) (bu BK459.out) hb); have n2_ := Aside0.mk (below_step tb hb); clear BK458; clear BK459; clear HB; have BK458 := n0_; have BK459 := n1_; have HB := n2_; clear n0_ n1_ n2_; (try clear hb); (try clear hb2); (try clear hk); (try clear hi); have hcz14_0 : w13.cell? ⟨gb458, 0, none⟩ = some (.complex .f32 a0_0.re a0_0.im) := (blk_cell BK458.out 0).trans rfl; have hcz14_1 : w13.cell? ⟨gb458, 1, none⟩ = some (.complex .f32 a0_1.re a0_1.im) := (blk_cell BK458.out 1).trans rfl; have hcz14_2 : w13.cell? ⟨gb458, 2, none⟩ = some (.complex .f32 a0_2.re a0_2.im) := (blk_cell BK458.out 2).trans rfl; have hfz14_0 := blk_frozen BK458.out 0; have hfz14_1 := blk_frozen BK458.out 1; have hfz14_2 := blk_frozen BK458.out 2; have hcz15_0 : w13.cell? ⟨gb459, 0, none⟩ = some (.complex .f32 a1_0.re a1_0.im) := (blk_cell BK459.out 0).trans rfl; have hcz15_1 : w13.cell? ⟨gb459, 1, none⟩ = some (.complex .f32 a1_1.re a1_1.im) := (blk_cell BK459.out 1).trans rfl; have hcz15_2 : w13.cell? ⟨gb459, 2, none⟩ = some (.complex .f32 a1_2.re a1_2.im) := (blk_cell BK459.out 2).trans rfl; have hfz15_0 := blk_frozen BK459.out 0; have hfz15_1 := blk_frozen BK459.out 1; have hfz15_2 := blk_frozen BK459.out 2) | (go_at_call 108; (with_reducible refine (impl_SameComplex.calls k a0_1 a1_1 true _ A5.out).mono ?_); rintro e w16 ⟨rfl, hb⟩; have n0_ := Aside0.mk (blk_below (g := gb458) (o := .cells #[.complex .f32 a0_0.re a0_0.im, .complex .f32 a0_1.re a0_1.im, .complex .f32 a0_2.re a0_2.im] 39 (0, 0)) (bu BK458.out) hb); have n1_ := Aside0.mk (blk_below (g := gb459) (o := .cells #[.complex .f32 a1_0.re a1_0.im, .complex .f32 a1_1.re a1_1.im, .complex .f32 a1_2.re a1_2.im] 39 (0, 0)) (bu BK459.out) hb); have n2_ := Aside0.mk (below_step tb hb); clear BK458; clear BK459; clear HB; have BK458 := n0_; have BK459 := n1_; have HB := n2_; clear n0_ n1_ n2_; (try clear hb); (try clear hb2); (try clear hk); (try clear hi); have hcz17_0 : w16.cell? ⟨gb458, 0, none⟩ = some (.complex .f32 a0_0.re a0_0.im) := (blk_cell BK458.out 0).trans rfl; have hcz17_1 : w16.cell? ⟨gb458, 1, none⟩ = some (.complex .f32 a0_1.re a0_1.im) := (blk_cell BK458.out 1).trans rfl; have hcz17_2 : w16.cell? ⟨gb458, 2, none⟩ = some (.complex .f32 a0_2.re a0_2.im) := (blk_cell BK458.out 2).trans rfl; have hfz17_0 := blk_frozen BK458.out 0; have hfz17_1 := blk_frozen BK458.out 1; have hfz17_2 := blk_frozen BK458.out 2; have hcz18_0 : w16.cell? ⟨gb459, 0, none⟩ = some (.complex .f32 a1_0.re a1_0.im) := (blk_cell BK459.out 0).trans rfl; have hcz18_1 : w16.cell? ⟨gb459, 1, none⟩ = some (.complex .f32 a1_1.re a1_1.im) := (blk_cell BK459.out 1).trans rfl; have hcz18_2 : w16.cell? ⟨gb459, 2, none⟩ = some (.complex .f32 a1_2.re a1_2.im) := (blk_cell BK459.out 2).trans rfl; have hfz18_0 := blk_frozen BK459.out 0; have hfz18_1 := blk_frozen BK459.out 1; have hfz18_2 := blk_frozen BK459.out 2) | (go_at_call 108; (with_reducible refine (impl_SameComplex.calls k a0_2 a1_2 t462 _ A7.out).mono ?_); rintro e w19 ⟨rfl, hb⟩; have n0_ := Aside0.mk (blk_below (g := gb458) (o := .cells #[.complex .f32 a0_0.re a0_0.im, .complex .f32 a0_1.re a0_1.im, .complex .f32 a0_2.re a0_2.im] 39 (0, 0)) (bu BK458.out) hb); have n1_ := Aside0.mk (blk_below (g := gb459) (o := .cells #[.complex .f32 a1_0.re a1_0.im, .complex .f32 a1_1.re a1_1.im, .complex .f32 a1_2.re a1_2.im] 39 (0, 0)) (bu BK459.out) hb); have n2_ := Aside0.mk (below_step tb hb); clear BK458; clear BK459; clear HB; have BK458 := n0_; have BK459 := n1_; have HB := n2_; clear n0_ n1_ n2_; (try clear hb); (try clear hb2); (try clear hk); (try clear hi)))
   go_ret
   exact ⟨re_, tb⟩
  ·replace c6 := Bool.eq_false_iff.mpr c6
   subst c6
   have H1 : (some false) = some r := by rw [if_neg (show ¬ (false = true) by decide)] at H; exact H
   clear H
   have H := H1
   clear H1
   obtain rfl := Option.some.inj H
   go_enter Try.func51, Try.ntmps51
   go_wp2_with (first | ((with_reducible refine gate_dst (N := 2) rfl ?_); refine box_event ?hg (N := 2) ?hd (cs := #[.complex .f32 a0_0.re a0_0.im, .complex .f32 a0_1.re a0_1.im, .complex .f32 a0_2.re a0_2.im]) (t := 39) ?hr ?_; (case hd => rfl); (case hg => rfl); (case hr => first | (go_simp; done) | (go_simp; rfl)); intro gb458 hg w20 hbox hb; have n0_ := Aside0.mk (below_step tb hb); have n1_ := Aside0.mk (hbox); have n2_ := Aside0.mk ((by rw [hg]; exact (below_size tb) : w.heap.size ≤ gb458)); have n3_ := Aside0.mk ((by rw [hg]; exact (below_size tb) : w.heap.size ≤ gb458)); clear HB; have HB := n0_; have BK458 := n1_; have GW458 := n2_; have GE458 := n3_; clear n0_ n1_ n2_ n3_; clear hb hbox hg) | ((with_reducible refine gate_dst (N := 3) rfl ?_); refine box_event ?hg (N := 3) ?hd (cs := #[.complex .f32 a1_0.re a1_0.im, .complex .f32 a1_1.re a1_1.im, .complex .f32 a1_2.re a1_2.im]) (t := 39) ?hr ?_; (case hd => rfl); (case hg => rfl); (case hr => first | (go_simp; done) | (go_simp; rfl)); intro gb459 hg w21 hbox hb; have n0_ := Aside0.mk (blk_below (g := gb458) (o := .cells #[.complex .f32 a0_0.re a0_0.im, .complex .f32 a0_1.re a0_1.im, .complex .f32 a0_2.re a0_2.im] 39 (0, 0)) (bu BK458.out) hb); have n1_ := Aside0.mk (below_step tb hb); have n2_ := Aside0.mk (hbox); have n3_ := Aside0.mk ((by rw [hg]; exact (below_size tb) : w.heap.size ≤ gb459)); have n4_ := Aside0.mk ((by rw [hg]; exact (below_size tb) : w.heap.size ≤ gb459)); have n5_ := Aside0.mk ((by rw [hg]; exact Nat.ne_of_lt (blk_lt (g := gb458) (o := .cells #[.complex .f32 a0_0.re a0_0.im, .complex .f32 a0_1.re a0_1.im, .complex .f32 a0_2.re a0_2.im] 39 (0, 0)) (bu BK458.out)) : gb458 ≠ gb459)); have n6_ := Aside0.mk ((by rw [hg]; exact Nat.ne_of_gt (blk_lt (g := gb458) (o := .cells #[.complex .f32 a0_0.re a0_0.im, .complex .f32 a0_1.re a0_1.im, .complex .f32 a0_2.re a0_2.im] 39 (0, 0)) (bu BK458.out)) : gb459 ≠ gb458)); clear BK458; clear HB; have BK458 := n0_; have HB := n1_; have BK459 := n2_; have GW459 := n3_; have GE459 := n4_; have NB458_459 := n5_; have NB459_458 := n6_; clear n0_ n1_ n2_ n3_ n4_ n5_ n6_; clear hb hbox hg; have hnb22 := NB458_459.out; have hnc22 := NB459_458.out; have hcz23_0 : w21.cell? ⟨gb458, 0, none⟩ = some (.complex .f32 a0_0.re a0_0.im) := (blk_cell BK458.out 0).trans rfl; have hcz23_1 : w21.cell? ⟨gb458, 1, none⟩ = some (.complex .f32 a0_1.re a0_1.im) := (blk_cell BK458.out 1).trans rfl; have hcz23_2 : w21.cell? ⟨gb458, 2, none⟩ = some (.complex .f32 a0_2.re a0_2.im) := (blk_cell BK458.out 2).trans rfl; have hfz23_0 := blk_frozen BK458.out 0; have hfz23_1 := blk_frozen BK458.out 1; have hfz23_2 := blk_frozen BK458.out 2; have hcz24_0 : w21.cell? ⟨gb459, 0, none⟩ = some (.complex .f32 a1_0.re a1_0.im) := (blk_cell BK459.out 0).trans rfl; have hcz24_1 : w21.cell? ⟨gb459, 1, none⟩ = some (.complex .f32 a1_1.re a1_1.im) := (blk_cell BK459.out 1).trans rfl; have hcz24_2 : w21.cell? ⟨gb459, 2, none⟩ = some (.complex .f32 a1_2.re a1_2.im) := (blk_cell BK459.out 2).trans rfl; have hfz24_0 := blk_frozen BK459.out 0; have hfz24_1 := blk_frozen BK459.out 1; have hfz24_2 := blk_frozen BK459.out 2) | ((with_reducible refine gate_callee (f := 108) rfl ?_); refine gx_ (some 9) Try.func108 #[.complex .f32 a0_0.re a0_0.im, .complex .f32 a1_0.re a1_0.im] ?_; (with_reducible refine (impl_SameComplex.calls k a0_0 a1_0 true _ A3.out).mono ?_); rintro e w25 ⟨rfl, hb⟩; refine ⟨_, rfl, ?_⟩; have n0_ := Aside0.mk (blk_below (g := gb458) (o := .cells #[.complex .f32 a0_0.re a0_0.im, .complex .f32 a0_1.re a0_1.im, .complex .f32 a0_2.re a0_2.im] 39 (0, 0)) (bu BK458.out) hb); have n1_ := Aside0.mk (blk_below (g := gb459) (o := .cells #[.complex .f32 a1_0.re a1_0.im, .complex .f32 a1_1.re a1_1.im, .complex .f32 a1_2.re a1_2.im] 39 (0, 0)) (bu BK459.out) hb); have n2_ := Aside0.mk (below_step tb hb); clear BK458; clear BK459; clear HB; have BK458 := n0_; have BK459 := n1_; have HB := n2_; clear n0_ n1_ n2_; (try clear hb); (try clear hb2); (try clear hk); (try clear hi); have hcz26_0 : w25.cell? ⟨gb458, 0, none⟩ = some (.complex .f32 a0_0.re a0_0.im) := (blk_cell BK458.out 0).trans rfl; have hcz26_1 : w25.cell? ⟨gb458, 1, none⟩ = some (.complex .f32 a0_1.re a0_1.im) := (blk_cell BK458.out 1).trans rfl; have hcz26_2 : w25.cell? ⟨gb458, 2, none⟩ = some (.complex .f32 a0_2.re a0_2.im) := (blk_cell BK458.out 2).trans rfl; have hfz26_0 := blk_frozen BK458.out 0; have hfz26_1 := blk_frozen BK458.out 1; have hfz26_2 := blk_frozen BK458.out 2; have hcz27_0 : w25.cell? ⟨gb459, 0, none⟩ = some (.complex .f32 a1_0.re a1_0.im) := (blk_cell BK459.out 0).trans rfl; have hcz27_1 : w25.cell? ⟨gb459, 1, none⟩ = some (.complex .f32 a1_1.re a1_1.im) := (blk_cell BK459.out 1).trans rfl; have hcz27_2 : w25.cell? ⟨gb459, 2, none⟩ = some (.complex .f32 a1_2.re a1_2.im) := (blk_cell BK459.out 2).trans rfl; have hfz27_0 := blk_frozen BK459.out 0; have hfz27_1 := blk_frozen BK459.out 1; have hfz27_2 := blk_frozen BK459.out 2) | (go_at_call 108; (with_reducible refine (impl_SameComplex.calls k a0_1 a1_1 false _ A5.out).mono ?_); rintro e w28 ⟨rfl, hb⟩; have n0_ := Aside0.mk (blk_below (g := gb458) (o := .cells #[.complex .f32 a0_0.re a0_0.im, .complex .f32 a0_1.re a0_1.im, .complex .f32 a0_2.re a0_2.im] 39 (0, 0)) (bu BK458.out) hb); have n1_ := Aside0.mk (blk_below (g := gb459) (o := .cells #[.complex .f32 a1_0.re a1_0.im, .complex .f32 a1_1.re a1_1.im, .complex .f32 a1_2.re a1_2.im] 39 (0, 0)) (bu BK459.out) hb); have n2_ := Aside0.mk (below_step tb hb); clear BK458; clear BK459; clear HB; have BK458 := n0_; have BK459 := n1_; have HB := n2_; clear n0_ n1_ n2_; (try clear hb); (try clear hb2); (try clear hk); (try clear hi)))
   go_ret
   exact ⟨re_, tb⟩
 ·replace c4 := Bool.eq_false_iff.mpr c4
  subst c4
  have H1 : (some false) = some r := by rw [if_neg (show ¬ (false = true) by decide)] at H; exact H
  clear H
  have H := H1
  clear H1
  obtain rfl := Option.some.inj H
  go_enter Try.func51, Try.ntmps51
  go_wp2_with (first | ((with_reducible refine gate_dst (N := 2) rfl ?_); refine box_event ?hg (N := 2) ?hd (cs := #[.complex .f32 a0_0.re a0_0.im, .complex .f32 a0_1.re a0_1.im, .complex .f32 a0_2.re a0_2.im]) (t := 39) ?hr ?_; (case hd => rfl); (case hg => rfl); (case hr => first | (go_simp; done) | (go_simp; rfl)); intro gb458 hg w29 hbox hb; have n0_ := Aside0.mk (below_step tb hb); have n1_ := Aside0.mk (hbox); have n2_ := Aside0.mk ((by rw [hg]; exact (below_size tb) : w.heap.size ≤ gb458)); have n3_ := Aside0.mk ((by rw [hg]; exact (below_size tb) : w.heap.size ≤ gb458)); clear HB; have HB := n0_; have BK458 := n1_; have GW458 := n2_; have GE458 := n3_; clear n0_ n1_ n2_ n3_; clear hb hbox hg) | ((with_reducible refine gate_dst (N := 3) rfl ?_); refine box_event ?hg (N := 3) ?hd (cs := #[.complex .f32 a1_0.re a1_0.im, .complex .f32 a1_1.re a1_1.im, .complex .f32 a1_2.re a1_2.im]) (t := 39) ?hr ?_; (case hd => rfl); (case hg => rfl); (case hr => first | (go_simp; done) | (go_simp; rfl)); intro gb459 hg w30 hbox hb; have n0_ := Aside0.mk (blk_below (g := gb458) (o := .cells #[.complex .f32 a0_0.re a0_0.im, .complex .f32 a0_1.re a0_1.im, .complex .f32 a0_2.re a0_2.im] 39 (0, 0)) (bu BK458.out) hb); have n1_ := Aside0.mk (below_step tb hb); have n2_ := Aside0.mk (hbox); have n3_ := Aside0.mk ((by rw [hg]; exact (below_size tb) : w.heap.size ≤ gb459)); have n4_ := Aside0.mk ((by rw [hg]; exact (below_size tb) : w.heap.size ≤ gb459)); have n5_ := Aside0.mk ((by rw [hg]; exact Nat.ne_of_lt (blk_lt (g := gb458) (o := .cells #[.complex .f32 a0_0.re a0_0.im, .complex .f32 a0_1.re a0_1.im, .complex .f32 a0_2.re a0_2.im] 39 (0, 0)) (bu BK458.out)) : gb458 ≠ gb459)); have n6_ := Aside0.mk ((by rw [hg]; exact Nat.ne_of_gt (blk_lt (g := gb458) (o := .cells #[.complex .f32 a0_0.re a0_0.im, .complex .f32 a0_1.re a0_1.im, .complex .f32 a0_2.re a0_2.im] 39 (0, 0)) (bu BK458.out)) : gb459 ≠ gb458)); clear BK458; clear HB; have BK458 := n0_; have HB := n1_; have BK459 := n2_; have GW459 := n3_; have GE459 := n4_; have NB458_459 := n5_; have NB459_458 := n6_; clear n0_ n1_ n2_ n3_ n4_ n5_ n6_; clear hb hbox hg; have hnb31 := NB458_459.out; have hnc31 := NB459_458.out; have hcz32_0 : w30.cell? ⟨gb458, 0, none⟩ = some (.complex .f32 a0_0.re a0_0.im) := (blk_cell BK458.out 0).trans rfl; have hcz32_1 : w30.cell? ⟨gb458, 1, none⟩ = some (.complex .f32 a0_1.re a0_1.im) := (blk_cell BK458.out 1).trans rfl; have hcz32_2 : w30.cell? ⟨gb458, 2, none⟩ = some (.complex .f32 a0_2.re a0_2.im) := (blk_cell BK458.out 2).trans rfl; have hfz32_0 := blk_frozen BK458.out 0; have hfz32_1 := blk_frozen BK458.out 1; have hfz32_2 := blk_frozen BK458.out 2; have hcz33_0 : w30.cell? ⟨gb459, 0, none⟩ = some (.complex .f32 a1_0.re a1_0.im) := (blk_cell BK459.out 0).trans rfl; have hcz33_1 : w30.cell? ⟨gb459, 1, none⟩ = some (.complex .f32 a1_1.re a1_1.im) := (blk_cell BK459.out 1).trans rfl; have hcz33_2 : w30.cell? ⟨gb459, 2, none⟩ = some (.complex .f32 a1_2.re a1_2.im) := (blk_cell BK459.out 2).trans rfl; have hfz33_0 := blk_frozen BK459.out 0; have hfz33_1 := blk_frozen BK459.out 1; have hfz33_2 := blk_frozen BK459.out 2) | ((with_reducible refine gate_callee (f := 108) rfl ?_); refine gx_ (some 9) Try.func108 #[.complex .f32 a0_0.re a0_0.im, .complex .f32 a1_0.re a1_0.im] ?_; (with_reducible refine (impl_SameComplex.calls k a0_0 a1_0 false _ A3.out).mono ?_); rintro e w34 ⟨rfl, hb⟩; refine ⟨_, rfl, ?_⟩; have n0_ := Aside0.mk (blk_below (g := gb458) (o := .cells #[.complex .f32 a0_0.re a0_0.im, .complex .f32 a0_1.re a0_1.im, .complex .f32 a0_2.re a0_2.im] 39 (0, 0)) (bu BK458.out) hb); have n1_ := Aside0.mk (blk_below (g := gb459) (o := .cells #[.complex .f32 a1_0.re a1_0.im, .complex .f32 a1_1.re a1_1.im, .complex .f32 a1_2.re a1_2.im] 39 (0, 0)) (bu BK459.out) hb); have n2_ := Aside0.mk (below_step tb hb); clear BK458; clear BK459; clear HB; have BK458 := n0_; have BK459 := n1_; have HB := n2_; clear n0_ n1_ n2_; (try clear hb); (try clear hb2); (try clear hk); (try clear hi)))
  go_ret
  exact ⟨re_, tb⟩

end Go.Proofs.Ytcgpomicgbmdlaa.PFnCommon
namespace Go.Proofs.Ytcgpomicgbmdlaa.PFnCommon
open Go.RowKit Go.Proofs.YtcgpomicgbmdlaaW.PrintWords Go.Proofs.YtcgpomicgbmdlaaW.PrintLast Go.Proofs.YtcgpomicgbmdlaaW.PrintMore
attribute [local go_sem] max2_int min2_int max_two min_two max_three min_three max_four min_four   -- for this text's walks alone
set_option linter.unusedVariables false
set_option linter.unusedSimpArgs false

/-! ### impl_SameParts: function 52 -/
def impl_SameParts.f (k : Nat) (a0_0 : Cx) (a0_1 : Cx) (a0_2 : Cx) (a1_0 : Cx) (a1_1 : Cx) (a1_2 : Cx) : Option (Bool) := (impl_SameComplex.f k a0_0 a1_0).bind fun t465 => (if t465 = true then ((impl_SameComplex.f k a0_1 a1_1).bind fun t466 => (if t466 = true then ((impl_SameComplex.f k a0_2 a1_2).bind fun t467 => (some t467)) else (some false))) else (some false))
theorem impl_SameParts.mono : ∀ a0 a1 a2 a3 a4 a5 k, LeO (impl_SameParts.f k a0 a1 a2 a3 a4 a5) (impl_SameParts.f (k + 1) a0 a1 a2 a3 a4 a5) := by
 intro a0 a1 a2 a3 a4 a5 k
 unfold impl_SameParts.f
 repeat' first
   | (with_reducible exact impl_SameComplex.mono _ _ _)
   | (with_reducible exact LeO.refl _)
   | (with_reducible exact LeO.none _)
   | (with_reducible refine LeO.ite ?_ ?_)
   | (with_reducible refine LeO.bind ?_ (fun _ => ?_))
   | exact impl_SameComplex.mono _ _ _
   | exact LeO.none _
   | refine LeO.ite ?_ ?_
   | refine LeO.bind ?_ (fun _ => ?_)
set_option maxHeartbeats 8000000 in
set_option maxRecDepth 100000 in
theorem impl_SameParts.calls (k : Nat) (a0_0 : Cx) (a0_1 : Cx) (a0_2 : Cx) (a1_0 : Cx) (a1_1 : Cx) (a1_2 : Cx) (r : Bool) (w : World) (h : impl_SameParts.f k a0_0 a0_1 a0_2 a1_0 a1_1 a1_2 = some r) :
  Calls Try.prog 52 #[.agg #[.complex .f32 a0_0.re a0_0.im, .complex .f32 a0_1.re a0_1.im, .complex .f32 a0_2.re a0_2.im], .agg #[.complex .f32 a1_0.re a1_0.im, .complex .f32 a1_1.re a1_1.im, .complex .f32 a1_2.re a1_2.im]] w fun e w' => e = .returned (.bool r) ∧ Below w.heap.size w w' := by
 have hu80 := Try.underlying80
 have HB := Aside0.mk (Below.refl w.heap.size w)
 have H : ((impl_SameComplex.f k a0_0 a1_0).bind fun t465 => (if t465 = true then ((impl_SameComplex.f k a0_1 a1_1).bind fun t466 => (if t466 = true then ((impl_SameComplex.f k a0_2 a1_2).bind fun t467 => (some t467)) else (some false))) else (some false))) = some r := h
 clear h
 replace H := Option.bind_eq_some_iff.mp H
 obtain ⟨t465, A30, H⟩ := H
 try dsimp only at H
 have A3 := Aside0.mk A30
 clear A30
 by_cases c4 : t465 = true
 ·subst c4
  rw [if_pos rfl] at H; try dsimp only at H
  replace H := Option.bind_eq_some_iff.mp H
  obtain ⟨t466, A50, H⟩ := H
  try dsimp only at H
  have A5 := Aside0.mk A50
  clear A50
  by_cases c6 : t466 = true
  ·subst c6
   rw [if_pos rfl] at H; try dsimp only at H
   replace H := Option.bind_eq_some_iff.mp H
   obtain ⟨t467, A70, H⟩ := H
   try dsimp only at H
   have A7 := Aside0.mk A70
   clear A70
   obtain rfl := Option.some.inj H
   go_enter Try.func52, Try.ntmps52
   go_wp2_with (first | ((with_reducible refine gate_dst (N := 2) rfl ?_); refine box_event ?hg (N := 2) ?hd (cs := #[.complex .f32 a0_0.re a0_0.im, .complex .f32 a0_1.re a0_1.im, .complex .f32 a0_2.re a0_2.im]) (t := 80) ?hr ?_; (case hd => rfl); (case hg => rfl); (case hr => first | (go_simp; done) | (go_simp; rfl)); intro gb463 hg w8 hbox hb; have n0_ := Aside0.mk (below_step tb hb); have n1_ := Aside0.mk (hbox); have n2_ := Aside0.mk ((by rw [hg]; exact (below_size tb) : w.heap.size ≤ gb463)); have n3_ := Aside0.mk ((by rw [hg]; exact (below_size tb) : w.heap.size ≤ gb463)); clear HB; have HB := n0_; have BK463 := n1_; have GW463 := n2_; have GE463 := n3_; clear n0_ n1_ n2_ n3_; clear hb hbox hg) | ((with_reducible refine gate_dst (N := 3) rfl ?_); refine box_event ?hg (N := 3) ?hd (cs := #[.complex .f32 a1_0.re a1_0.im, .complex .f32 a1_1.re a1_1.im, .complex .f32 a1_2.re a1_2.im]) (t := 80) ?hr ?_; (case hd => rfl); (case hg => rfl); (case hr => first | (go_simp; done) | (go_simp; rfl)); intro gb464 hg w9 hbox hb; have n0_ := Aside0.mk (blk_below (g := gb463) (o := .cells #[.complex .f32 a0_0.re a0_0.im, .complex .f32 a0_1.re a0_1.im, .complex .f32 a0_2.re a0_2.im] 80 (0, 0)) (bu BK463.out) hb); have n1_ := Aside0.mk (below_step tb hb); have n2_ := Aside0.mk (hbox); have n3_ := Aside0.mk ((by rw [hg]; exact (below_size tb) : w.heap.size ≤ gb464)); have n4_ := Aside0.mk ((by rw [hg]; exact (below_size tb) : w.heap.size ≤ gb464)); have n5_ := Aside0.mk ((by rw [hg]; exact Nat.ne_of_lt (blk_lt (g := gb463) (o := .cells #[.complex .f32 a0_0.re a0_0.im, .complex .f32 a0_1.re a0_1.im, .complex .f32 a0_2.re a0_2.im] 80 (0, 0)) (bu BK463.out)) : gb463 ≠ gb464)); have n6_ := Aside0.mk ((by rw [hg]; exact Nat.ne_of_gt (blk_lt (g := gb463) (o := .cells #[.complex .f32 a0_0.re a0_0.im, .complex .f32 a0_1.re a0_1.im, .complex .f32 a0_2.re a0_2.im] 80 (0, 0)) (bu BK463.out)) : gb464 ≠ gb463)); clear BK463; clear HB; have BK463 := n0_; have HB := n1_; have BK464 := n2_; have GW464 := n3_; have GE464 := n4_; have NB463_464 := n5_; have NB464_463 := n6_; clear n0_ n1_ n2_ n3_ n4_ n5_ n6_; clear hb hbox hg; have hnb10 := NB463_464.out; have hnc10 := NB464_463.out; have hcz11_0 : w9.cell? ⟨gb463, 0, none⟩ = some (.complex .f32 a0_0.re a0_0.im) := (blk_cell BK463.out 0).trans rfl; have hcz11_1 : w9.cell? ⟨gb463, 1, none⟩ = some (.complex .f32 a0_1.re a0_1.im) := (blk_cell BK463.out 1).trans rfl; have hcz11_2 : w9.cell? ⟨gb463, 2, none⟩ = some (.complex .f32 a0_2.re a0_2.im) := (blk_cell BK463.out 2).trans rfl; have hfz11_0 := blk_frozen BK463.out 0; have hfz11_1 := blk_frozen BK463.out 1; have hfz11_2 := blk_frozen BK463.out 2; have hcz12_0 : w9.cell? ⟨gb464, 0, none⟩ = some (.complex .f32 a1_0.re a1_0.im) := (blk_cell BK464.out 0).trans rfl; have hcz12_1 : w9.cell? ⟨gb464, 1, none⟩ = some (.complex .f32 a1_1.re a1_1.im) := (blk_cell BK464.out 1).trans rfl; have hcz12_2 : w9.cell? ⟨gb464, 2, none⟩ = some (.complex .f32 a1_2.re a1_2.im) := (blk_cell BK464.out 2).trans rfl; have hfz12_0 := blk_frozen BK464.out 0; have hfz12_1 := blk_frozen BK464.out 1; have hfz12_2 := blk_frozen BK464.out 2) | ((with_reducible refine gate_callee (f := 108) rfl ?_); refine gx_ (some 9) Try.func108 #[.complex .f32 a0_0.re a0_0.im, .complex .f32 a1_0.re a1_0.im] ?_; (with_reducible refine (impl_SameComplex.calls k a0_0 a1_0 true _ A3.out).mono ?_); rintro e w13 ⟨rfl, hb⟩; refine ⟨_, rfl, ?_⟩; have n0_ := Aside0.mk (blk_below (g := gb463) (o := .cells #[.complex .f32 a0_0.re a0_0.im, .complex .f32 a0_1.re a0_1.im, .complex .f32 a0_2.re a0_2.im] 80 (0, 0)) (bu BK463.out) hb); have n1_ := Aside0.mk (blk_below (g := gb464) (o := .cells #[.complex .f32 a1_0.re a1_0.im, .complex .f32 a1_1.re a1_1.im, .complex .f32 a1_2.re a1_2.im] 80 (0, 0)) (bu BK464.out) hb); have n2_ := Aside0.mk (below_step tb hb); clear BK463; clear BK464; clear HB; have BK463 := n0_; have BK464 := n1_; have HB := n2_; clear n0_ n1_ n2_; (try clear hb); (try clear hb2); (try clear hk); (try clear hi); have hcz14_0 : w13.cell? ⟨gb463, 0, none⟩ = some (.complex .f32 a0_0.re a0_0.im) := (blk_cell BK463.out 0).trans rfl; have hcz14_1 : w13.cell? ⟨gb463, 1, none⟩ = some (.complex .f32 a0_1.re a0_1.im) := (blk_cell BK463.out 1).trans rfl; have hcz14_2 : w13.cell? ⟨gb463, 2, none⟩ = some (.complex .f32 a0_2.re a0_2.im) := (blk_cell BK463.out 2).trans rfl; have hfz14_0 := blk_frozen BK463.out 0; have hfz14_1 := blk_frozen BK463.out 1; have hfz14_2 := blk_frozen BK463.out 2; have hcz15_0 : w13.cell? ⟨gb464, 0, none⟩ = some (.complex .f32 a1_0.re a1_0.im) := (blk_cell BK464.out 0).trans rfl; have hcz15_1 : w13.cell? ⟨gb464, 1, none⟩ = some (.complex .f32 a1_1.re a1_1.im) := (blk_cell BK464.out 1).trans rfl; have hcz15_2 : w13.cell? ⟨gb464, 2, none⟩ = some (.complex .f32 a1_2.re a1_2.im) := (blk_cell BK464.out 2).trans rfl; have hfz15_0 := blk_frozen BK464.out 0; have hfz15_1 := blk_frozen BK464.out 1; have hfz15_2 := blk_frozen BK464.out 2) | (go_at_call 108; (with_reducible refine (impl_SameComplex.calls k a0_1 a1_1 true _ A5.out).mono ?_); rintro e w16 ⟨rfl, hb⟩; have n0_ := Aside0.mk (blk_below (g := gb463) (o := .cells #[.complex .f32 a0_0.re a0_0.im, .complex .f32 a0_1.re a0_1.im, .complex .f32 a0_2.re a0_2.im] 80 (0, 0)) (bu BK463.out) hb); have n1_ := Aside0.mk (blk_below (g := gb464) (o := .cells #[.complex .f32 a1_0.re a1_0.im, .complex .f32 a1_1.re a1_1.im, .complex .f32 a1_2.re a1_2.im] 80 (0, 0)) (bu BK464.out) hb); have n2_ := Aside0.mk (below_step tb hb); clear BK463; clear BK464; clear HB; have BK463 := n0_; have BK464 := n1_; have HB := n2_; clear n0_ n1_ n2_; (try clear hb); (try clear hb2); (try clear hk); (try clear hi); have hcz17_0 : w16.cell? ⟨gb463, 0, none⟩ = some (.complex .f32 a0_0.re a0_0.im) := (blk_cell BK463.out 0).trans rfl; have hcz17_1 : w16.cell? ⟨gb463, 1, none⟩ = some (.complex .f32 a0_1.re a0_1.im) := (blk_cell BK463.out 1).trans rfl; have hcz17_2 : w16.cell? ⟨gb463, 2, none⟩ = some (.complex .f32 a0_2.re a0_2.im) := (blk_cell BK463.out 2).trans rfl; have hfz17_0 := blk_frozen BK463.out 0; have hfz17_1 := blk_frozen BK463.out 1; have hfz17_2 := blk_frozen BK463.out 2; have hcz18_0 : w16.cell? ⟨gb464, 0, none⟩ = some (.complex .f32 a1_0.re a1_0.im) := (blk_cell BK464.out 0).trans rfl; have hcz18_1 : w16.cell? ⟨gb464, 1, none⟩ = some (.complex .f32 a1_1.re a1_1.im) := (blk_cell BK464.out 1).trans rfl; have hcz18_2 : w16.cell? ⟨gb464, 2, none⟩ = some (.complex .f32 a1_2.re a1_2.im) := (blk_cell BK464.out 2).trans rfl; have hfz18_0 := blk_frozen BK464.out 0; have hfz18_1 := blk_frozen BK464.out 1; have hfz18_2 := blk_frozen BK464.out 2) | (go_at_call 108; (with_reducible refine (impl_SameComplex.calls k a0_2 a1_2 t467 _ A7.out).mono ?_); rintro e w19 ⟨rfl, hb⟩; have n0_ := Aside0.mk (blk_below (g := gb463) (o := .cells #[.complex .f32 a0_0.re a0_0.im, .complex .f32 a0_1.re a0_1.im, .complex .f32 a0_2.re a0_2.im] 80 (0, 0)) (bu BK463.out) hb); have n1_ := Aside0.mk (blk_below (g := gb464) (o := .cells #[.complex .f32 a1_0.re a1_0.im, .complex .f32 a1_1.re a1_1.im, .complex .f32 a1_2.re a1_2.im] 80 (0, 0)) (bu BK464.out) hb); have n2_ := Aside0.mk (below_step tb hb); clear BK463; clear BK464; clear HB; have BK463 := n0_; have BK464 := n1_; have HB := n2_; clear n0_ n1_ n2_; (try clear hb); (try clear hb2); (try clear hk); (try clear hi)))
   go_ret
   exact ⟨re_, tb⟩
  ·replace c6 := Bool.eq_false_iff.mpr c6
   subst c6
   have H1 : (some false) = some r := by rw [if_neg (show ¬ (false = true) by decide)] at H; exact H
   clear H
   have H := H1
   clear H1
   obtain rfl := Option.some.inj H
   go_enter Try.func52, Try.ntmps52
   go_wp2_with (first | ((with_reducible refine gate_dst (N := 2) rfl ?_); refine box_event ?hg (N := 2) ?hd (cs := #[.complex .f32 a0_0.re a0_0.im, .complex .f32 a0_1.re a0_1.im, .complex .f32 a0_2.re a0_2.im]) (t := 80) ?hr ?_; (case hd => rfl); (case hg => rfl); (case hr => first | (go_simp; done) | (go_simp; rfl)); intro gb463 hg w20 hbox hb; have n0_ := Aside0.mk (below_step tb hb); have n1_ := Aside0.mk (hbox); have n2_ := Aside0.mk ((by rw [hg]; exact (below_size tb) : w.heap.size ≤ gb463)); have n3_ := Aside0.mk ((by rw [hg]; exact (below_size tb) : w.heap.size ≤ gb463)); clear HB; have HB := n0_; have BK463 := n1_; have GW463 := n2_; have GE463 := n3_; clear n0_ n1_ n2_ n3_; clear hb hbox hg) | ((with_reducible refine gate_dst (N := 3) rfl ?_); refine box_event ?hg (N := 3) ?hd (cs := #[.complex .f32 a1_0.re a1_0.im, .complex .f32 a1_1.re a1_1.im, .complex .f32 a1_2.re a1_2.im]) (t := 80) ?hr ?_; (case hd => rfl); (case hg => rfl); (case hr => first | (go_simp; done) | (go_simp; rfl)); intro gb464 hg w21 hbox hb; have n0_ := Aside0.mk (blk_below (g := gb463) (o := .cells #[.complex .f32 a0_0.re a0_0.im, .complex .f32 a0_1.re a0_1.im, .complex .f32 a0_2.re a0_2.im] 80 (0, 0)) (bu BK463.out) hb); have n1_ := Aside0.mk (below_step tb hb); have n2_ := Aside0.mk (hbox); have n3_ := Aside0.mk ((by rw [hg]; exact (below_size tb) : w.heap.size ≤ gb464)); have n4_ := Aside0.mk ((by rw [hg]; exact (below_size tb) : w.heap.size ≤ gb464)); have n5_ := Aside0.mk ((by rw [hg]; exact Nat.ne_of_lt (blk_lt (g := gb463) (o := .cells #[.complex .f32 a0_0.re a0_0.im, .complex .f32 a0_1.re a0_1.im, .complex .f32 a0_2.re a0_2.im] 80 (0, 0)) (bu BK463.out)) : gb463 ≠ gb464)); have n6_ := Aside0.mk ((by rw [hg]; exact Nat.ne_of_gt (blk_lt (g := gb463) (o := .cells #[.complex .f32 a0_0.re a0_0.im, .complex .f32 a0_1.re a0_1.im, .complex .f32 a0_2.re a0_2.im] 80 (0, 0)) (bu BK463.out)) : gb464 ≠ gb463)); clear BK463; clear HB; have BK463 := n0_; have HB := n1_; have BK464 := n2_; have GW464 := n3_; have GE464 := n4_; have NB463_464 := n5_; have NB464_463 := n6_; clear n0_ n1_ n2_ n3_ n4_ n5_ n6_; clear hb hbox hg; have hnb22 := NB463_464.out; have hnc22 := NB464_463.out; have hcz23_0 : w21.cell? ⟨gb463, 0, none⟩ = some (.complex .f32 a0_0.re a0_0.im) := (blk_cell BK463.out 0).trans rfl; have hcz23_1 : w21.cell? ⟨gb463, 1, none⟩ = some (.complex .f32 a0_1.re a0_1.im) := (blk_cell BK463.out 1).trans rfl; have hcz23_2 : w21.cell? ⟨gb463, 2, none⟩ = some (.complex .f32 a0_2.re a0_2.im) := (blk_cell BK463.out 2).trans rfl; have hfz23_0 := blk_frozen BK463.out 0; have hfz23_1 := blk_frozen BK463.out 1; have hfz23_2 := blk_frozen BK463.out 2; have hcz24_0 : w21.cell? ⟨gb464, 0, none⟩ = some (.complex .f32 a1_0.re a1_0.im) := (blk_cell BK464.out 0).trans rfl; have hcz24_1 : w21.cell? ⟨gb464, 1, none⟩ = some (.complex .f32 a1_1.re a1_1.im) := (blk_cell BK464.out 1).trans rfl; have hcz24_2 : w21.cell? ⟨gb464, 2, none⟩ = some (.complex .f32 a1_2.re a1_2.im) := (blk_cell BK464.out 2).trans rfl; have hfz24_0 := blk_frozen BK464.out 0; have hfz24_1 := blk_frozen BK464.out 1; have hfz24_2 := blk_frozen BK464.out 2) | ((with_reducible refine gate_callee (f := 108) rfl ?_); refine gx_ (some 9) Try.func108 #[.complex .f32 a0_0.re a0_0.im, .complex .f32 a1_0.re a1_0.im] ?_; (with_reducible refine (impl_SameComplex.calls k a0_0 a1_0 true _ A3.out).mono ?_); rintro e w25 ⟨rfl, hb⟩; refine ⟨_, rfl, ?_⟩; have n0_ := Aside0.mk (blk_below (g := gb463) (o := .cells #[.complex .f32 a0_0.re a0_0.im, .complex .f32 a0_1.re a0_1.im, .complex .f32 a0_2.re a0_2.im] 80 (0, 0)) (bu BK463.out) hb); have n1_ := Aside0.mk (blk_below (g := gb464) (o := .cells #[.complex .f32 a1_0.re a1_0.im, .complex .f32 a1_1.re a1_1.im, .complex .f32 a1_2.re a1_2.im] 80 (0, 0)) (bu BK464.out) hb); have n2_ := Aside0.mk (below_step tb hb); clear BK463; clear BK464; clear HB; have BK463 := n0_; have BK464 := n1_; have HB := n2_; clear n0_ n1_ n2_; (try clear hb); (try clear hb2); (try clear hk); (try clear hi); have hcz26_0 : w25.cell? ⟨gb463, 0, none⟩ = some (.complex .f32 a0_0.re a0_0.im) := (blk_cell BK463.out 0).trans rfl; have hcz26_1 : w25.cell? ⟨gb463, 1, none⟩ = some (.complex .f32 a0_1.re a0_1.im) := (blk_cell BK463.out 1).trans rfl; have hcz26_2 : w25.cell? ⟨gb463, 2, none⟩ = some (.complex .f32 a0_2.re a0_2.im) := (blk_cell BK463.out 2).trans rfl; have hfz26_0 := blk_frozen BK463.out 0; have hfz26_1 := blk_frozen BK463.out 1; have hfz26_2 := blk_frozen BK463.out 2; have hcz27_0 : w25.cell? ⟨gb464, 0, none⟩ = some (.complex .f32 a1_0.re a1_0.im) := (blk_cell BK464.out 0).trans rfl; have hcz27_1 : w25.cell? ⟨gb464, 1, none⟩ = some (.complex .f32 a1_1.re a1_1.im) := (blk_cell BK464.out 1).trans rfl; have hcz27_2 : w25.cell? ⟨gb464, 2, none⟩ = some (.complex .f32 a1_2.re a1_2.im) := (blk_cell BK464.out 2).trans rfl; have hfz27_0 := blk_frozen BK464.out 0; have hfz27_1 := blk_frozen BK464.out 1; have hfz27_2 := blk_frozen BK464.out 2) | (go_at_call 108; (with_reducible refine (impl_SameComplex.calls k a0_1 a1_1 false _ A5.out).mono ?_); rintro e w28 ⟨rfl, hb⟩; have n0_ := Aside0.mk (blk_below (g := gb463) (o := .cells #[.complex .f32 a0_0.re a0_0.im, .complex .f32 a0_1.re a0_1.im, .complex .f32 a0_2.re a0_2.im] 80 (0, 0)) (bu BK463.out) hb); have n1_ := Aside0.mk (blk_below (g := gb464) (o := .cells #[.complex .f32 a1_0.re a1_0.im, .complex .f32 a1_1.re a1_1.im, .complex .f32 a1_2.re a1_2.im] 80 (0, 0)) (bu BK464.out) hb); have n2_ := Aside0.mk (below_step tb hb); clear BK463; clear BK464; clear HB; have BK463 := n0_; have BK464 := n1_; have HB := n2_; clear n0_ n1_ n2_; (try clear hb); (try clear hb2); (try clear hk); (try clear hi)))
   go_ret
   exact ⟨re_, tb⟩
 ·replace c4 := Bool.eq_false_iff.mpr c4
  subst c4
  have H1 : (some false) = some r := by rw [if_neg (show ¬ (false = true) by decide)] at H; exact H
  clear H
  have H := H1
  clear H1
  obtain rfl := Option.some.inj H
  go_enter Try.func52, Try.ntmps52
  go_wp2_with (first | ((with_reducible refine gate_dst (N := 2) rfl ?_); refine box_event ?hg (N := 2) ?hd (cs := #[.complex .f32 a0_0.re a0_0.im, .complex .f32 a0_1.re a0_1.im, .complex .f32 a0_2.re a0_2.im]) (t := 80) ?hr ?_; (case hd => rfl); (case hg => rfl); (case hr => first | (go_simp; done) | (go_simp; rfl)); intro gb463 hg w29 hbox hb; have n0_ := Aside0.mk (below_step tb hb); have n1_ := Aside0.mk (hbox); have n2_ := Aside0.mk ((by rw [hg]; exact (below_size tb) : w.heap.size ≤ gb463)); have n3_ := Aside0.mk ((by rw [hg]; exact (below_size tb) : w.heap.size ≤ gb463)); clear HB; have HB := n0_; have BK463 := n1_; have GW463 := n2_; have GE463 := n3_; clear n0_ n1_ n2_ n3_; clear hb hbox hg) | ((with_reducible refine gate_dst (N := 3) rfl ?_); refine box_event ?hg (N := 3) ?hd (cs := #[.complex .f32 a1_0.re a1_0.im, .complex .f32 a1_1.re a1_1.im, .complex .f32 a1_2.re a1_2.im]) (t := 80) ?hr ?_; (case hd => rfl); (case hg => rfl); (case hr => first | (go_simp; done) | (go_simp; rfl)); intro gb464 hg w30 hbox hb; have n0_ := Aside0.mk (blk_below (g := gb463) (o := .cells #[.complex .f32 a0_0.re a0_0.im, .complex .f32 a0_1.re a0_1.im, .complex .f32 a0_2.re a0_2.im] 80 (0, 0)) (bu BK463.out) hb); have n1_ := Aside0.mk (below_step tb hb); have n2_ := Aside0.mk (hbox); have n3_ := Aside0.mk ((by rw [hg]; exact (below_size tb) : w.heap.size ≤ gb464)); have n4_ := Aside0.mk ((by rw [hg]; exact (below_size tb) : w.heap.size ≤ gb464)); have n5_ := Aside0.mk ((by rw [hg]; exact Nat.ne_of_lt (blk_lt (g := gb463) (o := .cells #[.complex .f32 a0_0.re a0_0.im, .complex .f32 a0_1.re a0_1.im, .complex .f32 a0_2.re a0_2.im] 80 (0, 0)) (bu BK463.out)) : gb463 ≠ gb464)); have n6_ := Aside0.mk ((by rw [hg]; exact Nat.ne_of_gt (blk_lt (g := gb463) (o := .cells #[.complex .f32 a0_0.re a0_0.im, .complex .f32 a0_1.re a0_1.im, .complex .f32 a0_2.re a0_2.im] 80 (0, 0)) (bu BK463.out)) : gb464 ≠ gb463)); clear BK463; clear HB; have BK463 := n0_; have HB := n1_; have BK464 := n2_; have GW464 := n3_; have GE464 := n4_; have NB463_464 := n5_; have NB464_463 := n6_; clear n0_ n1_ n2_ n3_ n4_ n5_ n6_; clear hb hbox hg; have hnb31 := NB463_464.out; have hnc31 := NB464_463.out; have hcz32_0 : w30.cell? ⟨gb463, 0, none⟩ = some (.complex .f32 a0_0.re a0_0.im) := (blk_cell BK463.out 0).trans rfl; have hcz32_1 : w30.cell? ⟨gb463, 1, none⟩ = some (.complex .f32 a0_1.re a0_1.im) := (blk_cell BK463.out 1).trans rfl; have hcz32_2 : w30.cell? ⟨gb463, 2, none⟩ = some (.complex .f32 a0_2.re a0_2.im) := (blk_cell BK463.out 2).trans rfl; have hfz32_0 := blk_frozen BK463.out 0; have hfz32_1 := blk_frozen BK463.out 1; have hfz32_2 := blk_frozen BK463.out 2; have hcz33_0 : w30.cell? ⟨gb464, 0, none⟩ = some (.complex .f32 a1_0.re a1_0.im) := (blk_cell BK464.out 0).trans rfl; have hcz33_1 : w30.cell? ⟨gb464, 1, none⟩ = some (.complex .f32 a1_1.re a1_1.im) := (blk_cell BK464.out 1).trans rfl; have hcz33_2 : w30.cell? ⟨gb464, 2, none⟩ = some (.complex .f32 a1_2.re a1_2.im) := (blk_cell BK464.out 2).trans rfl; have hfz33_0 := blk_frozen BK464.out 0; have hfz33_1 := blk_frozen BK464.out 1; have hfz33_2 := blk_frozen BK464.out 2) | ((with_reducible refine gate_callee (f := 108) rfl ?_); refine gx_ (some 9) Try.func108 #[.complex .f32 a0_0.re a0_0.im, .complex .f32 a1_0.re a1_0.im] ?_; (with_reducible refine (impl_SameComplex.calls k a0_0 a1_0 false _ A3.out).mono ?_); rintro e w34 ⟨rfl, hb⟩; refine ⟨_, rfl, ?_⟩; have n0_ := Aside0.mk (blk_below (g := gb463) (o := .cells #[.complex .f32 a0_0.re a0_0.im, .complex .f32 a0_1.re a0_1.im, .complex .f32 a0_2.re a0_2.im] 80 (0, 0)) (bu BK463.out) hb); have n1_ := Aside0.mk (blk_below (g := gb464) (o := .cells #[.complex .f32 a1_0.re a1_0.im, .complex .f32 a1_1.re a1_1.im, .complex .f32 a1_2.re a1_2.im] 80 (0, 0)) (bu BK464.out) hb); have n2_ := Aside0.mk (below_step tb hb); clear BK463; clear BK464; clear HB; have BK463 := n0_; have BK464 := n1_; have HB := n2_; clear n0_ n1_ n2_; (try clear hb); (try clear hb2); (try clear hk); (try clear hi)))
  go_ret
  exact ⟨re_, tb⟩

end Go.Proofs.Ytcgpomicgbmdlaa.PFnCommon
namespace Go.Proofs.Ytcgpomicgbmdlaa.PFnCommon
open Go.RowKit Go.Proofs.YtcgpomicgbmdlaaW.PrintWords Go.Proofs.YtcgpomicgbmdlaaW.PrintLast Go.Proofs.YtcgpomicgbmdlaaW.PrintMore
attribute [local go_sem] max2_int min2_int max_two min_two max_three min_three max_four min_four   -- for this text's walks alone
set_option linter.unusedVariables false
set_option linter.unusedSimpArgs false

/-! ### laws_FnCommon: function 6 -/
mutual
def laws_FnCommon.j0 : Nat → Int → List Int → List Int → List Int → Bool → Cx → Cx → Cx → List (S66) → Option (Bool)
 | 0, _, _, _, _, _, _, _, _, _ => none
 | k + 1, x7, x9, x11, x13, x89, x476000, x476001, x476002, x476003 => if x89 = true then (some false) else (laws_FnCommon.l0 k x7 x9 x11 x13 0 x476000 x476001 x476002 x476003)
def laws_FnCommon.l0 : Nat → Int → List Int → List Int → List Int → Int → Cx → Cx → Cx → List (S66) → Option (Bool)
 | 0, _, _, _, _, _, _, _, _, _ => none
 | k + 1, x7, x9, x11, x13, x15, x476000, x476001, x476002, x476003 => if x15 < (x9.length : Int) then (if 0 ≤ x15 then (if x15 < (x11.length : Int) then (if (rd x9 x15) = (rd x11 x15) then (if x15 < (x13.length : Int) then (if (rd x9 x15) = (rd x13 x15) then (laws_FnCommon.l0 k x7 x9 x11 x13 (wrap64 (x15 + 1)) x476000 x476001 x476002 x476003) else (some false)) else (none)) else (some false)) else (none)) else (none)) else (if (x9.length : Int) < (x11.length : Int) then (if (x9.length : Int) < (x13.length : Int) then (if 0 ≤ (x9.length : Int) then (laws_FnCommon.j2 k x7 ((rd x11 (x9.length : Int)) == (rd x13 (x9.length : Int))) x476000 x476001 x476002 x476003) else (none)) else (laws_FnCommon.j2 k x7 false x476000 x476001 x476002 x476003)) else (laws_FnCommon.j2 k x7 false x476000 x476001 x476002 x476003))
def laws_FnCommon.j2 : Nat → Int → Bool → Cx → Cx → Cx → List (S66) → Option (Bool)
 | 0, _, _, _, _, _, _ => none
 | k + 1, x7, x140, x476000, x476001, x476002, x476003 => if x140 = true then (some false) else ((impl_FaultVoltages.f k x476000 x476001 x476002 x476003 x7 1 (⟨1056964608, 0⟩ : Cx) 0).bind fun bt496 => ((impl_PartsOf.f k x476000 x476001 x476002).bind fun bt501 => ((impl_PhasesOf.f k (⟨0, 0⟩ : Cx) bt501.2.1 (⟨0, 0⟩ : Cx)).bind fun bt504 => ((impl_PathImpedance.f k x476000 x476001 x476002 x476003 x7).bind fun bt508 => ((impl_SequenceOf.f bt508.1 bt508.2.1).bind fun bt511 => ((impl_PartsOf.f k x476000 x476001 x476002).bind fun bt513 => ((impl_FaultParts.f k bt513.2.1 bt511.1 bt511.2 1 (⟨1056964608, 0⟩ : Cx)).bind fun bt516 => ((impl_FaultCurrents.f k x476000 x476001 x476002 x476003 x7 1 (⟨1056964608, 0⟩ : Cx)).bind fun bt521 => (if bt496.2.2.2 = true then (if bt508.2.2 = true then (if bt516.2.2.2 = true then (if bt521.2.2.2 = true then ((laws_r8Apart.f bt496.1 bt504.1).bind fun t526 => (if (flt .f64 t526 4562254508917369340) = true then ((laws_r8Apart.f bt496.2.1 bt504.2.1).bind fun t527 => (if (flt .f64 t527 4562254508917369340) = true then ((laws_r8Apart.f bt496.2.2.1 bt504.2.2).bind fun t528 => (if (flt .f64 t528 4562254508917369340) = true then ((impl_PhasesOf.f k bt516.1 bt516.2.1 bt516.2.2.1).bind fun bt529 => ((impl_SamePhases.f k bt521.1 bt521.2.1 bt521.2.2.1 bt529.1 bt529.2.1 bt529.2.2).bind fun t532 => (if t532 = true then ((impl_SameParts.f k bt516.1 bt516.2.1 bt516.2.2.1 bt516.1 bt516.2.1 bt516.2.2.1).bind fun t533 => (some t533)) else (some false)))) else (some false))) else (some false))) else (some false))) else (some false)) else (some false)) else (some false)) else (some false))))))))))
end
def laws_FnCommon.f (k : Nat) (l0 : List Int) (l1 : List Int) : Option (Bool) := (laws_r8Long.f l0 l1).bind fun t468 => (if t468 = true then (some true) else ((spec_R8Feeder.f k l0).bind fun bt469 => ((laws_r8At.f l1 0 (bt469.2.2.2.length : Int)).bind fun t476 => ((laws_r8At.f l1 1 (bt469.2.2.2.length : Int)).bind fun t477 => ((impl_CommonPath.f k bt469.1 bt469.2.1 bt469.2.2.1 bt469.2.2.2 t476 t477).bind fun bt478 => ((impl_PathTo.f k bt469.1 bt469.2.1 bt469.2.2.1 bt469.2.2.2 t476).bind fun bt482 => ((impl_PathTo.f k bt469.1 bt469.2.1 bt469.2.2.1 bt469.2.2.2 t477).bind fun bt486 => (if bt478.2 = true then (if bt482.2 = true then (if bt486.2 = true then (if (bt478.1.length : Int) = 0 then (laws_FnCommon.j0 k t476 bt478.1 bt482.1 bt486.1 true bt469.1 bt469.2.1 bt469.2.2.1 bt469.2.2.2) else (if (bt478.1.length : Int) > (bt482.1.length : Int) then (laws_FnCommon.j0 k t476 bt478.1 bt482.1 bt486.1 true bt469.1 bt469.2.1 bt469.2.2.1 bt469.2.2.2) else (laws_FnCommon.j0 k t476 bt478.1 bt482.1 bt486.1 (decide ((bt478.1.length : Int) > (bt486.1.length : Int))) bt469.1 bt469.2.1 bt469.2.2.1 bt469.2.2.2))) else (laws_FnCommon.j0 k t476 bt478.1 bt482.1 bt486.1 true bt469.1 bt469.2.1 bt469.2.2.1 bt469.2.2.2)) else (laws_FnCommon.j0 k t476 bt478.1 bt482.1 bt486.1 true bt469.1 bt469.2.1 bt469.2.2.1 bt469.2.2.2)) else (laws_FnCommon.j0 k t476 bt478.1 bt482.1 bt486.1 true bt469.1 bt469.2.1 bt469.2.2.1 bt469.2.2.2)))))))))
theorem laws_FnCommon.mono_l : ∀ k, (∀ y0 y1 y2 y3 y4 y5 y6 y7 y8, LeO (laws_FnCommon.j0 k y0 y1 y2 y3 y4 y5 y6 y7 y8) (laws_FnCommon.j0 (k + 1) y0 y1 y2 y3 y4 y5 y6 y7 y8)) ∧ (∀ y0 y1 y2 y3 y4 y5 y6 y7 y8, LeO (laws_FnCommon.l0 k y0 y1 y2 y3 y4 y5 y6 y7 y8) (laws_FnCommon.l0 (k + 1) y0 y1 y2 y3 y4 y5 y6 y7 y8)) ∧ (∀ y0 y1 y2 y3 y4 y5, LeO (laws_FnCommon.j2 k y0 y1 y2 y3 y4 y5) (laws_FnCommon.j2 (k + 1) y0 y1 y2 y3 y4 y5))
 | 0 => ⟨fun _ _ _ _ _ _ _ _ _ r h => by simp [laws_FnCommon.j0] at h, fun _ _ _ _ _ _ _ _ _ r h => by simp [laws_FnCommon.l0] at h, fun _ _ _ _ _ _ r h => by simp [laws_FnCommon.j2] at h⟩
 | k + 1 => by
  obtain ⟨ih0, ih1, ih2⟩ := laws_FnCommon.mono_l k
  refine ⟨?_, ?_, ?_⟩
  ·intro y0 y1 y2 y3 y4 y5 y6 y7 y8
   unfold laws_FnCommon.j0
   repeat' first
   | (with_reducible exact ih0 _ _ _ _ _ _ _ _ _)
   | (with_reducible exact ih1 _ _ _ _ _ _ _ _ _)
   | (with_reducible exact ih2 _ _ _ _ _ _)
   | (with_reducible exact impl_CommonPath.mono _ _ _ _ _ _ _)
   | (with_reducible exact impl_FaultCurrents.mono _ _ _ _ _ _ _ _)
   | (with_reducible exact impl_FaultParts.mono _ _ _ _ _ _)
   | (with_reducible exact impl_FaultVoltages.mono _ _ _ _ _ _ _ _ _)
   | (with_reducible exact impl_PartsOf.mono _ _ _ _)
   | (with_reducible exact impl_PathImpedance.mono _ _ _ _ _ _)
   | (with_reducible exact impl_PathTo.mono _ _ _ _ _ _)
   | (with_reducible exact impl_PhasesOf.mono _ _ _ _)
   | (with_reducible exact impl_SameParts.mono _ _ _ _ _ _ _)
   | (with_reducible exact impl_SamePhases.mono _ _ _ _ _ _ _)
   | (with_reducible exact spec_R8Feeder.mono _ _)
   | (with_reducible exact LeO.refl _)
   | (with_reducible exact LeO.none _)
   | (with_reducible refine LeO.ite ?_ ?_)
   | (with_reducible refine LeO.bind ?_ (fun _ => ?_))
   | exact ih0 _ _ _ _ _ _ _ _ _
   | exact ih1 _ _ _ _ _ _ _ _ _
   | exact ih2 _ _ _ _ _ _
   | exact impl_CommonPath.mono _ _ _ _ _ _ _
   | exact impl_FaultCurrents.mono _ _ _ _ _ _ _ _
   | exact impl_FaultParts.mono _ _ _ _ _ _
   | exact impl_FaultVoltages.mono _ _ _ _ _ _ _ _ _
   | exact impl_PartsOf.mono _ _ _ _
   | exact impl_PathImpedance.mono _ _ _ _ _ _
   | exact impl_PathTo.mono _ _ _ _ _ _
   | exact impl_PhasesOf.mono _ _ _ _
   | exact impl_SameParts.mono _ _ _ _ _ _ _
   | exact impl_SamePhases.mono _ _ _ _ _ _ _
   | exact spec_R8Feeder.mono _ _
   | exact LeO.none _
   | refine LeO.ite ?_ ?_
   | refine LeO.bind ?_ (fun _ => ?_)
  ·intro y0 y1 y2 y3 y4 y5 y6 y7 y8
   unfold laws_FnCommon.l0
   repeat' first
   | (with_reducible exact ih0 _ _ _ _ _ _ _ _ _)
   | (with_reducible exact ih1 _ _ _ _ _ _ _ _ _)
   | (with_reducible exact ih2 _ _ _ _ _ _)
   | (with_reducible exact impl_CommonPath.mono _ _ _ _ _ _ _)
   | (with_reducible exact impl_FaultCurrents.mono _ _ _ _ _ _ _ _)
   | (with_reducible exact impl_FaultParts.mono _ _ _ _ _ _)
   | (with_reducible exact impl_FaultVoltages.mono _ _ _ _ _ _ _ _ _)
   | (with_reducible exact impl_PartsOf.mono _ _ _ _)
   | (with_reducible exact impl_PathImpedance.mono _ _ _ _ _ _)
   | (with_reducible exact impl_PathTo.mono _ _ _ _ _ _)
   | (with_reducible exact impl_PhasesOf.mono _ _ _ _)
   | (with_reducible exact impl_SameParts.mono _ _ _ _ _ _ _)
   | (with_reducible exact impl_SamePhases.mono _ _ _ _ _ _ _)
   | (with_reducible exact spec_R8Feeder.mono _ _)
   | (with_reducible exact LeO.refl _)
   | (with_reducible exact LeO.none _)
   | (with_reducible refine LeO.ite ?_ ?_)
   | (with_reducible refine LeO.bind ?_ (fun _ => ?_))
   | exact ih0 _ _ _ _ _ _ _ _ _
   | exact ih1 _ _ _ _ _ _ _ _ _
   | exact ih2 _ _ _ _ _ _
   | exact impl_CommonPath.mono _ _ _ _ _ _ _
   | exact impl_FaultCurrents.mono _ _ _ _ _ _ _ _
   | exact impl_FaultParts.mono _ _ _ _ _ _
   | exact impl_FaultVoltages.mono _ _ _ _ _ _ _ _ _
   | exact impl_PartsOf.mono _ _ _ _
   | exact impl_PathImpedance.mono _ _ _ _ _ _
   | exact impl_PathTo.mono _ _ _ _ _ _
   | exact impl_PhasesOf.mono _ _ _ _
   | exact impl_SameParts.mono _ _ _ _ _ _ _
   | exact impl_SamePhases.mono _ _ _ _ _ _ _
   | exact spec_R8Feeder.mono _ _
   | exact LeO.none _
   | refine LeO.ite ?_ ?_
   | refine LeO.bind ?_ (fun _ => ?_)
  ·intro y0 y1 y2 y3 y4 y5
   unfold laws_FnCommon.j2
   repeat' first
   | (with_reducible exact ih0 _ _ _ _ _ _ _ _ _)
   | (with_reducible exact ih1 _ _ _ _ _ _ _ _ _)
   | (with_reducible exact ih2 _ _ _ _ _ _)
   | (with_reducible exact impl_CommonPath.mono _ _ _ _ _ _ _)
   | (with_reducible exact impl_FaultCurrents.mono _ _ _ _ _ _ _ _)
   | (with_reducible exact impl_FaultParts.mono _ _ _ _ _ _)
   | (with_reducible exact impl_FaultVoltages.mono _ _ _ _ _ _ _ _ _)
   | (with_reducible exact impl_PartsOf.mono _ _ _ _)
   | (with_reducible exact impl_PathImpedance.mono _ _ _ _ _ _)
   | (with_reducible exact impl_PathTo.mono _ _ _ _ _ _)
   | (with_reducible exact impl_PhasesOf.mono _ _ _ _)
   | (with_reducible exact impl_SameParts.mono _ _ _ _ _ _ _)
   | (with_reducible exact impl_SamePhases.mono _ _ _ _ _ _ _)
   | (with_reducible exact spec_R8Feeder.mono _ _)
   | (with_reducible exact LeO.refl _)
   | (with_reducible exact LeO.none _)
   | (with_reducible refine LeO.ite ?_ ?_)
   | (with_reducible refine LeO.bind ?_ (fun _ => ?_))
   | exact ih0 _ _ _ _ _ _ _ _ _
   | exact ih1 _ _ _ _ _ _ _ _ _
   | exact ih2 _ _ _ _ _ _
   | exact impl_CommonPath.mono _ _ _ _ _ _ _
   | exact impl_FaultCurrents.mono _ _ _ _ _ _ _ _
   | exact impl_FaultParts.mono _ _ _ _ _ _
   | exact impl_FaultVoltages.mono _ _ _ _ _ _ _ _ _
   | exact impl_PartsOf.mono _ _ _ _
   | exact impl_PathImpedance.mono _ _ _ _ _ _
   | exact impl_PathTo.mono _ _ _ _ _ _
   | exact impl_PhasesOf.mono _ _ _ _
   | exact impl_SameParts.mono _ _ _ _ _ _ _
   | exact impl_SamePhases.mono _ _ _ _ _ _ _
   | exact spec_R8Feeder.mono _ _
   | exact LeO.none _
   | refine LeO.ite ?_ ?_
   | refine LeO.bind ?_ (fun _ => ?_)
theorem laws_FnCommon.mono : ∀ a0 a1 k, LeO (laws_FnCommon.f k a0 a1) (laws_FnCommon.f (k + 1) a0 a1) := by
 intro a0 a1 k
 obtain ⟨ih0, ih1, ih2⟩ := laws_FnCommon.mono_l k
 unfold laws_FnCommon.f
 repeat' first
   | (with_reducible exact ih0 _ _ _ _ _ _ _ _ _)
   | (with_reducible exact ih1 _ _ _ _ _ _ _ _ _)
   | (with_reducible exact ih2 _ _ _ _ _ _)
   | (with_reducible exact impl_CommonPath.mono _ _ _ _ _ _ _)
   | (with_reducible exact impl_FaultCurrents.mono _ _ _ _ _ _ _ _)
   | (with_reducible exact impl_FaultParts.mono _ _ _ _ _ _)
   | (with_reducible exact impl_FaultVoltages.mono _ _ _ _ _ _ _ _ _)
   | (with_reducible exact impl_PartsOf.mono _ _ _ _)
   | (with_reducible exact impl_PathImpedance.mono _ _ _ _ _ _)
   | (with_reducible exact impl_PathTo.mono _ _ _ _ _ _)
   | (with_reducible exact impl_PhasesOf.mono _ _ _ _)
   | (with_reducible exact impl_SameParts.mono _ _ _ _ _ _ _)
   | (with_reducible exact impl_SamePhases.mono _ _ _ _ _ _ _)
   | (with_reducible exact spec_R8Feeder.mono _ _)
   | (with_reducible exact LeO.refl _)
   | (with_reducible exact LeO.none _)
   | (with_reducible refine LeO.ite ?_ ?_)
   | (with_reducible refine LeO.bind ?_ (fun _ => ?_))
   | exact ih0 _ _ _ _ _ _ _ _ _
   | exact ih1 _ _ _ _ _ _ _ _ _
   | exact ih2 _ _ _ _ _ _
   | exact impl_CommonPath.mono _ _ _ _ _ _ _
   | exact impl_FaultCurrents.mono _ _ _ _ _ _ _ _
   | exact impl_FaultParts.mono _ _ _ _ _ _
   | exact impl_FaultVoltages.mono _ _ _ _ _ _ _ _ _
   | exact impl_PartsOf.mono _ _ _ _
   | exact impl_PathImpedance.mono _ _ _ _ _ _
   | exact impl_PathTo.mono _ _ _ _ _ _
   | exact impl_PhasesOf.mono _ _ _ _
   | exact impl_SameParts.mono _ _ _ _ _ _ _
   | exact impl_SamePhases.mono _ _ _ _ _ _ _
   | exact spec_R8Feeder.mono _ _
   | exact LeO.none _
   | refine LeO.ite ?_ ?_
   | refine LeO.bind ?_ (fun _ => ?_)

end Go.Proofs.Ytcgpomicgbmdlaa.PFnCommon
